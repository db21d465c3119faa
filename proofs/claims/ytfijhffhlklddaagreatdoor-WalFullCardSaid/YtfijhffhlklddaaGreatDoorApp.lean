/-
  Contracts of package wal: Append and Sync.
-/
import Derived.Test.YtfijhffhlklddaaGreatDoorWal
namespace Go.Proofs.YtfijhffhlklddaaGreatDoor
open Go.RowKit

set_option maxRecDepth 100000 in
set_option maxHeartbeats 1000000 in
theorem lmay_long {E : Errs} {B : Nat} {l : Nat} {d : Dk} {S : LogS} (r : Bytes) (w : World) (henv : Env E B w) (h : LogAt B w l d S) (hd : S.dead = false) (h1 : 2000 < r.length) :
    Calls Tryz.prog 45 #[lp l, .string (bs r)] w fun e w' => e = .returned (sent E.lLong) ∧ ∃ n, w' = w.drewN n := by
  have c8 : w.cell? ⟨l, 8, none⟩ = some (.bool false) := by rw [Lib.cell_of_heap h.cells, hd]; rfl
  have hz : (bs r).size = r.length := bs_size r
  have q1 : decide ((2000 : Int) < r.length) = true := by rw [decide_eq_true_iff]; omega
  have g := henv.lLong.1
  clear h hd henv
  go_enter Tryz.func45, Tryz.ntmps45
  go_wp2_with fail
  go_ret
  exact ⟨rfl, 0, rfl⟩

set_option maxRecDepth 100000 in
set_option maxHeartbeats 1000000 in
theorem lmay_full {E : Errs} {B : Nat} {l : Nat} {d : Dk} {S : LogS} (r : Bytes) (w : World) (henv : Env E B w) (h : LogAt B w l d S) (hd : S.dead = false) (h1 : r.length ≤ 2000) (h2 : S.logs < S.used + cntS r.length ∨ most < S.next) :
    Calls Tryz.prog 45 #[lp l, .string (bs r)] w fun e w' => e = .returned (sent E.lFull) ∧ ∃ n, w' = w.drewN n := by
  have c3 : w.cell? ⟨l, 6, none⟩ = some (.int .u64 S.next) := by rw [Lib.cell_of_heap h.cells]; rfl
  have c8 : w.cell? ⟨l, 8, none⟩ = some (.bool false) := by rw [Lib.cell_of_heap h.cells, hd]; rfl
  have HL := Left_ok w h
  have hz : (bs r).size = r.length := bs_size r
  have HS := frame_size (r.length : Int)
  rw [sizeS_cnt _ h1] at HS
  have q1 : decide ((2000 : Int) < r.length) = false := by rw [decide_eq_false_iff_not]; omega
  have HE := Lib.hid henv
  clear henv
  by_cases h3 : S.logs < S.used + cntS r.length
  · have q2 : decide ((S.logs : Int) - S.used < (cntS r.length : Nat)) = true := by rw [decide_eq_true_iff]; omega
    clear h hd h2 h3
    generalize cntS r.length = cc at *
    go_enter Tryz.func45, Tryz.ntmps45
    go_wp2_with fail
    refine (HS _).mono ?_; rintro e w1 ⟨rfl, rfl⟩
    go_wp2_with fail
    refine HL.mono ?_; rintro e w2 ⟨rfl, n, rfl⟩
    obtain ⟨w2, hw2⟩ : ∃ w2, w2 = w.drewN n := ⟨_, rfl⟩
    have g : w2.cell? ⟨6, 0, none⟩ = some (sent E.lFull) := by rw [hw2]; exact (HE.out.drewN n).lFull.1
    rw [← hw2]
    have HW := Lib.hid hw2
    clear hw2
    go_wp2_with fail
    go_ret
    exact ⟨rfl, n, HW.out⟩
  · have h4 : most < S.next := by rcases h2 with h2 | h2; exact absurd h2 h3; exact h2
    have q2 : decide ((S.logs : Int) - S.used < (cntS r.length : Nat)) = false := by rw [decide_eq_false_iff_not]; omega
    have q3 : decide ((2147483648 : Int) < S.next) = true := by rw [decide_eq_true_iff]; unfold most at h4; omega
    clear h hd h2 h3 h4
    generalize cntS r.length = cc at *
    go_enter Tryz.func45, Tryz.ntmps45
    go_wp2_with fail
    refine (HS _).mono ?_; rintro e w1 ⟨rfl, rfl⟩
    go_wp2_with fail
    refine HL.mono ?_; rintro e w2 ⟨rfl, n, rfl⟩
    obtain ⟨w2, hw2⟩ : ∃ w2, w2 = w.drewN n := ⟨_, rfl⟩
    have g : w2.cell? ⟨6, 0, none⟩ = some (sent E.lFull) := by rw [hw2]; exact (HE.out.drewN n).lFull.1
    have c3 : w2.cell? ⟨l, 6, none⟩ = some (.int .u64 S.next) := by rw [hw2]; exact c3
    rw [← hw2]
    have HW := Lib.hid hw2
    clear hw2
    go_wp2_with fail
    go_ret
    exact ⟨rfl, n, HW.out⟩

set_option maxRecDepth 100000 in
set_option maxHeartbeats 1000000 in
theorem ltold_long {E : Errs} {B : Nat} (w : World) (henv : Env E B w) :
    Calls Tryz.prog 46 #[sent E.lLong] w fun e w' => e = .returned (.int .i64 2) ∧ w = w' := by
  have g1 := henv.lDead.1
  have g2 := henv.lLong.1
  obtain ⟨_, _, k1, d1, b1⟩ := henv.lDead
  obtain ⟨_, _, k2, d2, b2⟩ := henv.lLong
  have HI := is_other E.lLong E.lDead _ _ _ _ w (Ne.symm henv.ne5) b2 b1
  have HJ := is_same E.lLong w
  clear henv b1 b2
  go_enter Tryz.func46, Tryz.ntmps46
  go_wp2_with fail
  refine HI.mono ?_; rintro e w1 ⟨rfl, rfl⟩
  go_wp2_with fail
  refine HJ.mono ?_; rintro e w1 ⟨rfl, rfl⟩
  go_wp2_with fail
  go_ret
  exact ⟨rfl, rfl⟩

set_option maxRecDepth 100000 in
set_option maxHeartbeats 1000000 in
theorem ltold_full {E : Errs} {B : Nat} (w : World) (henv : Env E B w) :
    Calls Tryz.prog 46 #[sent E.lFull] w fun e w' => e = .returned (.int .i64 73) ∧ w = w' := by
  have g1 := henv.lDead.1
  have g2 := henv.lLong.1
  have g3 := henv.lFull.1
  obtain ⟨_, _, k1, d1, b1⟩ := henv.lDead
  obtain ⟨_, _, k2, d2, b2⟩ := henv.lLong
  obtain ⟨_, _, k3, d3, b3⟩ := henv.lFull
  have HI := is_other E.lFull E.lDead _ _ _ _ w (Ne.symm henv.ne6) b3 b1
  have HI2 := is_other E.lFull E.lLong _ _ _ _ w (Ne.symm henv.ne7) b3 b2
  have HJ := is_same E.lFull w
  clear henv b1 b2 b3
  go_enter Tryz.func46, Tryz.ntmps46
  go_wp2_with fail
  refine HI.mono ?_; rintro e w1 ⟨rfl, rfl⟩
  go_wp2_with fail
  refine HI2.mono ?_; rintro e w1 ⟨rfl, rfl⟩
  go_wp2_with fail
  refine HJ.mono ?_; rintro e w1 ⟨rfl, rfl⟩
  go_wp2_with fail
  go_ret
  exact ⟨rfl, rfl⟩

set_option maxRecDepth 100000 in
set_option maxHeartbeats 1000000 in
theorem Append_long {E : Errs} {B : Nat} {l : Nat} {d : Dk} {S : LogS} (r : Bytes) (w : World) (henv : Env E B w) (h : LogAt B w l d S) (hd : S.dead = false) (h1 : 2000 < r.length) :
    Calls Tryz.prog 12 #[lp l, .string (bs r)] w fun e w' => e = .returned (.int .i64 2) ∧ Below w.heap.size w w' := by
  have HM := lmay_long r w henv h hd h1
  have HT := fun n => ltold_long (w.drewN n) (henv.drewN n)
  clear henv h hd h1
  go_enter Tryz.func12, Tryz.ntmps12
  go_wp2_with fail
  refine HM.mono ?_; rintro e w1 ⟨rfl, n, rfl⟩
  go_wp2_with fail
  refine (HT n).mono ?_; rintro e w1 ⟨rfl, rfl⟩
  go_wp2_with fail
  go_ret
  exact ⟨rfl, below_drewN _ _⟩

set_option maxRecDepth 100000 in
set_option maxHeartbeats 1000000 in
theorem Append_full {E : Errs} {B : Nat} {l : Nat} {d : Dk} {S : LogS} (r : Bytes) (w : World) (henv : Env E B w) (h : LogAt B w l d S) (hd : S.dead = false) (h1 : r.length ≤ 2000) (h2 : S.logs < S.used + cntS r.length ∨ most < S.next) :
    Calls Tryz.prog 12 #[lp l, .string (bs r)] w fun e w' => e = .returned (.int .i64 73) ∧ Below w.heap.size w w' := by
  have HM := lmay_full r w henv h hd h1 h2
  have HT := fun n => ltold_full (w.drewN n) (henv.drewN n)
  clear henv h hd h1 h2
  go_enter Tryz.func12, Tryz.ntmps12
  go_wp2_with fail
  refine HM.mono ?_; rintro e w1 ⟨rfl, n, rfl⟩
  go_wp2_with fail
  refine (HT n).mono ?_; rintro e w1 ⟨rfl, rfl⟩
  go_wp2_with fail
  go_ret
  exact ⟨rfl, below_drewN _ _⟩

set_option maxRecDepth 100000 in
set_option maxHeartbeats 1000000 in
theorem Sync_ok {B : Nat} {l : Nat} {d : Dk} {S : LogS} {D : DiskS} (w : World) (h : LogAt B w l d S) (hk : DiskAt B w d D) (hd : S.dead = false) (hdd : D.dead = false) (ha : D.armed = false) :
    Calls Tryz.prog 13 #[lp l] w fun e w' => e = .returned (.int .i64 0) ∧ LogAt B w' l d S ∧ DiskAt B w' d D.flushed ∧ Chg [l, d.bm, d.bc] w w' := by
  have c0 : w.cell? ⟨l, 0, none⟩ = some d.p := by rw [Lib.cell_of_heap h.cells]; rfl
  have c8 : w.cell? ⟨l, 8, none⟩ = some (.bool false) := by rw [Lib.cell_of_heap h.cells, hd]; rfl
  have HF := Flush_ok w hk hdd ha
  have hnd := h.not_disk hk
  have hrd := h.rv_disk hk
  have HH := Lib.hid h
  have HD := Lib.hid hd
  have HK := Lib.hid hk
  have HN := Lib.hid hnd
  have HR := Lib.hid hrd
  clear h hk hd hnd hrd
  go_enter Tryz.func13, Tryz.ntmps13
  go_wp2_with fail
  refine HF.mono ?_; rintro e w1 ⟨rfl, hk1, hc1⟩
  have h1 := HH.out.chg hc1 (fun e => HN.out (by simp at e ⊢; rcases e with e | e <;> simp [e])) (fun k hk e => HR.out k hk (by simp at e ⊢; rcases e with e | e <;> simp [e]))
  have c8 : w1.cell? ⟨l, 8, none⟩ = some (.bool false) := by rw [Lib.cell_of_heap h1.cells, HD.out]; rfl
  have f8 : w1.frozen? ⟨l, 8, none⟩ = false := Lib.frozen_of_heap h1.cells 8
  have H1 := Lib.hid h1
  have HK1 := Lib.hid hk1
  clear h1 hk1
  go_wp2_with fail
  go_ret
  have h1 := H1.out
  have hc : Chg [l] w1 (w1.setCell ⟨l, 8, none⟩ (.bool false)) := setCell_chg w1 ⟨l, 8, none⟩ _ (by simp)
  refine ⟨rfl, ?_, HK1.out.chg hc (fun e => HN.out (by simp at e; simp [e])) (fun e => HN.out (by simp at e; simp [e])) (fun e => HN.out (by simp at e; simp [e])), (hc1.mono (by simp)).trans (hc.mono (by simp))⟩
  exact { cells := by simp [World.setCell, Array.getElem?_modify, h1.cells, HD.out], row := row_chg h1.row hc (fun k hk e => h1.rv_ne (by simp at e; rw [← e]; exact hk)), b1 := h1.b1, n2 := h1.n2, u2 := h1.u2, l2 := h1.l2, r2 := h1.r2 }
end Go.Proofs.YtfijhffhlklddaaGreatDoor
