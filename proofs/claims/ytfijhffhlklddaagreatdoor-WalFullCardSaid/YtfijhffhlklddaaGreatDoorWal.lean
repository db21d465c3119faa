/-
  Contracts of package wal: a log that is not dead, over a disk that is neither dead nor armed.
-/
import Derived.Test.YtfijhffhlklddaaGreatDoorEnds
namespace Go.Proofs.YtfijhffhlklddaaGreatDoor
open Go.RowKit

structure LogS where
  logs : Nat
  pg : Int
  pgs : Int
  rv : Value
  recs : List Bytes
  next : Nat
  used : Nat
  dead : Bool
abbrev strs (l : List Bytes) : List Value := l.map fun r => Value.string (bs r)
structure LogAt (B : Nat) (w : World) (l : Nat) (d : Dk) (S : LogS) : Prop where
  cells : w.heap[l]? = some (.cells #[d.p, .int .i64 2, .int .i64 S.logs, .int .i64 S.pg, .int .i64 S.pgs, S.rv, .int .u64 S.next, .int .i64 S.used, .bool S.dead] 83 (0, 0))
  row : w.ownsRow B 9 1 S.rv S.recs.length (strs S.recs)
  b1 : B ≤ l
  n2 : S.next ≤ most + 1
  u2 : S.used ≤ 5000
  l2 : S.logs ≤ 5000
  r2 : S.recs.length ≤ 100000
theorem LogAt.lt {B : Nat} {w : World} {l : Nat} {d : Dk} {S : LogS} (h : LogAt B w l d S) : l < w.heap.size := (Array.getElem?_eq_some_iff.1 h.cells).1
theorem LogAt.rv_ne {B : Nat} {w : World} {l : Nat} {d : Dk} {S : LogS} (h : LogAt B w l d S) : S.rv.ownBlock ≠ some l := Lib.ownBlock_ne h.row h.cells (by decide)
theorem LogAt.rv_base {B : Nat} {w : World} {l : Nat} {d : Dk} {S : LogS} (h : LogAt B w l d S) : ∀ k, S.rv.ownBlock = some k → B ≤ k ∧ k < w.heap.size := h.row.lt
theorem LogAt.rv_disk {B : Nat} {w : World} {l : Nat} {d : Dk} {S : LogS} {D : DiskS} (h : LogAt B w l d S) (hd : DiskAt B w d D) : ∀ k, S.rv.ownBlock = some k → k ∉ d.F := by
  intro k hk hF
  rcases h.row.2 with ⟨e, _⟩ | ⟨g, cap, cur, e, _, hg, _⟩
  · rw [e] at hk; cases hk
  · rw [e] at hk
    simp only [Value.ownBlock, Option.some.injEq] at hk
    subst hk
    simp only [List.mem_cons, List.mem_nil_iff, or_false] at hF
    rcases hF with rfl | rfl | rfl
    · rw [hd.cells] at hg; simp at hg
    · obtain ⟨_, _, h2⟩ := hd.hm.isMap; rw [h2] at hg; cases hg
    · obtain ⟨_, _, h2⟩ := hd.hc.isMap; rw [h2] at hg; cases hg
theorem LogAt.not_disk {B : Nat} {w : World} {l : Nat} {d : Dk} {S : LogS} {D : DiskS} (h : LogAt B w l d S) (hd : DiskAt B w d D) : l ∉ d.F := by
  intro hF
  have hg := h.cells
  simp only [List.mem_cons, List.mem_nil_iff, or_false] at hF
  rcases hF with rfl | rfl | rfl
  · rw [hd.cells] at hg; simp at hg
  · obtain ⟨_, _, h2⟩ := hd.hm.isMap; rw [h2] at hg; cases hg
  · obtain ⟨_, _, h2⟩ := hd.hc.isMap; rw [h2] at hg; cases hg
theorem row_chg {B : Nat} {w w' : World} {v : Value} {n : Nat} {xs : List Value} (h : w.ownsRow B 9 1 v n xs) {F : List Nat} (hc : Chg F w w') (hF : ∀ k, v.ownBlock = some k → k ∉ F) : w'.ownsRow B 9 1 v n xs := by
  refine ⟨h.1, ?_⟩
  rcases h.2 with hn | ⟨g, cap, cur, e, hb, hg, rest⟩
  · exact .inl hn
  · refine .inr ⟨g, cap, cur, e, hb, ?_, rest⟩
    rw [hc.block g (Array.getElem?_eq_some_iff.1 hg).1 (hF g (by rw [e]; rfl))]
    exact hg
theorem LogAt.chg {B : Nat} {w w' : World} {l : Nat} {d : Dk} {S : LogS} (h : LogAt B w l d S) {F : List Nat} (hc : Chg F w w') (h1 : l ∉ F) (h2 : ∀ k, S.rv.ownBlock = some k → k ∉ F) : LogAt B w' l d S :=
  { cells := (hc.block _ h.lt h1).trans h.cells, row := row_chg h.row hc h2, b1 := h.b1, n2 := h.n2, u2 := h.u2, l2 := h.l2, r2 := h.r2 }
theorem LogAt.below {B : Nat} {w w' : World} {l : Nat} {d : Dk} {S : LogS} (h : LogAt B w l d S) (hb : Below w.heap.size w w') : LogAt B w' l d S := h.chg (Below.chg hb []) (by simp) (by simp)

abbrev lp (l : Nat) : Value := .pointer (some ⟨l, 0, none⟩)

set_option maxRecDepth 100000 in
set_option maxHeartbeats 1000000 in
theorem Next_ok {B : Nat} {l : Nat} {d : Dk} {S : LogS} (w : World) (h : LogAt B w l d S) :
    Calls Tryz.prog 14 #[lp l] w fun e w' => e = .returned (.int .u32 S.next) ∧ w = w' := by
  have c6 : w.cell? ⟨l, 6, none⟩ = some (.int .u64 S.next) := by rw [Lib.cell_of_heap h.cells]; rfl
  have hn := h.n2
  have q1 : IntKind.u32.wrap (S.next : Int) = S.next := by rw [IntKind.wrap_u32]; unfold most at hn; omega
  clear h hn
  go_enter Tryz.func14, Tryz.ntmps14
  go_wp2_with fail
  go_ret
  exact ⟨rfl, rfl⟩

set_option maxRecDepth 100000 in
set_option maxHeartbeats 1000000 in
theorem Left_ok {B : Nat} {l : Nat} {d : Dk} {S : LogS} (w : World) (h : LogAt B w l d S) :
    Calls Tryz.prog 23 #[lp l] w fun e w' => e = .returned (.int .i64 ((S.logs : Int) - S.used)) ∧ ∃ n, w' = w.drewN n := by
  have c2 : w.cell? ⟨l, 2, none⟩ = some (.int .i64 S.logs) := by rw [Lib.cell_of_heap h.cells]; rfl
  have c7 : w.cell? ⟨l, 7, none⟩ = some (.int .i64 S.used) := by rw [Lib.cell_of_heap h.cells]; rfl
  have hu := h.u2
  have hl := h.l2
  clear h
  go_enter Tryz.func23, Tryz.ntmps23
  go_wp2_with fail
  go_quiet (fail)
  go_wp2_with fail
  go_ret
  exact ⟨rfl, _, rfl⟩

set_option maxRecDepth 100000 in
set_option maxHeartbeats 1000000 in
theorem Empty_ok {B : Nat} {l : Nat} {d : Dk} {S : LogS} (w : World) (h : LogAt B w l d S) :
    Calls Tryz.prog 22 #[lp l] w fun e w' => e = .returned (.tuple #[]) ∧ LogAt B w' l d { S with rv := .slice none 0 0, recs := [], used := 0 } ∧ Chg [l] w w' := by
  have c5 : w.cell? ⟨l, 5, none⟩ = some S.rv := by rw [Lib.cell_of_heap h.cells]; rfl
  have c7 : w.cell? ⟨l, 7, none⟩ = some (.int .i64 S.used) := by rw [Lib.cell_of_heap h.cells]; rfl
  have f5 : w.frozen? ⟨l, 5, none⟩ = false := Lib.frozen_of_heap h.cells 5
  have f7 : w.frozen? ⟨l, 7, none⟩ = false := Lib.frozen_of_heap h.cells 7
  have HH := Lib.hid h
  clear h
  go_enter Tryz.func22, Tryz.ntmps22
  go_wp2_with fail
  go_end0
  have h := HH.out
  refine ⟨rfl, ?_, (setCell_chg w ⟨l, 5, none⟩ _ (by simp)).trans (setCell_chg _ ⟨l, 7, none⟩ _ (by simp))⟩
  exact { cells := by simp [World.setCell, Array.getElem?_modify, h.cells], row := World.ownsRow_nil _ _ _ _, b1 := h.b1, n2 := h.n2, u2 := by simp, l2 := h.l2, r2 := by simp }

set_option maxRecDepth 100000 in
theorem Next_nil (w : World) : Calls Tryz.prog 14 #[.pointer none] w fun e w' => e = .returned (.int .u32 0) ∧ w = w' := by
  go_enter Tryz.func14, Tryz.ntmps14
  go_wp2_with fail
  go_ret
  exact ⟨rfl, rfl⟩

set_option maxRecDepth 100000 in
theorem Left_nil (w : World) : Calls Tryz.prog 23 #[.pointer none] w fun e w' => e = .returned (.int .i64 0) ∧ w = w' := by
  go_enter Tryz.func23, Tryz.ntmps23
  go_wp2_with fail
  go_ret
  exact ⟨rfl, rfl⟩

set_option maxRecDepth 100000 in
theorem Records_nil (w : World) : Calls Tryz.prog 17 #[.pointer none] w fun e w' => e = .returned (.slice none 0 0) ∧ w = w' := by
  go_enter Tryz.func17, Tryz.ntmps17
  go_wp2_with fail
  go_ret
  exact ⟨rfl, rfl⟩

set_option maxRecDepth 100000 in
theorem Sync_nil (w : World) : Calls Tryz.prog 13 #[.pointer none] w fun e w' => e = .returned (.int .i64 1) ∧ w = w' := by
  go_enter Tryz.func13, Tryz.ntmps13
  go_wp2_with fail
  go_ret
  exact ⟨rfl, rfl⟩

set_option maxRecDepth 100000 in
theorem Empty_nil (w : World) : Calls Tryz.prog 22 #[.pointer none] w fun e w' => e = .returned (.tuple #[]) ∧ w = w' := by
  go_enter Tryz.func22, Tryz.ntmps22
  go_wp2_with fail
  go_end0
  exact ⟨rfl, rfl⟩
set_option maxRecDepth 100000 in
theorem Append_nil (s : ByteArray) (w : World) : Calls Tryz.prog 12 #[.pointer none, .string s] w fun e w' => e = .returned (.int .i64 1) ∧ w = w' := by
  go_enter Tryz.func12, Tryz.ntmps12
  go_wp2_with fail
  go_ret
  exact ⟨rfl, rfl⟩

set_option maxRecDepth 100000 in
set_option maxHeartbeats 1000000 in
theorem Records_ok {B : Nat} {l : Nat} {d : Dk} {S : LogS} (w : World) (h : LogAt B w l d S) :
    Calls Tryz.prog 17 #[lp l] w fun e w' => ∃ v, e = .returned v ∧ w'.ownsRow w.heap.size 9 1 v S.recs.length (strs S.recs) ∧ Below w.heap.size w w' := by
  have c5 : w.cell? ⟨l, 5, none⟩ = some S.rv := by rw [Lib.cell_of_heap h.cells]; rfl
  have hrow := h.row
  have hr2 := h.r2
  clear h
  rcases hrow.2 with ⟨e, e0⟩ | ⟨g, cap, cur, e, hb, hg, hnc, hcm, hcs, ht⟩
  · rw [e] at c5
    have hrec : S.recs = [] := List.length_eq_zero_iff.1 e0
    rw [hrec]
    have HC := Tryz.slices_Clone_string_nil 0 0
    clear hrow e e0 hrec hr2
    go_enter Tryz.func17, Tryz.ntmps17
    go_wp2_with fail
    refine (HC _).mono ?_; rintro e w1 ⟨rfl, rfl⟩
    go_wp2_with fail
    go_ret
    exact ⟨_, rfl, World.ownsRow_nil _ _ _ _, Below.refl _ _⟩
  · rw [e] at c5
    have hcells : ∀ j, j < (S.recs.map bs).length → w.cell? ⟨g, 0 + j, none⟩ = some (.string ((S.recs.map bs).getD j ByteArray.empty)) := by
      intro j hj
      rw [List.length_map] at hj
      have h1 := hrow.cells (g := g) (by rw [e]; rfl) j (.string (bs (S.recs.getD j []))) (by
        rw [List.getElem?_map, List.getElem?_eq_getElem hj]
        simp [List.getD, List.getElem?_eq_getElem hj])
      have hadd : (⟨g, 0, none⟩ : Addr).add j = ⟨g, j, none⟩ := by unfold Addr.add; split <;> simp_all
      rw [hadd] at h1
      rw [Nat.zero_add, h1]
      simp [List.getD, List.getElem?_eq_getElem hj]
    have HC := Tryz.slices_Clone_string g 0 S.recs.length cap (S.recs.map bs) w (by simp) (by omega) hcells
    have het : ((S.recs.map bs).take S.recs.length).map Value.string = strs S.recs := by
      rw [List.take_of_length_le (by simp), List.map_map]; rfl
    rw [het] at HC
    clear hrow e hb hg hnc hcm hcs ht hcells hr2 het
    go_enter Tryz.func17, Tryz.ntmps17
    go_wp2_with fail
    refine HC.mono ?_; rintro e w1 ⟨v, rfl, hv, _, hb⟩
    go_wp2_with fail
    go_ret
    exact ⟨_, rfl, hv, hb⟩

/-- Why a record may not be written. -/
def mayCode (S : LogS) (n : Nat) : Int := if 2000 < n then 2 else if S.logs < S.used + cntS n ∨ most < S.next then 73 else 0

set_option maxRecDepth 100000 in
set_option maxHeartbeats 1000000 in
theorem lmay_ok {B : Nat} {l : Nat} {d : Dk} {S : LogS} (r : Bytes) (w : World) (h : LogAt B w l d S) (hd : S.dead = false) (h1 : r.length ≤ 2000) (h2 : S.used + cntS r.length ≤ S.logs) (h3 : S.next ≤ most) :
    Calls Tryz.prog 45 #[lp l, .string (bs r)] w fun e w' => e = .returned .nilIface ∧ ∃ n, w' = w.drewN n := by
  have c3 : w.cell? ⟨l, 6, none⟩ = some (.int .u64 S.next) := by rw [Lib.cell_of_heap h.cells]; rfl
  have c8 : w.cell? ⟨l, 8, none⟩ = some (.bool false) := by rw [Lib.cell_of_heap h.cells, hd]; rfl
  have HL := Left_ok w h
  have hz : (bs r).size = r.length := bs_size r
  have HS := frame_size (r.length : Int)
  rw [sizeS_cnt _ h1] at HS
  have q1 : decide ((2000 : Int) < r.length) = false := by rw [decide_eq_false_iff_not]; omega
  have q2 : decide ((S.logs : Int) - S.used < (cntS r.length : Nat)) = false := by rw [decide_eq_false_iff_not]; omega
  have q3 : decide ((2147483648 : Int) < S.next) = false := by rw [decide_eq_false_iff_not]; unfold most at h3; omega
  clear h hd h2 h3
  generalize cntS r.length = cc at *
  go_enter Tryz.func45, Tryz.ntmps45
  go_wp2_with fail
  refine (HS _).mono ?_; rintro e w1 ⟨rfl, rfl⟩
  go_wp2_with fail
  refine HL.mono ?_; rintro e w1 ⟨rfl, n, rfl⟩
  go_wp2_with fail
  go_ret
  exact ⟨rfl, _, rfl⟩
end Go.Proofs.YtfijhffhlklddaaGreatDoor
