/-
  The heads' closed run, and their laws that ask no reference: HeadLays, HeadBack.
-/
import Derived.Test.YtmpipcmdkjfmfaaGreatDoorHdIO
namespace Go.Proofs.YtmpipcmdkjfmfaaGreatDoor
open Go.RowKit

/-- A disk that nobody has written. -/
def freshD (n : Nat) : DiskS := ⟨n, fun _ => none, fun _ => none, false, 0, .slice none 0 0, false⟩
theorem pick_sector {pg : Int} {i : Nat} {h : Hd} (hg : h.good = true) (he : h.e % 2 = i) (hr : h.r < pg) : pickH pg i h.sector = some h := by
  unfold pickH
  rw [decH_sector h hg]
  simp only
  rw [if_pos ⟨he, hr⟩]
theorem headsTo_two (pg : Int) (D : DiskS) : headsTo pg D 2 = (pickH pg 0 (byt (D.read 0))).toList ++ (pickH pg 1 (byt (D.read 1))).toList := by
  unfold headsTo headsTo headsTo
  rw [List.nil_append]; rfl
/-- Two heads in a row. -/
theorem row_two {B : Nat} {w : World} {v : Value} {x y : Hd} {n : Nat} (hn : n = 2) (h : w.ownsRow B 24 3 v n (hcell [x, y])) :
    ∃ g cap, v = .slice (some ⟨g, 0, none⟩) 2 cap ∧ B ≤ g ∧ w.cell? ⟨g, 0, none⟩ = some (.int .u32 x.e) ∧ w.cell? ⟨g, 1, none⟩ = some (.int .i64 x.r) ∧ w.cell? ⟨g, 2, none⟩ = some (.int .u32 x.f) ∧
      w.cell? ⟨g, 3, none⟩ = some (.int .u32 y.e) ∧ w.cell? ⟨g, 4, none⟩ = some (.int .i64 y.r) ∧ w.cell? ⟨g, 5, none⟩ = some (.int .u32 y.f) := by
  subst hn
  rcases h.2 with ⟨_, h0⟩ | ⟨g, cap, cur, rfl, hg, hb, _, _, _, h4⟩
  · cases h0
  · have hc : ∀ (j : Nat) (u : Value), (hcell [x, y])[j]? = some u → j < 6 → w.cell? ⟨g, j, none⟩ = some u := fun j u hu hj => by
      rw [Lib.cell_of_heap hb]
      rw [← h4, List.getElem?_take_of_lt (by omega)] at hu
      simpa using hu
    exact ⟨g, cap, rfl, hg, hc 0 _ rfl (by omega), hc 1 _ rfl (by omega), hc 2 _ rfl (by omega), hc 3 _ rfl (by omega), hc 4 _ rfl (by omega), hc 5 _ rfl (by omega)⟩

theorem sortH_length : ∀ l : List Hd, (sortH l).length = l.length
  | [] => rfl
  | [_] => rfl
  | [x, y] => by show (if x.e < y.e then [y, x] else [x, y]).length = 2; split <;> rfl
  | _ :: _ :: _ :: _ => rfl
/-- Read: just these heads. -/
theorem hread_is {E : Errs} {B : Nat} {d : Dk} {D : DiskS} (w : World) (henv : Env E B w) (hk : DiskAt B w d D) (hdd : D.dead = false) (hn : 32 ≤ D.n) {l : List Hd} (hl : sortH (headsTo (pagesOf D.n) D 2) = l) :
    Calls Tryz.prog 27 #[d.p] w fun e w' => ∃ v, e = .returned (.tuple #[v, .int .i64 0]) ∧ w'.ownsRow w.heap.size 24 3 v l.length (hcell l) ∧ Below w.heap.size w w' := by
  refine (hread_ok w henv hk hdd hn).mono fun e w' hh => ?_
  obtain ⟨v, h1, h2, h3⟩ := hh
  rw [hl, ← sortH_length, hl] at h2
  exact ⟨v, h1, h2, h3⟩
theorem wakes_heads : sortH (headsTo (pagesOf 32) (((freshD 32).put 1 (bs (Hd.sector ⟨5, 3, 9⟩))).put 0 (bs (Hd.sector ⟨6, -1, 10⟩))) 2) = [⟨6, -1, 10⟩, ⟨5, 3, 9⟩] := by
  have p6 := pick_sector (pg := (pagesOf 32 : Int)) (i := 0) (h := ⟨6, -1, 10⟩) (by decide) rfl (by decide)
  have p5 := pick_sector (pg := (pagesOf 32 : Int)) (i := 1) (h := ⟨5, 3, 9⟩) (by decide) rfl (by decide)
  rw [headsTo_two, read_put_same, read_put_other _ _ _ _ (by decide), read_put_same, byt, bs_data, byt, bs_data, p6, p5]
  rfl

set_option maxRecDepth 100000 in
set_option maxHeartbeats 8000000 in
theorem hwakes_ok {E : Errs} {B : Nat} (w : World) (henv : Env E B w) :
    Calls Tryz.prog 14 #[] w fun e w' => e = .returned (.bool true) ∧ Below w.heap.size w w' := by
  have HN := New_ok 32 (by decide) (by decide) w
  have HENV := Lib.hid henv
  clear henv
  go_enter Tryz.func14, Tryz.ntmps14
  go_wp2_with fail
  refine HN.mono ?_; rintro e w1 ⟨d, rfl, hd1, hb1⟩
  have h5 : Hd.good ⟨5, 3, 9⟩ = true := by decide
  have h6 : Hd.good ⟨6, -1, 10⟩ = true := by decide
  have HW1 := hwrite_ok (D := freshD 32) ⟨5, 3, 9⟩ w1 (HENV.out.grew hb1) (hd1.mono HENV.out.le) rfl rfl (by decide) h5 (by decide)
  clear HN
  go_wp2_with fail
  refine HW1.mono ?_; rintro e w2 ⟨rfl, hd2, hc2⟩
  have hF : ∀ k ∈ [d.bc], w.heap.size ≤ k := fun k hk => hd1.F k (by simp at hk; simp [hk])
  have hB2 : Below w.heap.size w w2 := hb1.trans (hc2.below hb1.size hF)
  have HW2 := hwrite_ok ⟨6, -1, 10⟩ w2 (HENV.out.grew hB2) hd2 rfl rfl (by decide) h6 (by decide)
  clear HW1
  go_wp2_with fail
  refine HW2.mono ?_; rintro e w3 ⟨rfl, hd3, hc3⟩
  have hB3 : Below w.heap.size w w3 := hB2.trans (hc3.below hB2.size hF)
  have HL := Lay_ok 32 (by decide) (by decide)
  have HB3 := Lib.hid hB3
  have HR' := hread_is w3 (HENV.out.grew hB3) hd3 rfl (by decide) (l := [⟨6, -1, 10⟩, ⟨5, 3, 9⟩]) (by rw [show (((5 : Nat) : Int) % 2) = 1 from rfl, show (((6 : Nat) : Int) % 2) = 0 from rfl]; exact wakes_heads)
  clear HW2 hd1 hd2 hd3 hc2 hc3 hB2 hB3 hb1 hF h5 h6
  go_wp2_with fail
  refine HR'.mono ?_; rintro e w4 ⟨v, rfl, hrow, hb4⟩
  obtain ⟨g, cap, rfl, hg, c0, c1, c2, c3, c4, c5⟩ := row_two rfl hrow
  have hgl : g < w4.heap.size := World.block_lt_of_cell? w4 _ c0
  have c0' : w4.cell? ⟨g, 0, none⟩ = some (.int .u32 6) := c0
  have c4' : w4.cell? ⟨g, 4, none⟩ = some (.int .i64 3) := c4
  have hB4 := HB3.out.trans (hb4.mono HB3.out.size)
  have HB4 := Lib.hid hB4
  clear hrow c0 c1 c2 c3 c4 c5 hb4 HR' hB4
  go_wp2_with fail
  refine (HL _).mono ?_; rintro e w5 ⟨rfl, hb5⟩
  have d0 := (hb5.cell (p := ⟨g, 0, none⟩) hgl).trans c0'
  have d4 := (hb5.cell (p := ⟨g, 4, none⟩) hgl).trans c4'
  have hB5 := HB4.out.trans (hb5.mono HB4.out.size)
  have HB5 := Lib.hid hB5
  have l1 : ((logsOf 32 : Nat) : Int) = 7 := rfl
  have l2 : ((2 + logsOf 32 : Nat) : Int) = 9 := rfl
  have l3 : ((32 - 2 - logsOf 32 : Nat) : Int) = 23 := rfl
  have hgl5 : g < w5.heap.size := Nat.lt_of_lt_of_le hgl hb5.size
  rw [l1, l2, l3]
  clear hb5 HL hB5 c0' c4' hgl l1 l2 l3
  go_wp2_with fail
  go_ret
  exact ⟨rfl, HB5.out.alloc HB5.out.size _⟩

set_option maxRecDepth 100000 in
set_option maxHeartbeats 8000000 in
theorem lays_ok {E : Errs} {B : Nat} (n : Nat) (hn : n < 65536) (w : World) (henv : Env E B w) :
    Calls Tryz.prog 5 #[.int .u16 n] w fun e w' => e = .returned (.bool true) ∧ Below w.heap.size w w' := by
  obtain ⟨k, hk⟩ : ∃ k, k = 32 + n % 4064 := ⟨_, rfl⟩
  have hk1 : 32 ≤ k := by omega
  have hk2 : k < 4096 := by omega
  have HL1 := Lay_ok k hk1 (by omega)
  have HL2 := Lay_ok (k + 1) (by omega) (by omega)
  have HL3 := Lay_none 31 (.inl (by decide))
  have HL4 := Lay_none 4097 (.inr (by decide))
  rw [if_pos (by decide)] at HL3
  rw [if_neg (by decide)] at HL4
  obtain ⟨a, ha⟩ : ∃ a : Nat, a = logsOf k := ⟨_, rfl⟩
  obtain ⟨b, hb⟩ : ∃ b : Nat, b = logsOf (k + 1) := ⟨_, rfl⟩
  obtain ⟨pa, hpa⟩ : ∃ pa : Nat, pa = k - 2 - a := ⟨_, rfl⟩
  obtain ⟨pb, hpb⟩ : ∃ pb : Nat, pb = k + 1 - 2 - b := ⟨_, rfl⟩
  rw [← ha, ← hpa] at HL1
  rw [← hb, ← hpb] at HL2
  have e1 : ((2 + a : Nat) : Int) = 2 + (a : Int) := by omega
  have e2 : ((2 + b : Nat) : Int) = 2 + (b : Int) := by omega
  rw [e1] at HL1
  rw [e2] at HL2
  unfold logsOf at ha hb
  have f1 : a ≤ b := by omega
  have f2 : pa ≤ pb := by omega
  have f3 : 7 ≤ a := by omega
  have f4 : 23 ≤ pa := by omega
  have f5 : 2 + a + pa = k := by omega
  have f6 : k ≤ 4096 := by omega
  have q0 : IntKind.i64.wrap ((2 : Int) + a + pa) = k := by rw [IntWalk.i64_in _ (by omega)]; omega
  have q1 : decide (a ≤ b) = true := by rw [decide_eq_true_iff]; exact f1
  have q2 : decide (pa ≤ pb) = true := by rw [decide_eq_true_iff]; exact f2
  have q3 : decide ((7 : Int) ≤ a) = true := by rw [decide_eq_true_iff]; omega
  have q4 : decide ((23 : Int) ≤ pa) = true := by rw [decide_eq_true_iff]; omega
  have q5 : (((2 : Int) + a + pa) == (k : Int)) = true := by rw [beq_iff_eq]; omega
  have e3 : ((k + 1 : Nat) : Int) = (k : Int) + 1 := by omega
  rw [e3] at HL2
  have hki : (32 : Int) + (n : Int) % 4064 = k := by omega
  have HW := fun w' (he : Env E B w') => hwakes_ok w' he
  have HENV := Lib.hid henv
  clear henv ha hb hpa hpb e1 e2 e3 hk
  go_enter Tryz.func5, Tryz.ntmps5
  go_wp2_with fail
  refine (HL1 _).mono ?_; rintro e w1 ⟨rfl, hb1⟩
  go_wp2_with fail
  refine (HL2 _).mono ?_; rintro e w2 ⟨rfl, hb2⟩
  have hA2 : w2.heap[w1.heap.size]? = some (.cells #[.int .i64 2, .int .i64 a, .int .i64 (2 + a), .int .i64 pa] 27 (0, 0)) := by
    rw [hb2.block _ (by simp)]; exact heap_alloc_new w1 _
  have hB2 := (hb1.alloc hb1.size _).trans (hb2.mono (by simp; have := hb1.size; omega))
  have hl2 : w1.heap.size < w2.heap.size := (Array.getElem?_eq_some_iff.1 hA2).1
  go_wp2_with fail
  refine (HL3 _).mono ?_; rintro e w3 ⟨rfl, hb3⟩
  have hA3 := (hb3.block w1.heap.size (by simp; omega)).trans ((Lib.alloc_old _ _ _ hl2).trans hA2)
  have hE3 : w3.heap[w2.heap.size]? = some (.cells #[.int .i64 2, .int .i64 b, .int .i64 (2 + b), .int .i64 pb] 27 (0, 0)) := by
    rw [hb3.block _ (by simp)]; exact heap_alloc_new w2 _
  have hB3 := (hB2.alloc hB2.size _).trans (hb3.mono (by simp; have := hB2.size; omega))
  have hl3 : w2.heap.size < w3.heap.size := (Array.getElem?_eq_some_iff.1 hE3).1
  clear hA2 hB2 hb1 hb2 hb3
  go_wp2_with fail
  refine (HL4 _).mono ?_; rintro e w4 ⟨rfl, hb4⟩
  have hA4 := (hb4.block w1.heap.size (by simp; omega)).trans ((Lib.alloc_old _ _ _ (by omega)).trans hA3)
  have hE4 := (hb4.block w2.heap.size (by simp; omega)).trans ((Lib.alloc_old _ _ _ hl3).trans hE3)
  have hB4 := (hB3.alloc hB3.size _).trans (hb4.mono (by simp; have := hB3.size; omega))
  have hl4 : w1.heap.size < w4.heap.size := (Array.getElem?_eq_some_iff.1 hA4).1
  have hl5 : w2.heap.size < w4.heap.size := (Array.getElem?_eq_some_iff.1 hE4).1
  have a0 : w4.cell? ⟨w1.heap.size, 0, none⟩ = some (.int .i64 2) := by rw [Lib.cell_of_heap hA4]; rfl
  have a1 : w4.cell? ⟨w1.heap.size, 1, none⟩ = some (.int .i64 a) := by rw [Lib.cell_of_heap hA4]; rfl
  have a2 : w4.cell? ⟨w1.heap.size, 2, none⟩ = some (.int .i64 (2 + a)) := by rw [Lib.cell_of_heap hA4]; rfl
  have a3 : w4.cell? ⟨w1.heap.size, 3, none⟩ = some (.int .i64 pa) := by rw [Lib.cell_of_heap hA4]; rfl
  have b1 : w4.cell? ⟨w2.heap.size, 1, none⟩ = some (.int .i64 b) := by rw [Lib.cell_of_heap hE4]; rfl
  have b3 : w4.cell? ⟨w2.heap.size, 3, none⟩ = some (.int .i64 pb) := by rw [Lib.cell_of_heap hE4]; rfl
  have hBf := hB4.alloc hB4.size (.cells #[.int .i64 0, .int .i64 0, .int .i64 0, .int .i64 0] 27)
  have HW5 := HW _ (HENV.out.grew hBf)
  have HBF := Lib.hid hBf
  clear hA3 hE3 hA4 hE4 hB3 hB4 hb4 hBf HL1 HL2 HL3 HL4 HW hl2 hl3
  go_wp2_with fail
  refine HW5.mono ?_; rintro e w5 ⟨rfl, hb5⟩
  go_wp2_with fail
  go_ret
  exact ⟨rfl, HBF.out.trans (hb5.mono HBF.out.size)⟩
end Go.Proofs.YtmpipcmdkjfmfaaGreatDoor
