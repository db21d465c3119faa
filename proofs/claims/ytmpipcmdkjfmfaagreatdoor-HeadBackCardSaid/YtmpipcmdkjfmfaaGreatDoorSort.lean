/-
  slices.SortFunc over two heads at most.
-/
import Derived.Test.YtmpipcmdkjfmfaaGreatDoorHead
import Derived.BigRegion
import Derived.Deep.RegionHeld3
import Derived.StillTailTactics
namespace Go.Proofs.YtmpipcmdkjfmfaaGreatDoor
open Go.RowKit

theorem isNaN_any (a : Nat) (w : World) : Calls Tryz.prog 134 #[.int .u32 a] w fun e w' => e = .returned (.bool false) ∧ w = w' := by
  go_enter Tryz.func134, Tryz.ntmps134
  go_wp2_with fail
  go_ret
  exact ⟨rfl, rfl⟩
/-- The order of two numbers. -/
def cmpN (a b : Nat) : Int := if a < b then -1 else if b < a then 1 else 0
set_option maxRecDepth 100000 in
theorem cmp_any (a b : Nat) (w : World) : Calls Tryz.prog 87 #[.int .u32 a, .int .u32 b] w fun e w' => e = .returned (.int .i64 (cmpN a b)) ∧ w = w' := by
  have HN := isNaN_any
  by_cases h1 : a < b
  · have e1 : cmpN a b = -1 := by unfold cmpN; rw [if_pos h1]
    rw [e1]; clear e1
    go_enter Tryz.func87, Tryz.ntmps87
    go_wp2_with (go_at_call 134; refine (HN _ _).mono ?_; rintro e w' ⟨rfl, rfl⟩)
    go_ret
    exact ⟨rfl, rfl⟩
  · by_cases h2 : b < a
    · have e1 : cmpN a b = 1 := by unfold cmpN; rw [if_neg h1, if_pos h2]
      rw [e1]; clear e1
      go_enter Tryz.func87, Tryz.ntmps87
      go_wp2_with (go_at_call 134; refine (HN _ _).mono ?_; rintro e w' ⟨rfl, rfl⟩)
      go_ret
      exact ⟨rfl, rfl⟩
    · have e1 : cmpN a b = 0 := by unfold cmpN; rw [if_neg h1, if_neg h2]
      rw [e1]; clear e1
      go_enter Tryz.func87, Tryz.ntmps87
      go_wp2_with (go_at_call 134; refine (HN _ _).mono ?_; rintro e w' ⟨rfl, rfl⟩)
      go_ret
      exact ⟨rfl, rfl⟩
set_option maxRecDepth 100000 in
theorem less_any (x y : Hd) (w : World) : Calls Tryz.prog 86 #[hv x, hv y] w fun e w' => e = .returned (.int .i64 (cmpN y.e x.e)) ∧ Below w.heap.size w w' := by
  have HC := cmp_any y.e x.e
  go_enter Tryz.func86, Tryz.ntmps86
  go_wp2_with fail
  refine (HC _).mono ?_; rintro e w1 ⟨rfl, rfl⟩
  go_wp2_with fail
  go_ret
  exact ⟨rfl, ((Below.refl _ _).alloc (Nat.le_refl _) _).alloc (by simp) _⟩

abbrev hcell (l : List Hd) : List Value := l.flatMap fun h => [.int .u32 h.e, .int .i64 h.r, .int .u32 h.f]
abbrev fnLess : Value := .func (.func 86) #[] #[]
set_option maxRecDepth 100000 in
theorem ins_few (v : Value) (n : Nat) (hn : n ≤ 1) (w : World) : Calls Tryz.prog 160 #[v, .int .i64 0, .int .i64 n, fnLess] w fun e w' => e = .returned (.tuple #[]) ∧ w = w' := by
  have q : decide ((1 : Int) < n) = false := by rw [decide_eq_false_iff_not]; omega
  go_enter Tryz.func160, Tryz.ntmps160
  go_wp2_with fail
  refine wp_loop_rounds 1 ?_
  rw [rounds_succ]
  go_wp2_with fail
  go_end0
  exact ⟨rfl, rfl⟩

set_option maxRecDepth 100000 in
set_option maxHeartbeats 4000000 in
theorem ins_two (g cap : Nat) (x y : Hd) (w : World) (rest : List Value) (hb : w.heap[g]? = some (.cells (hcell [x, y] ++ rest).toArray 24 (0, 0))) (hxy : ¬ x.e < y.e) :
    Calls Tryz.prog 160 #[.slice (some ⟨g, 0, none⟩) 2 cap, .int .i64 0, .int .i64 2, fnLess] w fun e w' => e = .returned (.tuple #[]) ∧ Below w.heap.size w w' := by
  have c0 : w.cell? ⟨g, 0, none⟩ = some (.int .u32 x.e) := by rw [Lib.cell_of_heap hb]; rfl
  have c1 : w.cell? ⟨g, 1, none⟩ = some (.int .i64 x.r) := by rw [Lib.cell_of_heap hb]; rfl
  have c2 : w.cell? ⟨g, 2, none⟩ = some (.int .u32 x.f) := by rw [Lib.cell_of_heap hb]; rfl
  have c3 : w.cell? ⟨g, 3, none⟩ = some (.int .u32 y.e) := by rw [Lib.cell_of_heap hb]; rfl
  have c4 : w.cell? ⟨g, 4, none⟩ = some (.int .i64 y.r) := by rw [Lib.cell_of_heap hb]; rfl
  have c5 : w.cell? ⟨g, 5, none⟩ = some (.int .u32 y.f) := by rw [Lib.cell_of_heap hb]; rfl
  have HL := less_any y x
  have q : decide (cmpN x.e y.e < 0) = false := by
    rw [decide_eq_false_iff_not]; unfold cmpN; rw [if_neg hxy]; split <;> omega
  have hw0 : IntKind.i64.wrap ((1 : Int) - 1) = 0 := by decide
  have hw1 : IntKind.i64.wrap 0 = 0 := by decide
  have hlt : g < w.heap.size := (Array.getElem?_eq_some_iff.1 hb).1
  clear hb hxy
  go_enter Tryz.func160, Tryz.ntmps160
  go_wp2_with fail
  refine wp_loop_rounds 2 ?_
  rw [rounds_succ]
  go_wp2_with fail
  refine wp_loop_rounds 1 ?_
  rw [rounds_succ]
  go_wp2_with fail
  go_region_held3 (fun w' => w'.cell? ⟨g, 0, none⟩ = some (.int .u32 x.e) ∧ w'.cell? ⟨g, 1, none⟩ = some (.int .i64 x.r) ∧ w'.cell? ⟨g, 2, none⟩ = some (.int .u32 x.f) ∧ w'.cell? ⟨g, 3, none⟩ = some (.int .u32 y.e) ∧ w'.cell? ⟨g, 4, none⟩ = some (.int .i64 y.r) ∧ w'.cell? ⟨g, 5, none⟩ = some (.int .u32 y.f))
    (first
      | exact ⟨c0, c1, c2, c3, c4, c5⟩
      | exact ⟨(hb4.cell (p := ⟨g, 0, none⟩) hlt).trans c0, (hb4.cell (p := ⟨g, 1, none⟩) hlt).trans c1, (hb4.cell (p := ⟨g, 2, none⟩) hlt).trans c2, (hb4.cell (p := ⟨g, 3, none⟩) hlt).trans c3, (hb4.cell (p := ⟨g, 4, none⟩) hlt).trans c4, (hb4.cell (p := ⟨g, 5, none⟩) hlt).trans c5⟩)
    (first
      | (go_at_call 86; refine (HL _).mono ?_; rintro e w4 ⟨rfl, hb4⟩)
      | fail)
  go_wp2_with fail
  rw [rounds_succ]
  go_wp2_with fail
  go_end0
  exact ⟨rfl, ((Below.refl w.heap.size w).drew).trans hb4⟩

/-- Two heads have been exchanged. -/
def Swapped (w : World) (g : Nat) (x y : Hd) (rest : List Value) (w' : World) : Prop := w'.heap[g]? = some (.cells (hcell [y, x] ++ rest).toArray 24 (0, 0)) ∧ Chg [g] w w'
set_option maxRecDepth 100000 in
set_option maxHeartbeats 4000000 in
theorem ins_swap (g cap : Nat) (x y : Hd) (w : World) (rest : List Value) (hb : w.heap[g]? = some (.cells (hcell [x, y] ++ rest).toArray 24 (0, 0))) (hxy : x.e < y.e) :
    Calls Tryz.prog 160 #[.slice (some ⟨g, 0, none⟩) 2 cap, .int .i64 0, .int .i64 2, fnLess] w fun e w' => e = .returned (.tuple #[]) ∧ Swapped w g x y rest w' := by
  have c0 : w.cell? ⟨g, 0, none⟩ = some (.int .u32 x.e) := by rw [Lib.cell_of_heap hb]; rfl
  have c1 : w.cell? ⟨g, 1, none⟩ = some (.int .i64 x.r) := by rw [Lib.cell_of_heap hb]; rfl
  have c2 : w.cell? ⟨g, 2, none⟩ = some (.int .u32 x.f) := by rw [Lib.cell_of_heap hb]; rfl
  have c3 : w.cell? ⟨g, 3, none⟩ = some (.int .u32 y.e) := by rw [Lib.cell_of_heap hb]; rfl
  have c4 : w.cell? ⟨g, 4, none⟩ = some (.int .i64 y.r) := by rw [Lib.cell_of_heap hb]; rfl
  have c5 : w.cell? ⟨g, 5, none⟩ = some (.int .u32 y.f) := by rw [Lib.cell_of_heap hb]; rfl
  have HL := less_any y x
  have q : decide (cmpN x.e y.e < 0) = true := by
    rw [decide_eq_true_iff]; unfold cmpN; rw [if_pos hxy]; omega
  have hw0 : IntKind.i64.wrap ((1 : Int) - 1) = 0 := by decide
  have hw1 : IntKind.i64.wrap 0 = 0 := by decide
  have hlt : g < w.heap.size := (Array.getElem?_eq_some_iff.1 hb).1
  have HBK := Lib.hid hb
  clear hb hxy
  go_enter Tryz.func160, Tryz.ntmps160
  go_wp2_with fail
  refine wp_loop_rounds 2 ?_
  rw [rounds_succ]
  go_wp2_with fail
  refine wp_loop_rounds 2 ?_
  rw [rounds_succ]
  go_wp2_with fail
  go_region_held3 (fun w' => w'.cell? ⟨g, 0, none⟩ = some (.int .u32 x.e) ∧ w'.cell? ⟨g, 1, none⟩ = some (.int .i64 x.r) ∧ w'.cell? ⟨g, 2, none⟩ = some (.int .u32 x.f) ∧ w'.cell? ⟨g, 3, none⟩ = some (.int .u32 y.e) ∧ w'.cell? ⟨g, 4, none⟩ = some (.int .i64 y.r) ∧ w'.cell? ⟨g, 5, none⟩ = some (.int .u32 y.f))
    (first
      | exact ⟨c0, c1, c2, c3, c4, c5⟩
      | exact ⟨(hb4.cell (p := ⟨g, 0, none⟩) hlt).trans c0, (hb4.cell (p := ⟨g, 1, none⟩) hlt).trans c1, (hb4.cell (p := ⟨g, 2, none⟩) hlt).trans c2, (hb4.cell (p := ⟨g, 3, none⟩) hlt).trans c3, (hb4.cell (p := ⟨g, 4, none⟩) hlt).trans c4, (hb4.cell (p := ⟨g, 5, none⟩) hlt).trans c5⟩)
    (first
      | (go_at_call 86; refine (HL _).mono ?_; rintro e w4 ⟨rfl, hb4⟩)
      | fail)
  go_wp2_with fail
  have d0 := (hb4.cell (p := ⟨g, 0, none⟩) hlt).trans c0
  have d1 := (hb4.cell (p := ⟨g, 1, none⟩) hlt).trans c1
  have d2 := (hb4.cell (p := ⟨g, 2, none⟩) hlt).trans c2
  have d3 := (hb4.cell (p := ⟨g, 3, none⟩) hlt).trans c3
  have d4 := (hb4.cell (p := ⟨g, 4, none⟩) hlt).trans c4
  have d5 := (hb4.cell (p := ⟨g, 5, none⟩) hlt).trans c5
  have hb4' := ((Below.refl w.heap.size w).drew).trans hb4
  have hf := (hb4'.block _ hlt).trans HBK.out
  have f0 := Lib.frozen_of_heap hf 0
  have f1 := Lib.frozen_of_heap hf 1
  have f2 := Lib.frozen_of_heap hf 2
  have f3 := Lib.frozen_of_heap hf 3
  have f4 := Lib.frozen_of_heap hf 4
  have f5 := Lib.frozen_of_heap hf 5
  have hfin : Swapped w g x y rest ((((((w4.setCell ⟨g, 3, none⟩ (.int .u32 x.e)).setCell ⟨g, 4, none⟩ (.int .i64 x.r)).setCell ⟨g, 5, none⟩ (.int .u32 x.f)).setCell ⟨g, 0, none⟩ (.int .u32 y.e)).setCell ⟨g, 1, none⟩ (.int .i64 y.r)).setCell ⟨g, 2, none⟩ (.int .u32 y.f)) := by
    refine ⟨by simp [World.setCell, Array.getElem?_modify, hf], ?_⟩
    refine (Below.chg hb4' [g]).trans ?_
    exact (((((setCell_chg w4 ⟨g, 3, none⟩ _ (by simp)).trans (setCell_chg _ ⟨g, 4, none⟩ _ (by simp))).trans (setCell_chg _ ⟨g, 5, none⟩ _ (by simp))).trans (setCell_chg _ ⟨g, 0, none⟩ _ (by simp))).trans (setCell_chg _ ⟨g, 1, none⟩ _ (by simp))).trans (setCell_chg _ ⟨g, 2, none⟩ _ (by simp))
  have HFIN := Lib.hid hfin
  clear hf hb4 c0 c1 c2 c3 c4 c5 hfin
  go_region
  obtain ⟨w5, hw5⟩ : ∃ w5, w5 = ((((((w4.setCell ⟨g, 3, none⟩ (.int .u32 x.e)).setCell ⟨g, 4, none⟩ (.int .i64 x.r)).setCell ⟨g, 5, none⟩ (.int .u32 x.f)).setCell ⟨g, 0, none⟩ (.int .u32 y.e)).setCell ⟨g, 1, none⟩ (.int .i64 y.r)).setCell ⟨g, 2, none⟩ (.int .u32 y.f)) := ⟨_, rfl⟩
  rw [← hw5]
  rw [← hw5] at HFIN
  clear hw5 d0 d1 d2 d3 d4 d5 f0 f1 f2 f3 f4 f5
  go_wp2_with fail
  rw [rounds_succ]
  go_wp2_with fail
  go_quiet (fail)
  go_wp2_with fail
  rw [rounds_succ]
  go_wp2_with fail
  go_end0
  exact ⟨rfl, HFIN.out.1, HFIN.out.2.trans (Below.chg (below_drewN _ _) [g])⟩

/-- Two heads at most, the greater epoch first. -/
def sortH : List Hd → List Hd
  | [x, y] => if x.e < y.e then [y, x] else [x, y]
  | l => l
set_option maxRecDepth 100000 in
theorem pdq_small (v : Value) (n : Nat) (hn : n ≤ 2) (lim : Int) (w : World) (P : World → Prop) (h : Calls Tryz.prog 160 #[v, .int .i64 0, .int .i64 n, fnLess] w fun e w' => e = .returned (.tuple #[]) ∧ P w') :
    Calls Tryz.prog 132 #[v, .int .i64 0, .int .i64 n, .int .i64 lim, fnLess] w fun e w' => e = .returned (.tuple #[]) ∧ P w' := by
  have q : decide ((n : Int) ≤ 12) = true := by rw [decide_eq_true_iff]; omega
  go_enter Tryz.func132, Tryz.ntmps132
  go_wp2_with fail
  refine wp_loop_rounds 1 ?_
  rw [rounds_succ]
  go_wp2_with fail
  refine h.mono ?_; rintro e w1 ⟨rfl, hP⟩
  go_wp2_with fail
  exact bodyPost_ret (results_none rfl _ _ _) rfl ⟨rfl, hP⟩
set_option maxRecDepth 100000 in
theorem Len64_small (n : Nat) (hn : n ≤ 2) (w : World) : Calls Tryz.prog 169 #[.int .u64 n] w fun e w' => ∃ r : Int, e = .returned (.int .i64 r) ∧ w = w' := by
  obtain rfl | rfl | rfl : n = 0 ∨ n = 1 ∨ n = 2 := by omega
  all_goals
    go_enter Tryz.func169, Tryz.ntmps169
    go_wp2_with fail
    go_ret
    exact ⟨_, rfl, rfl⟩
set_option maxRecDepth 100000 in
theorem Len_small (n : Nat) (hn : n ≤ 2) (w : World) : Calls Tryz.prog 133 #[.int .u64 n] w fun e w' => ∃ r : Int, e = .returned (.int .i64 r) ∧ w = w' := by
  have HL := Len64_small n hn
  go_enter Tryz.func133, Tryz.ntmps133
  go_wp2_with fail
  refine (HL _).mono ?_; rintro e w1 ⟨r, rfl, rfl⟩
  go_wp2_with fail
  go_ret
  exact ⟨_, rfl, rfl⟩
set_option maxRecDepth 100000 in
/-- SortFunc over two heads at most. -/
theorem SortFunc_any (l : List Hd) (hl : l.length ≤ 2) (v : Value) (w : World) (B : Nat) (hrow : w.ownsRow B 24 3 v l.length (hcell l)) :
    Calls Tryz.prog 85 #[v, fnLess] w fun e w' => e = .returned (.tuple #[]) ∧ w'.ownsRow B 24 3 v l.length (hcell (sortH l)) ∧ Chg v.ownBlock.toList w w' := by
  have HI : Calls Tryz.prog 160 #[v, .int .i64 0, .int .i64 l.length, fnLess] w fun e w' => e = .returned (.tuple #[]) ∧ w'.ownsRow B 24 3 v l.length (hcell (sortH l)) ∧ Chg v.ownBlock.toList w w' := by
    match l, hl with
    | [], _ => exact (ins_few v 0 (by omega) w).mono fun e w' ⟨he, hw⟩ => ⟨he, by rw [← hw]; exact hrow, by rw [hw]; exact Chg.refl _ _⟩
    | [x], _ => exact (ins_few v 1 (by omega) w).mono fun e w' ⟨he, hw⟩ => ⟨he, by rw [← hw]; exact hrow, by rw [hw]; exact Chg.refl _ _⟩
    | [x, y], _ =>
      rcases hrow.2 with ⟨_, h0⟩ | ⟨g, cap, cur, rfl, hg, hb, h1, h2, h3, h4⟩
      · simp at h0
      · have hcur : cur = (hcell [x, y] ++ cur.toList.drop 6).toArray := by
          apply Array.ext'
          show cur.toList = hcell [x, y] ++ cur.toList.drop 6
          rw [← h4]; exact (List.take_append_drop 6 cur.toList).symm
        rw [hcur] at hb
        by_cases hxy : x.e < y.e
        · refine (ins_swap g cap x y w _ hb hxy).mono fun e w' ⟨he, hs, hc⟩ => ⟨he, ?_, hc⟩
          rw [show sortH [x, y] = [y, x] from if_pos hxy]
          refine ⟨rfl, .inr ⟨g, cap, _, rfl, hg, hs, h1, h2, ?_, rfl⟩⟩
          have : cur.size = 6 + (cur.toList.drop 6).length := by
            have h1' : 2 ≤ cap := h1
            rw [List.length_drop, Array.length_toList]; omega
          rw [← h3, this]; simp; omega
        · refine (ins_two g cap x y w _ hb hxy).mono fun e w' ⟨he, hbl⟩ => ⟨he, ?_, Below.chg hbl _⟩
          rw [show sortH [x, y] = [x, y] from if_neg hxy]
          refine ⟨rfl, .inr ⟨g, cap, _, rfl, hg, (hbl.block _ (Array.getElem?_eq_some_iff.1 hb).1).trans hb, h1, h2, ?_, rfl⟩⟩
          rw [← hcur]; exact h3
    | _ :: _ :: _ :: _, h => simp at h
  obtain ⟨n, hn⟩ : ∃ n, n = l.length := ⟨_, rfl⟩
  have HP := fun lim => pdq_small v l.length hl lim w _ HI
  have HL := Len_small l.length hl
  have hv : ∃ x c, v = .slice x l.length c := by
    rcases hrow.2 with ⟨hv, h0⟩ | ⟨g, cap, cur, hv, _⟩
    · exact ⟨_, _, by rw [h0]; exact hv⟩
    · exact ⟨_, _, hv⟩
  obtain ⟨x, c, rfl⟩ := hv
  rw [← hn] at HP HL hl ⊢
  have q : IntKind.u64.wrap (n : Int) = n := by rw [IntKind.wrap_u64]; omega
  clear hn HI hrow
  go_enter Tryz.func85, Tryz.ntmps85
  go_wp2_with fail
  refine (HL _).mono ?_; rintro e w1 ⟨r, rfl, rfl⟩
  go_wp2_with fail
  refine (HP r).mono ?_; rintro e w1 ⟨rfl, h1, h2⟩
  go_wp2_with fail
  go_end0
  exact ⟨rfl, h1, h2⟩
end Go.Proofs.YtmpipcmdkjfmfaaGreatDoor
