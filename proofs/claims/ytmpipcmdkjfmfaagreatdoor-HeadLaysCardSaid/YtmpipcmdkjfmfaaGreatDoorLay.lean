/-
  The layout of a disk of any size; a row of one text.
-/
import Derived.Test.YtmpipcmdkjfmfaaGreatDoorCrash
namespace Go.Proofs.YtmpipcmdkjfmfaaGreatDoor
open Go.RowKit

/-- The layout of a disk: the heads, the log, the pages. -/
def logsOf (n : Nat) : Nat := (n - 2) / 4
set_option maxRecDepth 100000 in
set_option maxHeartbeats 1000000 in
theorem Lay_ok (n : Nat) (h1 : 32 ≤ n) (h2 : n ≤ 4096) (w : World) :
    Calls Tryz.prog 15 #[.int .i64 n] w fun e w' => e = .returned (.tuple #[.agg #[.int .i64 2, .int .i64 (logsOf n : Nat), .int .i64 (2 + logsOf n : Nat), .int .i64 (n - 2 - logsOf n : Nat)], .int .i64 0]) ∧ Below w.heap.size w w' := by
  have q1 : decide ((n : Int) < 32) = false := by rw [decide_eq_false_iff_not]; omega
  have q2 : decide ((4096 : Int) < n) = false := by rw [decide_eq_false_iff_not]; omega
  obtain ⟨k, hk⟩ : ∃ k, k = logsOf n := ⟨_, rfl⟩
  rw [← hk]
  have hk2 : k ≤ n - 2 := by rw [hk]; unfold logsOf; omega
  have hd : ((n : Int) - 2) / 4 = (k : Int) := by rw [hk]; unfold logsOf; omega
  have hd2 : ((n : Int) - 2).tdiv 4 = (k : Int) := by rw [Int.tdiv_eq_ediv_of_nonneg (by omega), hd]
  have e1 : ((2 + k : Nat) : Int) = 2 + (k : Int) := by omega
  have e2 : ((n - 2 - k : Nat) : Int) = (n : Int) - 2 - (k : Int) := by omega
  rw [e1, e2]
  clear hk e1 e2
  go_enter Tryz.func15, Tryz.ntmps15
  go_wp2_with fail
  (try simp only [Exit.inBlock, Exit.then])
  refine bodyPost_ret (v := .tuple #[.agg #[.int .i64 2, .int .i64 k, .int .i64 (2 + k), .int .i64 (n - 2 - k)], .int .i64 0]) ?_ rfl ⟨rfl, (Below.refl w.heap.size w).alloc (Nat.le_refl _) _⟩
  have hl := run_loadVar_row (P := Tryz.prog) _ w.heap.size 27 27 _ (0, 0) _ (heap_alloc_new w (.cells #[.int .i64 2, .int .i64 k, .int .i64 (2 + k), .int .i64 (n - 2 - k)] 27)) Tryz.underlying27 rfl (by kernel_rfl)
  rw [results_cell_tmp rfl]
  simp [asAddr, Result.andThen, hl]

/-- No layout. -/
abbrev noLay : Value := .agg #[.int .i64 0, .int .i64 0, .int .i64 0, .int .i64 0]
set_option maxRecDepth 100000 in
set_option maxHeartbeats 1000000 in
theorem Lay_none (n : Int) (h1 : n < 32 ∨ 4096 < n) (w : World) :
    Calls Tryz.prog 15 #[.int .i64 n] w fun e w' => e = .returned (.tuple #[noLay, .int .i64 (if n < 32 then 75 else 1)]) ∧ Below w.heap.size w w' := by
  have hl := run_loadVar_row (P := Tryz.prog) _ w.heap.size 27 27 _ (0, 0) _ (heap_alloc_new w (.cells #[.int .i64 0, .int .i64 0, .int .i64 0, .int .i64 0] 27)) Tryz.underlying27 rfl (by kernel_rfl)
  by_cases h : n < 32
  · have q1 : decide (n < 32) = true := by rw [decide_eq_true_iff]; exact h
    rw [if_pos h]
    clear h1
    go_enter Tryz.func15, Tryz.ntmps15
    go_wp2_with fail
    (try simp only [Exit.inBlock, Exit.then])
    refine bodyPost_ret (v := .tuple #[noLay, .int .i64 75]) ?_ rfl ⟨rfl, (Below.refl w.heap.size w).alloc (Nat.le_refl _) _⟩
    rw [results_cell_tmp rfl]
    simp [asAddr, Result.andThen, hl]
  · have q1 : decide (n < 32) = false := by rw [decide_eq_false_iff_not]; exact h
    have q2 : decide ((4096 : Int) < n) = true := by rw [decide_eq_true_iff]; omega
    rw [if_neg h]
    clear h1
    go_enter Tryz.func15, Tryz.ntmps15
    go_wp2_with fail
    (try simp only [Exit.inBlock, Exit.then])
    refine bodyPost_ret (v := .tuple #[noLay, .int .i64 1]) ?_ rfl ⟨rfl, (Below.refl w.heap.size w).alloc (Nat.le_refl _) _⟩
    rw [results_cell_tmp rfl]
    simp [asAddr, Result.andThen, hl]

theorem DiskAt.mono {B B' : Nat} {w : World} {d : Dk} {D : DiskS} (h : DiskAt B w d D) (hb : B' ≤ B) : DiskAt B' w d D :=
  { h with b1 := Nat.le_trans hb h.b1, b2 := Nat.le_trans hb h.b2, b3 := Nat.le_trans hb h.b3 }
/-- A row of one text. -/
theorem row_one {B : Nat} {w : World} {v u : Value} (h : w.ownsRow B 9 1 v 1 [u]) : ∃ g cap, v = .slice (some ⟨g, 0, none⟩) 1 cap ∧ B ≤ g ∧ w.cell? ⟨g, 0, none⟩ = some u := by
  rcases h.2 with ⟨_, h0⟩ | ⟨g, cap, cur, hv, hg, hb, _, h2, _, h4⟩
  · cases h0
  · refine ⟨g, cap, hv, hg, ?_⟩
    rw [Lib.cell_of_heap hb]
    have := congrArg (fun l : List Value => l[0]?) h4
    simp only [List.getElem?_take] at this
    simpa using this
end Go.Proofs.YtmpipcmdkjfmfaaGreatDoor
