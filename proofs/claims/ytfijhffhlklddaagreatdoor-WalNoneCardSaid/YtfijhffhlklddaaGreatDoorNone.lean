/-
  The walk of WalNone: it answers true, whatever the text.
-/
import Derived.Test.YtfijhffhlklddaaGreatDoorWakes
namespace Go.Proofs.YtfijhffhlklddaaGreatDoor
open Go.RowKit

set_option maxRecDepth 100000 in
set_option maxHeartbeats 1000000 in
theorem Lay_small (n : Nat) (h1 : n < 32) (w : World) :
    Calls Tryz.prog 41 #[.int .i64 n] w fun e w' => e = .returned (.tuple #[.agg #[.int .i64 0, .int .i64 0, .int .i64 0, .int .i64 0], .int .i64 75]) ∧ Below w.heap.size w w' := by
  have q1 : decide ((n : Int) < 32) = true := by rw [decide_eq_true_iff]; omega
  go_enter Tryz.func41, Tryz.ntmps41
  go_wp2_with fail
  (try simp only [Exit.inBlock, Exit.then])
  refine bodyPost_ret (v := .tuple #[.agg #[.int .i64 0, .int .i64 0, .int .i64 0, .int .i64 0], .int .i64 75]) ?_ rfl ⟨rfl, (Below.refl w.heap.size w).alloc (Nat.le_refl _) _⟩
  have hl := run_loadVar_row (P := Tryz.prog) _ w.heap.size 78 78 _ (0, 0) _ (heap_alloc_new w (.cells #[.int .i64 0, .int .i64 0, .int .i64 0, .int .i64 0] 78)) Tryz.underlying78 rfl (by kernel_rfl)
  rw [results_cell_tmp rfl]
  simp [asAddr, Result.andThen, hl]

set_option maxRecDepth 100000 in
set_option maxHeartbeats 1000000 in
theorem Open_small {B : Nat} {d : Dk} {D : DiskS} (first : Nat) (w : World) (hk : DiskAt B w d D) (hn : D.n < 32) (hf0 : first ≠ 0) :
    Calls Tryz.prog 10 #[d.p, .int .u32 first] w fun e w' => e = .returned (.tuple #[.pointer none, .int .i64 75]) ∧ Below w.heap.size w w' := by
  have HSZ := Size_ok w hk
  have HLY := Lay_small D.n hn w
  have q1 : ((first : Int) == 0) = false := by rw [beq_eq_false_iff_ne]; omega
  clear hk hn hf0
  go_enter Tryz.func10, Tryz.ntmps10
  go_wp2_with fail
  refine HSZ.mono ?_; rintro e w1 ⟨rfl, rfl⟩
  go_wp2_with fail
  refine HLY.mono ?_; rintro e w1 ⟨rfl, hb1⟩
  go_wp2_with fail
  go_ret2
  exact ⟨rfl, hb1.alloc hb1.size _⟩

set_option maxRecDepth 100000 in
set_option maxHeartbeats 4000000 in
theorem none_ok {E : Errs} {B : Nat} (s : ByteArray) (w : World) (henv : Env E B w) (hs : s.size ≤ maxLen) :
    Calls Tryz.prog 6 #[.string s] w fun e w' => e = .returned (.bool true) ∧ Below w.heap.size w w' := by
  have HE := Lib.hid henv
  clear henv
  unfold maxLen at hs
  by_cases h1 : 5000 < s.size
  · have q1 : decide ((5000 : Int) < s.size) = true := by rw [decide_eq_true_iff]; omega
    have HW := wakes_ok w HE.out
    go_enter Tryz.func6, Tryz.ntmps6
    go_wp2_with fail
    refine HW.mono ?_; rintro e w1 ⟨rfl, hb⟩
    go_wp2_with fail
    go_ret
    exact ⟨rfl, hb⟩
  · have q1 : decide ((5000 : Int) < s.size) = false := by rw [decide_eq_false_iff_not]; omega
    have HN := New_ok 31 (by decide) (by decide) w
    go_enter Tryz.func6, Tryz.ntmps6
    go_wp2_with fail
    refine HN.mono ?_; rintro e w1 ⟨d, rfl, hd, hb1⟩
    have HO := Open_small 5 w1 hd (by decide) (by decide)
    clear hd
    go_wp2_with fail
    refine (Open_nil 5 _).mono ?_; rintro e w2 ⟨rfl, rfl⟩
    go_wp2_with fail
    refine HO.mono ?_; rintro e w2 ⟨rfl, hb2⟩
    have hB2 : Below w.heap.size w w2 := hb1.trans (hb2.mono hb1.size)
    have HW := wakes_ok w2 (HE.out.grew hB2)
    go_wp2_with fail
    refine (Empty_nil _).mono ?_; rintro e w3 ⟨rfl, rfl⟩
    go_wp2_with fail
    refine (Records_nil _).mono ?_; rintro e w3 ⟨rfl, rfl⟩
    go_wp2_with fail
    refine (Append_nil _ _).mono ?_; rintro e w3 ⟨rfl, rfl⟩
    go_wp2_with fail
    refine (Sync_nil _).mono ?_; rintro e w3 ⟨rfl, rfl⟩
    go_wp2_with fail
    refine (Next_nil _).mono ?_; rintro e w3 ⟨rfl, rfl⟩
    go_wp2_with fail
    refine (Left_nil _).mono ?_; rintro e w3 ⟨rfl, rfl⟩
    go_wp2_with fail
    refine HW.mono ?_; rintro e w3 ⟨rfl, hb3⟩
    go_wp2_with fail
    go_ret
    exact ⟨rfl, hB2.trans (hb3.mono hB2.size)⟩
end Go.Proofs.YtfijhffhlklddaaGreatDoor
