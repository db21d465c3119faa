/-
  Contracts of package wal: the numbers at both ends of a sector; the layout of a disk.
-/
import Derived.Test.YtfijhffhlklddaaGreatDoorCrash
import Derived.Deep.RegionWith
namespace Go.Proofs.YtfijhffhlklddaaGreatDoor
open Go.RowKit

theorem at2_0 (w : World) : (Instr.index 129 (.agg #[.int .i64 0, .int .i64 252]) (.int .i64 0)).run Tryz.prog w = .ok (.int .i64 0) w := by kernel_rfl
theorem at2_1 (w : World) : (Instr.index 129 (.agg #[.int .i64 0, .int .i64 252]) (.int .i64 1)).run Tryz.prog w = .ok (.int .i64 252) w := by kernel_rfl
theorem nums_0 (a b : Int) (w : World) : (Instr.index 84 (.agg #[.int .u64 a, .int .u64 b]) (.int .i64 0)).run Tryz.prog w = .ok (.int .u64 a) w := by kernel_rfl
theorem nums_1 (a b : Int) (w : World) : (Instr.index 84 (.agg #[.int .u64 a, .int .u64 b]) (.int .i64 1)).run Tryz.prog w = .ok (.int .u64 b) w := by kernel_rfl

theorem or_u64 (a b k : Nat) (hk : k < 64) (ha : a < 2 ^ k) (hb : b * 2 ^ k < 18446744073709551616) : bits .or .u64 (a : Int) ((b * 2 ^ k : Nat) : Int) = ((a + b * 2 ^ k : Nat) : Int) := by
  have h1 : a < 18446744073709551616 := Nat.lt_trans ha (Nat.pow_lt_pow_right (by omega) hk)
  rw [bits_or_u64_nat _ _ h1 hb]
  rw [Nat.or_comm, Nat.mul_comm b, ← Nat.two_pow_add_eq_or_of_lt ha, Nat.add_comm]
theorem or64_bytes (a b c d : UInt8) : bits .or .u64 (bits .or .u64 (bits .or .u64 (bits .or .u64 0 (IntKind.u64.wrap (IntKind.u64.wrap (a.toNat : Int)))) (IntKind.u64.wrap (IntKind.u64.wrap (b.toNat : Int) * 256))) (IntKind.u64.wrap (IntKind.u64.wrap (c.toNat : Int) * 65536))) (IntKind.u64.wrap (IntKind.u64.wrap (d.toNat : Int) * 16777216)) = (leNum [a, b, c, d] : Nat) := by
  have ha := a.toNat_lt; have hb := b.toNat_lt; have hc := c.toNat_lt; have hd := d.toNat_lt
  simp only [IntKind.wrap_u64]
  have e0 : (0 : Int) = ((0 : Nat) : Int) := rfl
  have e1 : (a.toNat : Int) % 18446744073709551616 % 18446744073709551616 = ((a.toNat * 2 ^ 0 : Nat) : Int) := by omega
  have e2 : (b.toNat : Int) % 18446744073709551616 * 256 % 18446744073709551616 = ((b.toNat * 2 ^ 8 : Nat) : Int) := by omega
  have e3 : (c.toNat : Int) % 18446744073709551616 * 65536 % 18446744073709551616 = ((c.toNat * 2 ^ 16 : Nat) : Int) := by omega
  have e4 : (d.toNat : Int) % 18446744073709551616 * 16777216 % 18446744073709551616 = ((d.toNat * 2 ^ 24 : Nat) : Int) := by omega
  rw [e1, e2, e3, e4, e0, or_u64 _ _ 0 (by omega) (by omega) (by omega), or_u64 _ _ 8 (by omega) (by omega) (by omega), or_u64 _ _ 16 (by omega) (by omega) (by omega), or_u64 _ _ 24 (by omega) (by omega) (by omega)]
  simp only [leNum, List.foldr_cons, List.foldr_nil]
  congr 1; omega
theorem last4 (s : ByteArray) (h : 255 < s.size) (h2 : s.size ≤ 256) : s.data.toList.drop 252 = [s[252], s[253], s[254], s[255]] := by
  have h1 := first4 (s.extract 252 256) (by rw [ByteArray.size_extract]; omega)
  rw [extract_toList] at h1
  simp only [Nat.reduceSub] at h1
  rw [List.take_take, List.take_of_length_le (by simp; omega)] at h1
  rw [h1]
  simp only [ByteArray.getElem_extract]

set_option maxRecDepth 100000 in
set_option maxHeartbeats 8000000 in
theorem ends_any (b : ByteArray) (hb : b.size = 256) (w : World) :
    Calls Tryz.prog 43 #[.string b] w fun e w' => e = .returned (.agg #[.int .u64 (endsS (byt b)).1, .int .u64 (endsS (byt b)).2]) ∧ Below w.heap.size w w' := by
  have i0 : 0 < b.size := by omega
  have i1 : 1 < b.size := by omega
  have i2 : 2 < b.size := by omega
  have i3 : 3 < b.size := by omega
  have i252 : 252 < b.size := by omega
  have i253 : 253 < b.size := by omega
  have i254 : 254 < b.size := by omega
  have i255 : 255 < b.size := by omega
  have j0 : (0 : Int) < b.size := by omega
  have j1 : (1 : Int) < b.size := by omega
  have j2 : (2 : Int) < b.size := by omega
  have j3 : (3 : Int) < b.size := by omega
  have j252 : (252 : Int) < b.size := by omega
  have j253 : (253 : Int) < b.size := by omega
  have j254 : (254 : Int) < b.size := by omega
  have j255 : (255 : Int) < b.size := by omega
  have k256 : b.size ≤ 256 := by omega
  clear hb
  have HF := Lib.hid (first4 b i3)
  have HL := Lib.hid (last4 b i255 k256)
  have HA := Lib.hid (or64_bytes b[0] b[1] b[2] b[3])
  have HB := Lib.hid (or64_bytes b[252] b[253] b[254] b[255])
  have v0 : IntKind.i64.wrap 0 = 0 := IntWalk.i64_in _ (by omega)
  have v1 : IntKind.i64.wrap 1 = 1 := IntWalk.i64_in _ (by omega)
  have v2 : IntKind.i64.wrap 2 = 2 := IntWalk.i64_in _ (by omega)
  have v3 : IntKind.i64.wrap 3 = 3 := IntWalk.i64_in _ (by omega)
  have v8 : IntKind.i64.wrap 8 = 8 := IntWalk.i64_in _ (by omega)
  have v16 : IntKind.i64.wrap 16 = 16 := IntWalk.i64_in _ (by omega)
  have v24 : IntKind.i64.wrap 24 = 24 := IntWalk.i64_in _ (by omega)
  have v252 : IntKind.i64.wrap 252 = 252 := IntWalk.i64_in _ (by omega)
  have v253 : IntKind.i64.wrap 253 = 253 := IntWalk.i64_in _ (by omega)
  have v254 : IntKind.i64.wrap 254 = 254 := IntWalk.i64_in _ (by omega)
  have v255 : IntKind.i64.wrap 255 = 255 := IntWalk.i64_in _ (by omega)
  have a0 := at2_0
  have a1 := at2_1
  go_enter Tryz.func43, Tryz.ntmps43
  go_wp2_with fail
  refine wp_loop_rounds 3 ?_
  rw [rounds_succ]
  go_wp2_with fail
  refine wp_loop_rounds 5 ?_
  iterate 4
    rw [rounds_succ]
    go_wp2_with fail
    go_region
    go_wp2_with fail
  rw [rounds_succ]
  go_wp2_with fail
  rw [rounds_succ]
  go_wp2_with fail
  refine wp_loop_rounds 5 ?_
  iterate 4
    rw [rounds_succ]
    go_wp2_with fail
    go_region
    go_wp2_with fail
  rw [rounds_succ]
  go_wp2_with fail
  rw [rounds_succ]
  go_wp2_with fail
  (try simp only [Exit.inBlock, Exit.then])
  refine bodyPost_ret (results_cell_row rfl _ _ w.heap.size 84 _ (0, 0) _ rfl ((Lib.alloc_old _ _ _ (by simp)).trans (heap_alloc_new w _)) Tryz.underlying84 rfl (by kernel_rfl)) rfl ?_
  refine ⟨?_, ⟨rfl, rfl, rfl, (((Below.refl w.heap.size w).alloc (Nat.le_refl _) _).alloc (by simp) _).size, (((Below.refl w.heap.size w).alloc (Nat.le_refl _) _).alloc (by simp) _).block⟩⟩
  rw [HA.out, HB.out]
  unfold endsS
  rw [HF.out, HL.out]

/-- The layout of a disk: the heads, the log, the pages. -/
def logsOf (n : Nat) : Nat := (n - 2) / 4
set_option maxRecDepth 100000 in
set_option maxHeartbeats 1000000 in
theorem Lay_ok (n : Nat) (h1 : 32 ≤ n) (h2 : n ≤ 4096) (w : World) :
    Calls Tryz.prog 41 #[.int .i64 n] w fun e w' => e = .returned (.tuple #[.agg #[.int .i64 2, .int .i64 (logsOf n : Nat), .int .i64 (2 + logsOf n : Nat), .int .i64 (n - 2 - logsOf n : Nat)], .int .i64 0]) ∧ Below w.heap.size w w' := by
  have q1 : decide ((n : Int) < 32) = false := by rw [decide_eq_false_iff_not]; omega
  have q2 : decide ((4096 : Int) < n) = false := by rw [decide_eq_false_iff_not]; omega
  obtain ⟨k, hk⟩ : ∃ k, k = logsOf n := ⟨_, rfl⟩
  rw [← hk]
  have hk2 : k ≤ n - 2 := by rw [hk]; unfold logsOf; omega
  have hd : ((n : Int) - 2) / 4 = (k : Int) := by rw [hk]; unfold logsOf; omega
  have hd2 : ((n : Int) - 2).tdiv 4 = (k : Int) := by rw [Int.tdiv_eq_ediv_of_nonneg (by omega), hd]
  have e1 : ((2 + k : Nat) : Int) = 2 + (k : Int) := by omega
  have e2 : ((n - 2 - k : Nat) : Int) = (n : Int) - 2 - (k : Int) := by omega
  rw [e1, e2]
  clear hk e1 e2
  go_enter Tryz.func41, Tryz.ntmps41
  go_wp2_with fail
  (try simp only [Exit.inBlock, Exit.then])
  refine bodyPost_ret (v := .tuple #[.agg #[.int .i64 2, .int .i64 k, .int .i64 (2 + k), .int .i64 (n - 2 - k)], .int .i64 0]) ?_ rfl ⟨rfl, (Below.refl w.heap.size w).alloc (Nat.le_refl _) _⟩
  have hl := run_loadVar_row (P := Tryz.prog) _ w.heap.size 78 78 _ (0, 0) _ (heap_alloc_new w (.cells #[.int .i64 2, .int .i64 k, .int .i64 (2 + k), .int .i64 (n - 2 - k)] 78)) Tryz.underlying78 rfl (by kernel_rfl)
  rw [results_cell_tmp rfl]
  simp [asAddr, Result.andThen, hl]
end Go.Proofs.YtfijhffhlklddaaGreatDoor
