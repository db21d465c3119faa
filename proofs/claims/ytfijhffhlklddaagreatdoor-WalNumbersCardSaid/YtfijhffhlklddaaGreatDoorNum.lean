/-
  Contracts: the number of a whole sector, as the reference says it.
-/
import Derived.Test.YtfijhffhlklddaaGreatDoorFair
namespace Go.Proofs.YtfijhffhlklddaaGreatDoor
open Go.RowKit

set_option maxRecDepth 100000 in
theorem or32_0 : ∀ n : Nat, n < 256 → bits BinOp.or IntKind.u32 0 (n : Int) = n := by decide +kernel
theorem or32_00 : bits BinOp.or IntKind.u32 0 0 = 0 := or32_0 0 (by decide)

set_option maxRecDepth 100000 in
set_option maxHeartbeats 4000000 in
theorem End_ok (h : UInt8) (s : ByteArray) (hs : s.data.toList = [h, 0, 0, 0]) (w : World) : Calls Tryz.prog 55 #[.string s] w fun e w' => e = .returned (.int .u32 (h.toNat : Nat)) ∧ w = w' := by
  have hsz : s.size = 4 := by
    have := congrArg List.length hs
    simpa using this
  have hget : ∀ (i : Nat) (hi : i < s.size) (v : UInt8), [h, 0, 0, 0][i]? = some v → s[i] = v := fun i hi v hv => by
    rw [← hs, List.getElem?_eq_getElem (by simpa using hi)] at hv
    simp at hv
    exact hv
  have i0 : 0 < s.size := by omega
  have i1 : 1 < s.size := by omega
  have i2 : 2 < s.size := by omega
  have i3 : 3 < s.size := by omega
  have g0 : s[0] = h := hget 0 i0 _ rfl
  have g1 : s[1] = 0 := hget 1 i1 _ rfl
  have g2 : s[2] = 0 := hget 2 i2 _ rfl
  have g3 : s[3] = 0 := hget 3 i3 _ rfl
  have j0 : (0 : Int) < s.size := by omega
  have j1 : (1 : Int) < s.size := by omega
  have j2 : (2 : Int) < s.size := by omega
  have j3 : (3 : Int) < s.size := by omega
  have hh := h.toNat_lt
  obtain ⟨c, hc⟩ : ∃ c, c = h.toNat := ⟨_, rfl⟩
  have e1 : ((s.size : Int)) = 4 := by omega
  clear hget hs
  go_enter Tryz.func55, Tryz.ntmps55
  go_wp2_with fail
  refine wp_loop_rounds 5 ?_
  iterate 4
    rw [rounds_succ]
    go_wp2_with fail
  rw [rounds_succ]
  go_wp2_with fail
  simp only [or32_00, Int.zero_mul, Int.zero_emod, or32_0 _ hh]
  go_ret
  exact ⟨rfl, rfl⟩

/-- Of a good sector: less than the bound. -/
def numRef (x : Bytes) : Nat := if x.take 4 = x.drop 252 then (x.headD 0).toNat else 0
set_option maxRecDepth 100000 in
set_option maxHeartbeats 4000000 in
theorem Num_ok {N : Nat} (b : ByteArray) (hg : Good N (byt b)) (hN : 0 < N) (w : World) : Calls Tryz.prog 21 #[.string b] w fun e w' => ∃ m : Nat, e = .returned (.int .u32 m) ∧ m < N ∧ Below w.heap.size w w' := by
  obtain ⟨h1, h, t, h2, h3, h4, h5⟩ := hg
  have hsz : b.size = 256 := by simpa [byt] using h1
  have x1 : (b.extract 0 4).data.toList = [h, 0, 0, 0] := by rw [← h2, extract_toList]; rfl
  have x2 : (b.extract 252 256).data.toList = [t, 0, 0, 0] := by
    rw [← h3, extract_toList, List.take_of_length_le (by simp [hsz])]
  have hcmp : ((b.extract 0 4).toList == (b.extract 252 256).toList) = decide ([h, 0, 0, 0] = [t, 0, 0, 0]) := by rw [eq_str, x1, x2]
  have q0 : ((b.size : Int) != 256) = false := by rw [bne_eq_false_iff_eq]; omega
  have k1 : (4 : Int) ≤ b.size := by omega
  have k2 : (252 : Int) ≤ b.size := by omega
  have HE := End_ok h (b.extract 0 4) x1
  clear x1 x2 h1 h2 h3
  by_cases ht : h = t
  · rw [decide_eq_true (by rw [ht])] at hcmp
    go_enter Tryz.func21, Tryz.ntmps21
    go_wp2_with fail
    go_quiet (fail)
    go_wp2_with fail
    refine (HE _).mono ?_; rintro e w1 ⟨rfl, rfl⟩
    go_wp2_with fail
    go_ret
    exact ⟨t.toNat, rfl, h5, below_drewN _ _⟩
  · rw [decide_eq_false (by simpa using ht)] at hcmp
    go_enter Tryz.func21, Tryz.ntmps21
    go_wp2_with fail
    go_quiet (fail)
    go_wp2_with fail
    go_ret
    exact ⟨0, rfl, hN, below_drewN _ _⟩
end Go.Proofs.YtfijhffhlklddaaGreatDoor
