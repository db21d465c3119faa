/-
  Contracts: whether two lists of texts are alike; a disk that nobody has written; a log over it.
-/
import Derived.Test.YtfijhffhlklddaaGreatDoorSess
namespace Go.Proofs.YtfijhffhlklddaaGreatDoor
open Go.RowKit

/-- A slice of texts, nil or not. -/
def TextsAt (w : World) (v : Value) (ss : List Bytes) : Prop :=
  ∃ ao cap, v = .slice ao ss.length cap ∧ (ss = [] ∨ ∃ g off, ao = some ⟨g, off, none⟩ ∧ StrsAt w g off (ss.map bs))
theorem TextsAt.below {w w' : World} {v : Value} {ss : List Bytes} (h : TextsAt w v ss) (hb : Below w.heap.size w w') : TextsAt w' v ss := by
  obtain ⟨ao, cap, e, h⟩ := h
  refine ⟨ao, cap, e, ?_⟩
  rcases h with h | ⟨g, off, e1, h⟩
  · exact .inl h
  · exact .inr ⟨g, off, e1, h.below hb⟩
theorem texts_row {B : Nat} {w : World} {v : Value} {ss : List Bytes} (h : w.ownsRow B 9 1 v ss.length (strs ss)) : TextsAt w v ss := by
  by_cases h0 : 0 < ss.length
  · obtain ⟨g, cap, e, _, _, hs, _⟩ := row_strs h h0
    exact ⟨_, cap, e, .inr ⟨g, 0, rfl, hs⟩⟩
  · have e0 : ss = [] := List.length_eq_zero_iff.1 (by omega)
    rcases h.2 with ⟨e, e2⟩ | ⟨g, cap, cur, e, _⟩
    · exact ⟨none, 0, by rw [e, e2], .inl e0⟩
    · exact ⟨_, cap, e, .inl e0⟩

set_option maxRecDepth 100000 in
set_option maxHeartbeats 4000000 in
theorem Texts_any (a b : List Bytes) (v u : Value) (w : World) (ha : TextsAt w v a) (hb : TextsAt w u b) (hm : a.length ≤ 1000000) :
    Calls Tryz.prog 18 #[v, u] w fun e w' => e = .returned (.bool (decide (a = b))) ∧ ∃ n, w' = w.drewN n := by
  obtain ⟨ao, ca, rfl, ha⟩ := ha
  obtain ⟨bo, cb, rfl, hb⟩ := hb
  by_cases hl : a.length = b.length
  · have h1 : ((a.length : Int) != b.length) = false := by rw [bne_eq_false_iff_eq]; omega
    have HA := Lib.hid ha
    have HB := Lib.hid hb
    have HLN := Lib.hid hl
    clear ha hb hl
    go_enter Tryz.func18, Tryz.ntmps18
    go_wp2_with fail
    go_loopw [5] (fun i wr => ∃ (j m : Nat), j ≤ a.length ∧ i = .int .i64 j ∧ wr = w.drewN m ∧ Hid (a.take j = b.take j)) (fun i _ => a.length - (intOf i).toNat)
    case atStart => exact ⟨0, 0, Nat.zero_le _, rfl, rfl, Lib.hid rfl⟩
    case round =>
      obtain ⟨j, m, hj, rfl, rfl, heq⟩ := hrel
      by_cases hlt : j < a.length
      · obtain ⟨g, off, e1, h1⟩ : ∃ g off, ao = some ⟨g, off, none⟩ ∧ StrsAt w g off (a.map bs) := by
          rcases HA.out with h | h
          · rw [h] at hlt; simp at hlt
          · exact h
        obtain ⟨g', off', e2, h2⟩ : ∃ g off, bo = some ⟨g, off, none⟩ ∧ StrsAt w g off (b.map bs) := by
          rcases HB.out with h | h
          · have h0 := HLN.out; rw [h, List.length_nil] at h0; omega
          · exact h
        subst e1 e2
        have hjb : j < b.length := by have := HLN.out; omega
        obtain ⟨s, hs⟩ : ∃ s, s = bs (a.getD j []) := ⟨_, rfl⟩
        obtain ⟨t, ht⟩ : ∃ t, t = bs (b.getD j []) := ⟨_, rfl⟩
        obtain ⟨w1, hw1⟩ : ∃ w1, w1 = w.drewN m := ⟨_, rfl⟩
        have k1 : w1.cell? ⟨g, off + j, none⟩ = some (.string s) := by
          rw [hw1]
          show w.cell? _ = _
          rw [h1.2 j (by simpa using hlt), hs, getD_map_bs _ _ hlt]
        have k2 : w1.cell? ⟨g', off' + j, none⟩ = some (.string t) := by
          rw [hw1]
          show w.cell? _ = _
          rw [h2.2 j (by simpa using hjb), ht, getD_map_bs _ _ hjb]
        have y1 : (0 : Int) ≤ (j : Int) := by omega
        have y2 : (j : Int) < (a.length : Int) := by omega
        have y3 : (j : Int) < (b.length : Int) := by omega
        have hcmp : (s.toList == t.toList) = decide (a.getD j [] = b.getD j []) := by rw [hs, ht, eq_str, bs_data, bs_data]
        have ea := take_snoc_l a [] j hlt
        have eb := take_snoc_l b [] j hjb
        have HEA := Lib.hid ea
        have HEB := Lib.hid eb
        have HW1 := Lib.hid hw1
        clear h1 h2 ea eb hs ht
        by_cases he : a.getD j [] = b.getD j []
        · have hq : (s.toList == t.toList) = true := by rw [hcmp]; exact decide_eq_true he
          have HEQ := Lib.hid he
          clear hcmp he
          rw [← hw1]
          clear hw1
          go_wp2_with fail
          go_quiet (fail)
          go_wp2_with fail
          go_roundw
          case rel => exact ⟨j + 1, m + nq, by omega, by go_num, by rw [HW1.out, World.drewN_drewN], Lib.hid (by rw [HEA.out, HEB.out, heq.out, HEQ.out])⟩
          case measure => simp [intOf]; omega
        · have hq : (s.toList == t.toList) = false := by rw [hcmp]; exact decide_eq_false he
          have hne : decide (a = b) = false := by rw [decide_eq_false_iff_not]; intro e; exact he (by rw [e])
          have HNE := Lib.hid hne
          clear hcmp he hne
          rw [← hw1]
          clear hw1
          go_wp2_with fail
          go_quiet (fail)
          go_wp2_with fail
          go_ret
          exact ⟨by rw [HNE.out]; rfl, m + nq, by rw [HW1.out, World.drewN_drewN]⟩
      · obtain rfl : j = a.length := by omega
        have he : decide (a = b) = true := by
          rw [decide_eq_true_iff]
          have h1 := heq.out
          rw [List.take_length, HLN.out, List.take_length] at h1
          exact h1
        have HE := Lib.hid he
        clear he
        go_wp2_with fail
        go_ret
        exact ⟨by rw [HE.out]; rfl, m, rfl⟩
  · have h1 : ((a.length : Int) != b.length) = true := by rw [bne_iff_ne]; omega
    have hne : decide (a = b) = false := by rw [decide_eq_false_iff_not]; intro e; exact hl (by rw [e])
    rw [hne]
    clear hne hl ha hb
    go_enter Tryz.func18, Tryz.ntmps18
    go_wp2_with fail
    go_ret
    exact ⟨rfl, 0, rfl⟩

/-- A disk that nobody has written. -/
def freshD (n : Nat) : DiskS := ⟨n, fun _ => none, fun _ => none, false, 0, .slice none 0 0, false⟩
theorem zero_good : Good 1 (byt zeroSector) := by
  refine ⟨by rw [zeroSector, byt, bs_data, List.length_replicate], 0, 0, ?_, ?_, by decide, by decide⟩
  · rw [zeroSector, byt, bs_data, List.take_replicate]; rfl
  · rw [zeroSector, byt, bs_data, List.drop_replicate]; rfl
theorem fresh_reg (n : Nat) : (freshD n).reg = List.replicate (logsOf n) (byt zeroSector) := by
  rw [DiskS.reg]
  show (List.range (logsOf n)).map (fun _ => byt zeroSector) = _
  rw [List.map_const', List.length_range]
theorem fresh_good (n N : Nat) (hN : 1 ≤ N) : ∀ x ∈ (freshD n).reg, Good N x := by
  intro x hx
  rw [fresh_reg] at hx
  rw [(List.mem_replicate.1 hx).2]
  exact zero_good.mono hN
theorem fresh_next (n first : Nat) (h : 1 ≤ first) : nextS first (freshD n).reg = first :=
  Nat.le_antisymm (nextS_le _ first (fresh_good n first h) first (Nat.le_refl _)) (le_nextS _ _)
theorem fresh_scan {n first : Nat} {recs : List Bytes} {u : Nat} (h : Scan (freshD n).reg first recs u) : recs = [] ∧ u = 0 := by
  have hs : Scan (freshD n).reg first [] 0 := .stop fun r num k hr => by
    obtain ⟨k1, k2, k3, k4, _⟩ := readS_some hr
    have h1 := k4 0 (by omega)
    have h2 := (good_getD (fresh_good n 1 (Nat.le_refl _)) 0 (by omega)).numS
    rw [h1] at h2
    omega
  obtain ⟨e1, e2⟩ := h.det hs
  exact ⟨e1, e2⟩
end Go.Proofs.YtfijhffhlklddaaGreatDoor
