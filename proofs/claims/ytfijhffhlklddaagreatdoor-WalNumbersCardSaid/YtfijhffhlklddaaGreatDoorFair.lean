/-
  Contracts: whether a script is fair; the number of a whole sector.
-/
import Derived.Test.YtfijhffhlklddaaGreatDoorStep
namespace Go.Proofs.YtfijhffhlklddaaGreatDoor
open Go.RowKit

set_option maxRecDepth 100000 in
set_option maxHeartbeats 4000000 in
theorem Fair_ok (ss : List StepS) (v : Value) (w : World) (h : StepsAt w v ss) (hm : ss.length ≤ 140737488355328) :
    Calls Tryz.prog 19 #[v] w fun e w' => ∃ r, e = .returned (.bool r) ∧ (r = true → ss.length ≤ 60 ∧ ∀ st ∈ ss, st.ks.length ≤ 60) ∧ ∃ n, w' = w.drewN n := by
  have HS := Lib.hid h
  obtain ⟨ao, cap, rfl, _⟩ := h
  have HM := Lib.hid hm
  go_enter Tryz.func19, Tryz.ntmps19
  go_wp2_with fail
  go_loopw [3, 4] (fun t i wr => ∃ (j m : Nat) (n : Nat), j ≤ ss.length ∧ i = .int .i64 j ∧ t = .int .i64 n ∧ n ≤ j * 2500 ∧ wr = w.drewN m ∧ Hid (∀ st ∈ ss.take j, st.ks.length ≤ 60)) (fun _ i _ => ss.length - (intOf i).toNat)
  case atStart => exact ⟨0, 0, 0, Nat.zero_le _, rfl, rfl, Nat.zero_le _, rfl, Lib.hid (by simp)⟩
  case round =>
    obtain ⟨j, m, n, hj, rfl, rfl, hn, rfl, hall⟩ := hrel
    by_cases hlt : j < ss.length
    · obtain ⟨g, off, rfl, hst⟩ := HS.out.get hlt
      obtain ⟨st, he⟩ : ∃ st, st = ss.getD j default := ⟨_, rfl⟩
      rw [← he] at hst
      have htk : ss.take (j + 1) = ss.take j ++ [st] := by rw [he]; exact take_snoc_l ss default j hlt
      obtain ⟨_, _, k2, k3, hk, hkl, htl⟩ := hst
      obtain ⟨x, c, hkv, _⟩ := hk
      rw [hkv] at k3
      obtain ⟨s, hs⟩ : ∃ s, s = bs st.txt := ⟨_, rfl⟩
      rw [← hs] at k2
      have hsz : s.size ≤ maxLen := by rw [hs]; exact htl
      have y1 : (0 : Int) ≤ (j : Int) := by omega
      have y2 : (j : Int) < (ss.length : Int) := by omega
      have HT := Lib.hid htk
      obtain ⟨kl, hkl'⟩ : ∃ kl, kl = st.ks.length := ⟨_, rfl⟩
      rw [← hkl'] at k3
      have HK := Lib.hid hkl'
      obtain ⟨w1, hw1⟩ : ∃ w1, w1 = w.drewN m := ⟨_, rfl⟩
      have k2' : w1.cell? ⟨g, off + j * 4 + 2, none⟩ = some (.string s) := by rw [hw1]; exact k2
      have k3' : w1.cell? ⟨g, off + j * 4 + 3, none⟩ = some (.slice x kl c) := by rw [hw1]; exact k3
      have HW := Lib.hid hw1
      rw [← hw1]
      clear he htk hs hkv hkl hkl' htl k2 k3 hw1
      unfold maxLen at hsz
      by_cases h1 : 2500 < s.size
      · have q1 : decide ((2500 : Int) < s.size) = true := by rw [decide_eq_true_iff]; omega
        go_wp2_with fail
        go_ret
        exact ⟨false, rfl, ⟨fun h => absurd h (by decide), m, HW.out⟩⟩
      · have q1 : decide ((2500 : Int) < s.size) = false := by rw [decide_eq_false_iff_not]; omega
        by_cases h2 : 60 < kl
        · have q2 : decide ((60 : Int) < kl) = true := by rw [decide_eq_true_iff]; omega
          go_wp2_with fail
          go_ret
          exact ⟨false, rfl, ⟨fun h => absurd h (by decide), m, HW.out⟩⟩
        · have q2 : decide ((60 : Int) < kl) = false := by rw [decide_eq_false_iff_not]; omega
          have q3 : IntKind.i64.wrap ((n : Int) + s.size) = n + s.size := IntWalk.i64_in _ (by omega)
          go_wp2_with fail
          refine ⟨⟨j + 1, m, n + s.size, by omega, by simp, by simp, by omega, HW.out, Lib.hid ?_⟩, by simp [intOf]; omega⟩
          intro st' hst'
          rw [HT.out] at hst'
          rcases List.mem_append.1 hst' with hx | hx
          · exact hall.out st' hx
          · rw [List.mem_singleton.1 hx, ← HK.out]; omega
    · obtain rfl : j = ss.length := by omega
      have ha := hall.out
      rw [List.take_length] at ha
      obtain ⟨w1, hw1⟩ : ∃ w1, w1 = w.drewN m := ⟨_, rfl⟩
      rw [← hw1]
      have HW := Lib.hid hw1
      have HA := Lib.hid ha
      clear ha hw1 hall
      by_cases h1 : ss.length ≤ 60
      · have q1 : decide ((ss.length : Int) ≤ 60) = true := by rw [decide_eq_true_iff]; omega
        go_wp2_with fail
        go_ret
        exact ⟨_, rfl, ⟨fun _ => ⟨h1, HA.out⟩, m, HW.out⟩⟩
      · have q1 : decide ((ss.length : Int) ≤ 60) = false := by rw [decide_eq_false_iff_not]; omega
        go_wp2_with fail
        go_ret
        exact ⟨false, rfl, ⟨fun h => absurd h (by decide), m, HW.out⟩⟩
end Go.Proofs.YtfijhffhlklddaaGreatDoor
