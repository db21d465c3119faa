/-
  What an argument's reading gives the walks: a slice of texts, and a slice of what is kept.
-/
import Derived.Test.YtfijhffhlklddaaGreatDoorWakes
import Derived.SliceStrings
import Derived.Deep.SlicePairs
import Derived.Laws.OwnMore
namespace Go.Proofs.YtfijhffhlklddaaGreatDoor
open Go.RowKit Go.ChangeShapes Go.WideShapes

theorem spot_of {w : World} {a : Addr} {v : Value} (h : w.cell? a = some v) : a = ⟨a.block, a.off, none⟩ := by
  cases a with
  | mk b o sp =>
    cases sp with
    | none => rfl
    | some x =>
      unfold World.cell? at h
      split at h <;> simp at h

set_option maxRecDepth 100000 in
theorem open_texts {H : Type} {enc : TypeId × Value → H} {w : World} {sp : Nat → Bool} {held : Bool} {ao : Option Addr} {len cap : Nat} {d : DataW H} {ps : List MemPlace} (h : DataW.Trod enc Tryz.prog w 0 sp held 34 (.slice ao len cap) d ps) :
    ∃ ss : List Bytes, TextsAt w (.slice ao len cap) ss ∧ ss.length ≤ maxLen ∧ ∀ s ∈ ss, s.length ≤ maxLen := by
  obtain ⟨fuel, hf⟩ := h
  rcases open_strings Tryz.underlying34 Tryz.underlying9 (by kernel_rfl) hf with ⟨e, _⟩ | ⟨a, ln, cp, ss, e, _, hl, hm, hsl, _, hc, hs⟩
  · simp [Value.cells] at e
    obtain ⟨rfl, rfl, rfl⟩ := e
    exact ⟨[], ⟨none, 0, rfl, .inl rfl⟩, Nat.zero_le _, by simp⟩
  · simp [Value.cells] at e
    obtain ⟨rfl, rfl, rfl⟩ := e
    have hle : len ≤ ss.length := by rw [hsl]; split <;> omega
    have htl : (ss.take len).length = len := by rw [List.length_take]; omega
    refine ⟨(ss.take len).map byt, ⟨some a, cap, by rw [List.length_map, htl], ?_⟩, by rw [List.length_map, htl]; omega, ?_⟩
    · by_cases h0 : len = 0
      · exact .inl (by subst h0; rfl)
      · have hc0 := hc 0 (by omega)
        have ha : a.add 0 = a := by simp [Addr.add]
        rw [ha] at hc0
        have hsp := spot_of hc0
        refine .inr ⟨a.block, a.off, by rw [← hsp], World.block_lt_of_cell? w _ hc0, fun j hj => ?_⟩
        rw [List.length_map, List.length_map, htl] at hj
        have := hc j (by omega)
        have ea : a.add j = ⟨a.block, a.off + j, none⟩ := by rw [show a.add j = (⟨a.block, a.off, none⟩ : Addr).add j from congrArg (·.add j) hsp]; simp [Addr.add]
        rw [ea] at this
        rw [this]
        congr 2
        rw [List.map_map, List.getD_eq_getElem?_getD, List.getD_eq_getElem?_getD, List.getElem?_map, List.getElem?_take, if_pos hj]
        cases hx : ss[j]? with
        | none => rw [List.getElem?_eq_none_iff] at hx; omega
        | some x => simp [bs_of]
    · intro s hs'
      obtain ⟨x, hx, rfl⟩ := List.mem_map.1 hs'
      have := hs x (List.mem_of_mem_take hx)
      simpa [byt] using this

set_option maxRecDepth 100000 in
theorem open_kept {H : Type} {enc : TypeId × Value → H} {w : World} {sp : Nat → Bool} {held : Bool} {ao : Option Addr} {len cap : Nat} {d : DataW H} {ps : List MemPlace} (h : DataW.Trod enc Tryz.prog w 0 sp held 37 (.slice ao len cap) d ps) :
    ∃ ks : KL, KeptAt w (.slice ao len cap) ks ∧ ks.length ≤ maxLen := by
  obtain ⟨fuel, hf⟩ := h
  rcases Deep.open_slice_pairs Tryz.underlying37 Tryz.underlying98 (by kernel_rfl) rfl rfl (by kernel_rfl) (by kernel_rfl) hf with ⟨e, _⟩ | ⟨a, ln, cp, m, n, V0, V1, D0, D1, P0, P1, e, _, hl, hm, hmm, _, hc⟩
  · simp [Value.cells] at e
    obtain ⟨rfl, rfl, rfl⟩ := e
    exact ⟨[], ⟨none, 0, rfl, .inl rfl⟩, Nat.zero_le _⟩
  · simp [Value.cells] at e
    obtain ⟨rfl, rfl, rfl⟩ := e
    have hle : len ≤ m := by rw [hmm]; split <;> omega
    refine ⟨(List.range len).map fun i => (intOf (V0 i), intOf (V1 i)), ⟨some a, cap, by simp, ?_⟩, by simp; omega⟩
    by_cases h0 : len = 0
    · exact .inl (by subst h0; rfl)
    · obtain ⟨hc0, _⟩ := hc 0 (by omega)
      have ha : a.add (0 * 2) = a := by simp [Addr.add]
      rw [ha] at hc0
      have hsp := spot_of hc0
      refine .inr ⟨a.block, a.off, by rw [← hsp], World.block_lt_of_cell? w _ hc0, fun j hj => ?_⟩
      have hj' : j < len := by simpa using hj
      obtain ⟨h1, h2, h3, h4⟩ := hc j (by omega)
      have e0 : a.add (j * 2) = ⟨a.block, a.off + j * 2, none⟩ := by rw [show a.add (j * 2) = (⟨a.block, a.off, none⟩ : Addr).add (j * 2) from congrArg (·.add (j * 2)) hsp]; simp [Addr.add]
      have e1 : a.add (j * 2 + 1) = ⟨a.block, a.off + j * 2 + 1, none⟩ := by rw [show a.add (j * 2 + 1) = (⟨a.block, a.off, none⟩ : Addr).add (j * 2 + 1) from congrArg (·.add (j * 2 + 1)) hsp]; simp [Addr.add, Nat.add_assoc]
      obtain ⟨z, k1, _⟩ := DataW.trod_int Tryz.underlying3 h3
      obtain ⟨z', k2, _⟩ := DataW.trod_int Tryz.underlying3 h4
      have g0 : V0 j = .int .i64 z := by simpa using k1
      have g1 : V1 j = .int .i64 z' := by simpa using k2
      rw [e0, g0] at h1
      rw [e1, g1] at h2
      rw [h1, h2]
      simp [List.getD_eq_getElem?_getD, List.getElem?_map, List.getElem?_range hj', g0, g1, intOf]
end Go.Proofs.YtfijhffhlklddaaGreatDoor
