/-
  Contracts: which of what is kept is a sector's (slices.IndexFunc with the disk's closure).
-/
import Derived.Test.YtfijhffhlklddaaGreatDoorFlush
namespace Go.Proofs.YtfijhffhlklddaaGreatDoor
open Go.RowKit

abbrev KL := List (Int × Int)
/-- A slice of what is kept. -/
def KeptAt (w : World) (v : Value) (ks : KL) : Prop :=
  ∃ ao cap, v = .slice ao ks.length cap ∧ (ks = [] ∨ ∃ g off, ao = some ⟨g, off, none⟩ ∧ g < w.heap.size ∧ ∀ j, j < ks.length → w.cell? ⟨g, off + j * 2, none⟩ = some (.int .i64 (ks.getD j (0, 0)).1) ∧ w.cell? ⟨g, off + j * 2 + 1, none⟩ = some (.int .i64 (ks.getD j (0, 0)).2))
theorem KeptAt.chg {w w' : World} {v : Value} {ks : KL} (h : KeptAt w v ks) (hc : ∀ k, k < w.heap.size → v.ownBlock = some k → w'.heap[k]? = w.heap[k]?) (hs : w.heap.size ≤ w'.heap.size) : KeptAt w' v ks := by
  obtain ⟨ao, cap, rfl, h⟩ := h
  refine ⟨ao, cap, rfl, ?_⟩
  rcases h with h | ⟨g, off, rfl, hg, h⟩
  · exact .inl h
  · refine .inr ⟨g, off, rfl, Nat.lt_of_lt_of_le hg hs, fun j hj => ?_⟩
    have hb := hc g hg rfl
    obtain ⟨h1, h2⟩ := h j hj
    exact ⟨(World.cell?_of_block (w := w) hb).trans h1, (World.cell?_of_block (w := w) hb).trans h2⟩

/-- The disk's closure, which holds a place. -/
abbrev CL (q : Nat) : Value := .func (.func 50) #[] #[.pointer (some ⟨q, 0, none⟩)]

set_option maxRecDepth 100000 in
set_option maxHeartbeats 1000000 in
theorem closure_any (s b x : Int) (q : Nat) (w : World) (hq : w.cell? ⟨q, 0, none⟩ = some (.int .i64 x)) :
    Calls Tryz.prog 50 #[.agg #[.int .i64 s, .int .i64 b], .pointer (some ⟨q, 0, none⟩)] w fun e w' => e = .returned (.bool (s == x)) ∧ Below w.heap.size w w' := by
  have hlt := World.block_lt_of_cell? w _ hq
  have hne : q ≠ w.heap.size := by simp at hlt; omega
  go_enter Tryz.func50, Tryz.ntmps50
  go_wp2_with fail
  go_ret
  exact ⟨rfl, (Below.refl w.heap.size w).alloc (Nat.le_refl _) _⟩

/-- The first of those at a place. -/
def idxOf (ks : KL) (x : Int) : Option Nat := ks.findIdx? (fun p => p.1 == x)

set_option maxRecDepth 100000 in
set_option maxHeartbeats 2000000 in
theorem idx_any (ks : KL) (v : Value) (q : Nat) (x : Int) (w : World) (hk : KeptAt w v ks) (hm : ks.length ≤ 100000) (hq : w.cell? ⟨q, 0, none⟩ = some (.int .i64 x)) :
    Calls Tryz.prog 49 #[v, CL q] w fun e w' =>
      (∃ r : Int, e = .returned (.int .i64 r) ∧ ((r = -1 ∧ ∀ j, j < ks.length → (ks.getD j (0, 0)).1 ≠ x) ∨ ∃ k : Nat, r = k ∧ k < ks.length ∧ (ks.getD k (0, 0)).1 = x ∧ ∀ j, j < k → (ks.getD j (0, 0)).1 ≠ x)) ∧ Below w.heap.size w w' := by
  obtain ⟨ao, cap, rfl, hk⟩ := hk
  have hqlt : q < w.heap.size := World.block_lt_of_cell? w _ hq
  have HQ := Lib.hid hq
  have HK := Lib.hid hk
  clear hk hq
  go_enter Tryz.func49, Tryz.ntmps49
  go_wp2_with fail
  go_loopw [8] (fun i wr => ∃ j : Nat, j ≤ ks.length ∧ i = .int .i64 j ∧ Below w.heap.size w wr ∧ Hid (∀ t, t < j → (ks.getD t (0, 0)).1 ≠ x))
    (fun i _ => ks.length - (intOf i).toNat)
  case atStart => exact ⟨0, Nat.zero_le _, rfl, Below.refl _ _, Lib.hid (fun t ht => by omega)⟩
  case round =>
    obtain ⟨j, hj, rfl, hb, hno⟩ := hrel
    by_cases hlt : j < ks.length
    · obtain ⟨g, off, e1, hg, hc⟩ : ∃ g off, ao = some ⟨g, off, none⟩ ∧ g < w.heap.size ∧ ∀ j, j < ks.length → w.cell? ⟨g, off + j * 2, none⟩ = some (.int .i64 (ks.getD j (0, 0)).1) ∧ w.cell? ⟨g, off + j * 2 + 1, none⟩ = some (.int .i64 (ks.getD j (0, 0)).2) := by
        rcases HK.out with h | h
        · rw [h] at hlt; simp at hlt
        · exact h
      subst e1
      have k1 := (hb.cell (p := ⟨g, off + j * 2, none⟩) hg).trans (hc j hlt).1
      have k2 := (hb.cell (p := ⟨g, off + j * 2 + 1, none⟩) hg).trans (hc j hlt).2
      have kq := (hb.cell (p := ⟨q, 0, none⟩) hqlt).trans HQ.out
      obtain ⟨s, hs⟩ : ∃ s, s = (ks.getD j (0, 0)).1 := ⟨_, rfl⟩
      obtain ⟨y, hy⟩ : ∃ y, y = (ks.getD j (0, 0)).2 := ⟨_, rfl⟩
      rw [← hs] at k1
      rw [← hy] at k2
      have HS := Lib.hid hs
      have HCL := closure_any s y x q wr kq
      clear hc hs hy
      by_cases he : s = x
      · have hq2 : (s == x) = true := by simpa using he
        have HE := Lib.hid he
        clear he
        go_wp2_with fail
        refine HCL.mono ?_; rintro e w1 ⟨rfl, hb1⟩
        go_wp2_with fail
        go_ret
        exact ⟨⟨j, rfl, .inr ⟨j, rfl, hlt, by rw [← HS.out]; exact HE.out, hno.out⟩⟩, hb.trans (hb1.mono hb.size)⟩
      · have hq2 : (s == x) = false := by simpa using he
        have HE := Lib.hid he
        clear he
        go_wp2_with fail
        refine HCL.mono ?_; rintro e w1 ⟨rfl, hb1⟩
        go_wp2_with fail
        go_roundw
        case rel =>
          refine ⟨j + 1, by omega, by go_num, hb.trans (hb1.mono hb.size), Lib.hid (fun t ht => ?_)⟩
          by_cases e : t = j
          · rw [e, ← HS.out]; exact HE.out
          · exact hno.out t (by omega)
        case measure => simp [intOf]; omega
    · obtain rfl : j = ks.length := by omega
      go_wp2_with fail
      go_ret
      exact ⟨⟨-1, rfl, .inl ⟨rfl, hno.out⟩⟩, hb⟩
end Go.Proofs.YtfijhffhlklddaaGreatDoor
