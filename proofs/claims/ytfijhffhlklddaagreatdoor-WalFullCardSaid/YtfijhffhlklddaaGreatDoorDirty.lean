/-
  disk.Dirty: the places with cached bytes, rising.
-/
import Derived.Test.YtfijhffhlklddaaGreatDoorDisk
import Derived.Test.YtfijhffhlklddaaGreatDoorKeys
namespace Go.Proofs.YtfijhffhlklddaaGreatDoor
open Go.RowKit Go.Maps Go.Sort Go.Shelf

/-- The places with cached bytes. -/
def dirtyL (D : DiskS) : List Int := ((List.range D.n).filter fun i : Nat => (D.c (i : Int)).isSome).map fun i : Nat => (i : Int)
theorem mem_dirtyL {D : DiskS} (hw : Within D.c D.n) (x : Int) : x ∈ dirtyL D ↔ (D.c x).isSome = true := by
  unfold dirtyL
  simp only [List.mem_map, List.mem_filter, List.mem_range]
  constructor
  · rintro ⟨i, ⟨_, h⟩, rfl⟩; exact h
  · intro h
    obtain ⟨s, hs⟩ := Option.isSome_iff_exists.1 h
    obtain ⟨h0, h1, _⟩ := hw x s hs
    refine ⟨x.toNat, ⟨by omega, ?_⟩, by omega⟩
    rw [Int.toNat_of_nonneg h0]; exact h
theorem dirtyL_sorted (D : DiskS) : (dirtyL D).Pairwise (fun a b => a < b) := by
  unfold dirtyL
  refine List.pairwise_map.2 ((List.Pairwise.filter _ List.pairwise_lt_range).imp fun h => ?_)
  omega
theorem dirtyL_nodup (D : DiskS) : (dirtyL D).Nodup := (dirtyL_sorted D).imp fun h => by omega
theorem dirtyL_merge (D : DiskS) : (dirtyL D).mergeSort (fun x y => decide (x ≤ y)) = dirtyL D :=
  List.mergeSort_of_pairwise ((dirtyL_sorted D).imp fun h => by simp; omega)

theorem sortsA (m : Nat) : AnyZI.SortsIn Tryz.prog Tryz.sortedA_ren Fence.wide m :=
  ⟨fun blk off cap ss W hH hblk hsz => callsIn_wide.2 (AnyM.slices_Sort_int Tryz.sortA blk off cap ss W hH hblk hsz),
   fun p cap W => callsIn_wide.2 (AnyM.slices_Sort_int_none Tryz.sortA p cap W)⟩

set_option maxHeartbeats 1000000 in
theorem Dirty_raw {H : Type} (b nn : Nat) (D0 : DataW H) (R : Value → Option (DataW H × List MemPlace)) (q : Nat) (w : World) (hown : w.ownsMap Tryz.prog 3 R b nn D0) (hmax : Maps.size D0 ≤ maxLen) (hbytes : Maps.size D0 * 8 ≤ 140737488355328)
    (c2 : w.cell? ⟨q, 2, none⟩ = some (.map (some b))) :
    Calls Tryz.prog 24 #[.pointer (some ⟨q, 0, none⟩)] w fun e w' => ∃ (v : Value) (ss : List Int), e = .returned v ∧ ss.Perm (intKeys D0) ∧
      w'.ownsRow w.heap.size 3 1 v ss.length ((ss.mergeSort (fun x y => decide (x ≤ y))).map encZ) ∧ Below w.heap.size w w' := by
  refine (callsIn_wide (n := 6)).1 ?_
  have hbl := hown.lt
  have hseq : SeqGives Fence.wide 2 Tryz.prog 86 #[.pointer (some ⟨w.heap.size, 0, none⟩)] encZ (fun ss => ss.Perm (intKeys D0)) (Maps.size D0) (w.alloc (.cells #[.map (some b)] 74)) :=
    AnyZI.keys_gives (ρ := Tryz.keysA_ren) { Tryz.keysA with } Fence.wide _ trivial rfl (by omega) w.heap.size b nn D0 _ (by simp) (by simp) (by
      obtain ⟨es, clock, hb, Ft, hs, hD⟩ := hown
      exact ⟨es, clock, (Below.heap_alloc _ _ b hbl).trans hb, Ft, hs, hD⟩)
  have cK : ∀ mb W, CallsIn Fence.wide 5 Tryz.prog 57 #[.map mb] W fun e w' => e = .returned (.func (.func 86) #[] #[.pointer (some ⟨W.heap.size, 0, none⟩)]) ∧ w' = W.alloc (.cells #[.map mb] 74) := fun mb W => AnyZI.keys_in Tryz.keysA Fence.wide 5 trivial rfl mb W
  have cS := AnyZI.sorted_in Tryz.sortedA Fence.wide 5 trivial trivial trivial trivial rfl (by omega) (sortsA _) (enters_of Tryz.func85 (by kernel_rfl) rfl) 86 #[.pointer (some ⟨w.heap.size, 0, none⟩)] trivial (enters_of Tryz.func86 (by kernel_rfl) rfl) _ _ hmax hbytes _ hseq
  change CallsIn _ _ Tryz.prog 56 _ _ _ at cS
  have hfK : Fence.wide.fn 57 := trivial
  have hfS : Fence.wide.fn 56 := trivial
  refine callsIn_of_wp Tryz.func24 rfl trivial ?_ rfl
  simp only [Tryz.ntmps24, List.size_toArray, List.length_cons, List.length_nil, Nat.reduceAdd, Nat.reduceSub, Array.replicate_succ, Array.replicate_zero, List.push_toArray, List.append_toArray, List.nil_append, List.cons_append]
  gi_wp2_with (first
    | (gi_at_call 57; refine (cK _ _).mono ?_; rintro e w' ⟨rfl, rfl⟩)
    | (gi_at_call 56; refine cS.mono ?_; rintro e w' ⟨v, ss, rfl, hS, hrow, hnil, hb⟩))
  go_ret
  exact ⟨v, ss, rfl, hS, ownsRow_base_a hrow (by simp), ((Below.refl _ w).alloc (Nat.le_refl _) _).trans (hb.mono (by simp))⟩

/-- Dirty: the places with cached bytes, rising. -/
theorem Dirty_ok {B : Nat} {d : Dk} {D : DiskS} (w : World) (h : DiskAt B w d D) :
    Calls Tryz.prog 24 #[d.p] w fun e w' => ∃ v, e = .returned v ∧ w'.ownsRow w.heap.size 3 1 v (dirtyL D).length ((dirtyL D).map (Value.int .i64)) ∧ Below w.heap.size w w' := by
  have c2 : w.cell? ⟨d.b, 2, none⟩ = some (.map (some d.bc)) := by rw [Lib.cell_of_heap h.cells]; rfl
  obtain ⟨Dt, ho, hh, hw⟩ := h.hc
  have hs := ho.size_le
  have hn := h.n2
  refine (Dirty_raw d.bc D.n Dt sec d.b w ho (by unfold maxLen; omega) (by omega) c2).mono fun e w' hx => ?_
  obtain ⟨v, ss, he, hp, hrow, hb⟩ := hx
  obtain ⟨es, hD, hpw, _⟩ := ho.entries keyI
  obtain ⟨es', hD', hko⟩ := ho.keysOf
  obtain rfl : es = es' := by rw [hD] at hD'; simpa using hD'
  have hperm : (dirtyL D).Perm (intKeys Dt) := by
    rw [hD]
    refine perm_intKeys hpw (fun p hp => by obtain ⟨v, hv⟩ := hko p hp; obtain ⟨x, _, hx, _⟩ := Maps.keyOf_i64 Tryz.underlying3 hv; exact ⟨x, hx⟩) (dirtyL_nodup D) (fun x => ?_)
    rw [mem_dirtyL hw, ← hD, (hh x).1]
  have hps : ss.Perm (dirtyL D) := hp.trans hperm.symm
  have hms : ss.mergeSort (fun x y => decide (x ≤ y)) = dirtyL D := (mergeSort_of_perm_i hps).trans (dirtyL_merge D)
  rw [hms, hps.length_eq] at hrow
  exact ⟨v, he, hrow, hb⟩
end Go.Proofs.YtfijhffhlklddaaGreatDoor
