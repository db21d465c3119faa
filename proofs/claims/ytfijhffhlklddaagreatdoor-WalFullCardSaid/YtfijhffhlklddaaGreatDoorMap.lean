/-
  The disk's maps: what a map from places to sectors holds, place by place.
-/
import Derived.Test.YtfijhffhlklddaaGreatDoorCrc
import Derived.Maps.OwnSet
import Derived.Maps.RangeWalk
namespace Go.Proofs.YtfijhffhlklddaaGreatDoor
open Go.RowKit
open Go.ChangeMaps Go.MapKept Go.WideShapes
open Go.WideElems (Fit rd rg pl rd_val rd_key rg_of elemAt)
open Go.Maps (Keyed IsMap Tidy)

/-- How a sector reads. -/
def sec (v : Value) : Option (DataW Unit × List MemPlace) :=
  match v with
  | .agg cs => match cs.toList with
    | [.string s] => some (.agg [.lit (.string s.data.toList)], [])
    | _ => none
  | _ => none
theorem sec_mk (s : ByteArray) : sec (.agg #[.string s]) = some (.agg [.lit (.string s.data.toList)], []) := rfl
theorem sec_inv {v : Value} {z : DataW Unit × List MemPlace} (h : sec v = some z) : ∃ s : ByteArray, v = .agg #[.string s] ∧ z = (.agg [.lit (.string s.data.toList)], []) := by
  unfold sec at h
  split at h
  · rename_i cs
    split at h
    · rename_i s hs
      cases h
      obtain ⟨l⟩ := cs
      simp at hs
      subst hs
      exact ⟨s, rfl, rfl⟩
    · cases h
  · cases h

theorem keyI : Keyed Tryz.prog 3 := Maps.int_keyed Tryz.underlying3
theorem wf_i64 {i : Int} (h0 : 0 ≤ i) (h1 : i < 100000) : (Lit.int .i64 i).wf = true := by
  exact WalkArith.wf_i64 (by omega)
theorem keyI_mk {i : Int} (h0 : 0 ≤ i) (h1 : i < 100000) : keyOf Tryz.prog 3 (.int .i64 i) = some (.int .i64 i) := Maps.keyOf_int_mk Tryz.underlying3 (wf_i64 h0 h1)
theorem zeroSec (w : World) : (zeroValue 95).run Tryz.prog w = .ok (.agg #[.string ByteArray.empty]) w := by kernel_rfl

abbrev Sectors := Int → Option ByteArray
/-- A datum holds just these sectors. -/
def Holds (D : DataW Unit) (f : Sectors) : Prop := ∀ i, Maps.has D (.int .i64 i) = (f i).isSome ∧ ∀ s, f i = some s → ∀ z, D.atKey (.int .i64 i) z = .agg [.lit (.string s.data.toList)]
/-- All its places are from 0 to N, all its sectors are whole ones. -/
def Within (f : Sectors) (N : Nat) : Prop := ∀ i s, f i = some s → 0 ≤ i ∧ i < N ∧ s.size = 256
/-- Block b is a map of just these sectors. -/
def MapAt (w : World) (b N : Nat) (f : Sectors) : Prop := ∃ D, w.ownsMap Tryz.prog 3 sec b N D ∧ Holds D f ∧ Within f N
def upd (f : Sectors) (i : Int) (s : ByteArray) : Sectors := fun k => if k = i then some s else f k

theorem lit_ne {i k : Int} (h : k ≠ i) : (Lit.int .i64 k) ≠ .int .i64 i := fun e => h (by injection e)

/-- A list of different numbers less than n has n members at most. -/
theorem pigeon : ∀ (n : Nat) (l : List Int), l.Nodup → (∀ x ∈ l, 0 ≤ x ∧ x < (n : Int)) → l.length ≤ n := by
  intro n
  induction n with
  | zero =>
    intro l _ h
    cases l with
    | nil => simp
    | cons a r => have := h a (by simp); omega
  | succ n ih =>
    intro l hn h
    have h1 := ih (l.erase (n : Int)) (hn.erase _) (fun x hx => by
      have h2 := h x (List.mem_of_mem_erase hx)
      have h3 : x ≠ (n : Int) := fun e => by rw [e] at hx; exact (List.Nodup.not_mem_erase hn) hx
      omega)
    have h4 := List.length_erase_le (a := (n : Int)) (l := l)
    by_cases hm : (n : Int) ∈ l
    · rw [List.length_erase_of_mem hm] at h1; omega
    · rw [List.erase_of_not_mem hm] at h1; omega

set_option maxRecDepth 100000 in
theorem bound_of {w : World} {b n N : Nat} {D : DataW Unit} {f : Sectors} (h : w.ownsMap Tryz.prog 3 sec b n D) (hD : Holds D f) (hf : Within f N) : w.ownsMap Tryz.prog 3 sec b N D := by
  have ht := h.tidy keyI
  obtain ⟨es, clock, hb, F, hs, hDe⟩ := h
  refine ⟨es, clock, hb, F, ?_, hDe⟩
  obtain ⟨l, hl, hp⟩ := ht
  have hkeys : ∀ p ∈ l, ∃ i : Int, p.1 = .int .i64 i ∧ 0 ≤ i ∧ i < N := by
    intro p hpl
    have hp2 := hpl
    rw [hDe] at hl
    cases hl
    obtain ⟨x, hx, rfl⟩ := List.mem_map.1 (mem_sorted.1 hpl)
    obtain ⟨y, hy⟩ := F.reads x hx
    obtain ⟨i, _, hi, _⟩ := Maps.keyOf_int_inv Tryz.underlying3 (rd_key hy)
    refine ⟨i, by rw [rg_of hy]; exact hi, ?_⟩
    have hh := (hD i).1
    have : Maps.has D (.int .i64 i) = true := by
      rw [hDe]
      refine List.any_eq_true.2 ⟨_, hp2, ?_⟩
      rw [rg_of hy, hi]; exact WideAt.sameKey_self (by rw [← hi]; exact keyI.key (rd_key hy))
    rw [this] at hh
    obtain ⟨s, hs⟩ := Option.isSome_iff_exists.1 hh.symm
    have := hf i s hs
    exact ⟨this.1, this.2.1⟩
  have hlen : es.size = l.length := by
    rw [hDe] at hl
    cases hl
    rw [length_sorted]; simp
  rw [hlen]
  have hn : (l.map fun p => match p.1 with | .int _ i => i | _ => 0).Nodup := by
    rw [List.Nodup, List.pairwise_map]
    refine hp.imp_of_mem (fun {p q} hpm hqm hne => ?_)
    obtain ⟨i, hi, _⟩ := hkeys p hpm
    obtain ⟨j, hj, _⟩ := hkeys q hqm
    rw [hi, hj] at hne ⊢
    simpa using hne
  have := pigeon N _ hn (by
    intro x hx
    obtain ⟨p, hpm, rfl⟩ := List.mem_map.1 hx
    obtain ⟨i, hi, h0, h1⟩ := hkeys p hpm
    rw [hi]; exact ⟨h0, h1⟩)
  simpa using this

theorem MapAt.lt {w : World} {b N : Nat} {f : Sectors} (h : MapAt w b N f) : b < w.heap.size := by obtain ⟨D, h, _⟩ := h; exact h.lt
theorem MapAt.isMap {w : World} {b N : Nat} {f : Sectors} (h : MapAt w b N f) : ∃ es clock, w.heap[b]? = some (.map es clock) := by obtain ⟨D, ⟨es, clock, hb, _⟩, _⟩ := h; exact ⟨es, clock, hb⟩
theorem MapAt.of_block {w w' : World} {b N : Nat} {f : Sectors} (h : MapAt w b N f) (hb : w'.heap[b]? = w.heap[b]?) : MapAt w' b N f := by
  obtain ⟨D, ⟨es, clock, h1, h2⟩, h3⟩ := h
  exact ⟨D, ⟨es, clock, hb.trans h1, h2⟩, h3⟩
theorem MapAt.kept {w w' : World} {row : Option Nat} {b N : Nat} {f : Sectors} (h : MapAt w b N f) (hg : w.grownBy w' row) (hne : some b ≠ row) : MapAt w' b N f := h.of_block (hg.block b h.lt hne)
theorem MapAt.made (w : World) (N : Nat) : MapAt (w.alloc (.map #[] 0)) w.heap.size N (fun _ => none) :=
  ⟨.map [], (World.ownsMap_made w _ _ _).mono (Nat.zero_le _), fun i => ⟨rfl, fun s h => by cases h⟩, fun i s h => by cases h⟩

theorem MapAt.look_none {w : World} {b N : Nat} {f : Sectors} (h : MapAt w b N f) {i : Int} (h0 : 0 ≤ i) (h1 : i < 100000) (hf : f i = none) :
    (Instr.lookup 74 (.map (some b)) (.int .i64 i) true).run Tryz.prog w = .ok (.tuple #[.agg #[.string ByteArray.empty], .bool false]) w := by
  obtain ⟨D, ho, hh, _⟩ := h
  obtain ⟨v, ps, hrun, hv⟩ := ho.look_ok keyI Tryz.underlying74 (zeroSec w) (sec_mk _) (keyI_mk h0 h1)
  have h2 : Maps.has D (.int .i64 i) = false := by rw [(hh i).1, hf]; rfl
  rw [Maps.atKey_of_not_has h2] at hv
  obtain ⟨s, rfl, e⟩ := sec_inv hv
  rw [h2] at hrun
  have : s = ByteArray.empty := by
    simp only [Prod.mk.injEq, DataW.agg.injEq, List.cons.injEq, DataW.lit.injEq, Lit.string.injEq] at e
    exact (ByteArray.ext (Array.ext' e.1.1)).symm
  rw [this] at hrun
  exact hrun
theorem MapAt.look_some {w : World} {b N : Nat} {f : Sectors} (h : MapAt w b N f) {i : Int} (h0 : 0 ≤ i) (h1 : i < 100000) {x : ByteArray} (hf : f i = some x) :
    (Instr.lookup 74 (.map (some b)) (.int .i64 i) true).run Tryz.prog w = .ok (.tuple #[.agg #[.string x], .bool true]) w := by
  obtain ⟨D, ho, hh, _⟩ := h
  obtain ⟨v, ps, hrun, hv⟩ := ho.look_ok keyI Tryz.underlying74 (zeroSec w) (sec_mk _) (keyI_mk h0 h1)
  have h2 : Maps.has D (.int .i64 i) = true := by rw [(hh i).1, hf]; rfl
  rw [(hh i).2 x hf] at hv
  obtain ⟨s, rfl, e⟩ := sec_inv hv
  rw [h2] at hrun
  have : s = x := by
    simp only [Prod.mk.injEq, DataW.agg.injEq, List.cons.injEq, DataW.lit.injEq, Lit.string.injEq] at e
    exact (ByteArray.ext (Array.ext' e.1.1)).symm
  rw [this] at hrun
  exact hrun

theorem Holds.put {D : DataW Unit} {f : Sectors} (h : Holds D f) (hD : IsMap D) {i : Int} (h0 : 0 ≤ i) (h1 : i < 100000) (s : ByteArray) : Holds (D.put (.int .i64 i) (.agg [.lit (.string s.data.toList)])) (upd f i s) := by
  have hk : WideAt.IsKeyLit (.int .i64 i) := keyI.key (keyI_mk h0 h1)
  intro k
  unfold upd
  by_cases hki : k = i
  · subst hki
    simp only [if_pos]
    exact ⟨Maps.has_put_same hD hk _, fun s' e z => by cases e; exact Maps.atKey_put_same hD hk _ z⟩
  · simp only [if_neg hki]
    exact ⟨by rw [Maps.has_put_other (lit_ne hki)]; exact (h k).1, fun s' e z => by rw [Maps.atKey_put_other (lit_ne hki)]; exact (h k).2 s' e z⟩
theorem Within.upd {f : Sectors} {N : Nat} (h : Within f N) {i : Int} (h0 : 0 ≤ i) (h1 : i < N) {s : ByteArray} (hs : s.size = 256) : Within (upd f i s) N := by
  intro k s' hk
  unfold Go.Proofs.YtfijhffhlklddaaGreatDoor.upd at hk
  by_cases hki : k = i
  · subst hki; rw [if_pos rfl] at hk; cases hk; exact ⟨h0, h1, hs⟩
  · rw [if_neg hki] at hk; exact h k s' hk

/-- m[i] = sector{s} at the operation. -/
theorem wp_store (w : World) {ops : Array Oper} {rest : List Oper} {o : Oper} {a : Act} {Q : Exit → Act → World → Prop}
    (hg : o.guard = none) (m x v : Operand) (hop : o.op = Op.mapUpdate 74 m x v) (b N : Nat) (f : Sectors) (hN : N ≤ 5000)
    (hm : a.eval m = .map (some b)) (h : MapAt w b N f) (i : Int) (s : ByteArray) (hx : a.eval x = .int .i64 i) (hv : a.eval v = .agg #[.string s]) (h0 : 0 ≤ i) (h1 : i < N) (hs : s.size = 256)
    (hK : ∀ w', MapAt w' b N (upd f i s) → w.grownBy w' (some b) → wpList Tryz.prog ops Q rest (a.put o.dst undef) w') :
    wpList Tryz.prog ops Q (o :: rest) a w := by
  obtain ⟨D, ho, hh, hw⟩ := h
  refine wpList_mapUpdate_own w hg m x v 74 hop 3 95 keyI Tryz.underlying74 sec b N D hm ho (by unfold maxLen; omega) _ _ _ hx hv (keyI_mk h0 (by omega)) _ [] (sec_mk s) ?_
  intro w' ho' hg'
  have hh' := hh.put (ho.isMap) h0 (by omega : i < 100000) s
  have hw' := hw.upd h0 h1 hs
  exact hK w' ⟨_, bound_of ho' hh' hw', hh', hw'⟩ hg'

/-- clear(m). -/
theorem MapAt.clear {w : World} {b N : Nat} {f : Sectors} (h : MapAt w b N f) :
    ∃ w', (∀ ty, (Builtin.clear_ #[74] ty #[.map (some b)]).run Tryz.prog w = .ok (.tuple #[]) w') ∧ MapAt w' b N (fun _ => none) ∧ w.grownBy w' (some b) := by
  obtain ⟨D, ⟨es, clock, hb, F, hs, rfl⟩, hh, hw⟩ := h
  refine ⟨setBlock w b (.map #[] clock), fun ty => ?_, ⟨.map [], ⟨#[], clock, heap_setBlock_same hb _, ⟨by simp, ?_, by simp⟩, Nat.zero_le _, rfl⟩, fun i => ⟨rfl, fun s h => by cases h⟩, fun i s h => by cases h⟩, ⟨rfl, rfl, rfl, by simp [setBlock], fun i _ hi => heap_setBlock_other hb _ (fun e => hi (by rw [e]))⟩⟩
  · simp [Builtin.clear_, run_underlying Tryz.underlying74, MapKept.run_getObj_map hb, MapKept.run_setObj_map _ hb, Result.andThen, setBlock]
  · exact stamped_empty clock
end Go.Proofs.YtfijhffhlklddaaGreatDoor
