/-
  The steps of a script: what an argument's reading gives; whether a script is fair.
-/
import Derived.Test.YtfijhffhlklddaaGreatDoorGlue
namespace Go.Proofs.YtfijhffhlklddaaGreatDoor
open Go.RowKit Go.ChangeShapes Go.WideShapes

/-- One step: its kind, its number, its text, and what is kept. -/
structure StepS where
  kind : Int
  num : Int
  txt : Bytes
  kv : Value
  ks : KL
instance : Inhabited StepS := ⟨⟨0, 0, [], .slice none 0 0, []⟩⟩
def StepAt (w : World) (g o : Nat) (st : StepS) : Prop :=
  w.cell? ⟨g, o, none⟩ = some (.int .i64 st.kind) ∧ w.cell? ⟨g, o + 1, none⟩ = some (.int .i64 st.num) ∧ w.cell? ⟨g, o + 2, none⟩ = some (.string (bs st.txt)) ∧ w.cell? ⟨g, o + 3, none⟩ = some st.kv ∧ KeptAt w st.kv st.ks ∧ st.ks.length ≤ maxLen ∧ st.txt.length ≤ maxLen
def StepsAt (w : World) (v : Value) (ss : List StepS) : Prop :=
  ∃ ao cap, v = .slice ao ss.length cap ∧ (ss = [] ∨ ∃ g off, ao = some ⟨g, off, none⟩ ∧ g < w.heap.size ∧ ∀ (j : Nat) st, ss[j]? = some st → StepAt w g (off + j * 4) st)
theorem KeptAt.below {w w' : World} {v : Value} {ks : KL} (h : KeptAt w v ks) (hb : Below w.heap.size w w') : KeptAt w' v ks := h.chg (fun k hk _ => hb.block k hk) hb.size
theorem StepsAt.below {w w' : World} {v : Value} {ss : List StepS} (h : StepsAt w v ss) (hb : Below w.heap.size w w') : StepsAt w' v ss := by
  obtain ⟨ao, cap, e, h⟩ := h
  refine ⟨ao, cap, e, ?_⟩
  rcases h with h | ⟨g, off, e1, hg, h⟩
  · exact .inl h
  · refine .inr ⟨g, off, e1, Nat.lt_of_lt_of_le hg hb.size, fun j st hj => ?_⟩
    obtain ⟨h1, h2, h3, h4, h5, h6⟩ := h j st hj
    exact ⟨(hb.cell (p := ⟨g, _, none⟩) hg).trans h1, (hb.cell (p := ⟨g, _, none⟩) hg).trans h2, (hb.cell (p := ⟨g, _, none⟩) hg).trans h3, (hb.cell (p := ⟨g, _, none⟩) hg).trans h4, h5.below hb, h6⟩
theorem StepsAt.get {w : World} {ao : Option Addr} {n cap : Nat} {ss : List StepS} (h : StepsAt w (.slice ao n cap) ss) {j : Nat} (hj : j < ss.length) : ∃ g off, ao = some ⟨g, off, none⟩ ∧ StepAt w g (off + j * 4) (ss.getD j default) := by
  obtain ⟨ao', cap', e, h⟩ := h
  cases e
  rcases h with rfl | ⟨g, off, rfl, _, h⟩
  · simp at hj
  · exact ⟨g, off, rfl, h j _ (by rw [List.getD_eq_getElem?_getD, List.getElem?_eq_getElem hj]; rfl)⟩

theorem kept_of_trod {H : Type} {enc : TypeId × Value → H} {w : World} {sp : Nat → Bool} {held : Bool} {n : Nat} {v : Value} {y : DataW H × List MemPlace} (h : DataW.trod enc Tryz.prog w 0 sp held n 37 [v] = some y) :
    ∃ ks : KL, KeptAt w v ks ∧ ks.length ≤ maxLen := by
  rcases DataW.trod_slice Tryz.underlying37 h with ⟨e, _⟩ | ⟨a, len, cap, _, _, _, _, e, _⟩
  · cases e; exact open_kept (ao := none) ⟨n, h⟩
  · cases e; exact open_kept (ao := some a) ⟨n, h⟩
theorem texts_of_trod {H : Type} {enc : TypeId × Value → H} {w : World} {sp : Nat → Bool} {held : Bool} {n : Nat} {v : Value} {y : DataW H × List MemPlace} (h : DataW.trod enc Tryz.prog w 0 sp held n 34 [v] = some y) :
    ∃ ss : List Bytes, TextsAt w v ss ∧ ss.length ≤ maxLen ∧ ∀ s ∈ ss, s.length ≤ maxLen := by
  rcases DataW.trod_slice Tryz.underlying34 h with ⟨e, _⟩ | ⟨a, len, cap, _, _, _, _, e, _⟩
  · cases e; exact open_texts (ao := none) ⟨n, h⟩
  · cases e; exact open_texts (ao := some a) ⟨n, h⟩

theorem choose_list {α : Type} [Inhabited α] {p : Nat → α → Prop} {n : Nat} (h : ∀ i, i < n → ∃ x, p i x) : ∃ l : List α, l.length = n ∧ ∀ (i : Nat) x, l[i]? = some x → p i x := by
  obtain ⟨f, hf⟩ := Deep.choose_lt h
  refine ⟨(List.range n).map f, by simp, fun i x hx => ?_⟩
  have hi : i < n := by have := (List.getElem?_eq_some_iff.1 hx).1; simpa using this
  rw [List.getElem?_map, List.getElem?_range hi] at hx
  cases hx
  exact hf i hi

set_option maxRecDepth 100000 in
theorem step_of_trod {H : Type} {enc : TypeId × Value → H} {w : World} {sp : Nat → Bool} {held : Bool} {n b o : Nat} {cs : List Value} {y : DataW H × List MemPlace} (h1 : w.cells? 0 ⟨b, o, none⟩ 4 = some cs) (h2 : DataW.trod enc Tryz.prog w 0 sp held n 46 cs = some y) :
    ∃ st, StepAt w b o st := by
  have c3 : Tryz.prog.cellsOf 3 = 1 := by kernel_rfl
  have c9 : Tryz.prog.cellsOf 9 = 1 := by kernel_rfl
  have c37 : Tryz.prog.cellsOf 37 = 1 := by kernel_rfl
  obtain ⟨_, hlen, hcell⟩ := World.cells?_some h1
  obtain ⟨xs, k, hk, hxy, _, hxl, hf⟩ := DataW.trod_struct Tryz.underlying46 h2
  match xs, hxl, cs, hlen with
  | [y0, y1, y2, y3], _, [v0, v1, v2, v3], _ =>
    have g0 := hf 0 _ rfl
    have g1 := hf 1 _ rfl
    have g2 := hf 2 _ rfl
    have g3 := hf 3 _ rfl
    simp [c3, c9, c37] at g0 g1 g2 g3
    have e0 := hcell 0 (by omega)
    have e1 := hcell 1 (by omega)
    have e2 := hcell 2 (by omega)
    have e3 := hcell 3 (by omega)
    rw [add_plain] at e0 e1 e2 e3
    obtain ⟨z0, k0, _⟩ := DataW.trod_int Tryz.underlying3 g0
    obtain ⟨z1, k1, _⟩ := DataW.trod_int Tryz.underlying3 g1
    obtain ⟨s, k2, _, hs⟩ := DataW.trod_string Tryz.underlying9 g2
    obtain ⟨ks, hks, hkl⟩ := kept_of_trod g3
    simp only [List.cons.injEq, and_true] at k0 k1 k2
    subst k0 k1 k2
    exact ⟨⟨z0, z1, byt s, v3, ks⟩, by simpa using e0, by simpa using e1, by simpa [bs_of] using e2, by simpa using e3, hks, hkl, by simpa [byt] using hs⟩

set_option maxRecDepth 100000 in
theorem open_steps {H : Type} {enc : TypeId × Value → H} {w : World} {sp : Nat → Bool} {held : Bool} {ao : Option Addr} {len cap : Nat} {d : DataW H} {ps : List MemPlace} (h : DataW.Trod enc Tryz.prog w 0 sp held 43 (.slice ao len cap) d ps) :
    ∃ ss : List StepS, StepsAt w (.slice ao len cap) ss ∧ ss.length ≤ maxLen := by
  obtain ⟨fuel, hf⟩ := h
  have c46 : Tryz.prog.cellsOf 46 = 4 := by kernel_rfl
  rcases Deep.open_slice Tryz.underlying43 hf with ⟨e, _⟩ | ⟨a, ln, cp, m, n, D, Pl, e, _, hl, hm, hmm, _, hx⟩
  · simp [Value.cells] at e
    obtain ⟨rfl, rfl, rfl⟩ := e
    exact ⟨[], ⟨none, 0, rfl, .inl rfl⟩, Nat.zero_le _⟩
  · simp [Value.cells] at e
    obtain ⟨rfl, rfl, rfl⟩ := e
    have hle : len ≤ m := by rw [hmm]; split <;> omega
    rw [c46] at hx
    by_cases h0 : len = 0
    · exact ⟨[], ⟨some a, cap, by subst h0; rfl, .inl rfl⟩, Nat.zero_le _⟩
    · obtain ⟨cs0, hc0, _⟩ := hx 0 (by omega)
      obtain ⟨_, hl0, hcell⟩ := World.cells?_some hc0
      have hz := hcell 0 (by omega)
      have ha : (a.add (0 * 4)).add 0 = a := by simp [Addr.add]
      rw [ha] at hz
      obtain ⟨v0, hv0⟩ : ∃ v, w.cell? a = some v := by rw [hz]; exact ⟨_, List.getElem?_eq_getElem (by omega)⟩
      have hsp := spot_of hv0
      obtain ⟨ss, hsl, hss⟩ := choose_list (n := len) (p := fun i st => StepAt w a.block (a.off + i * 4) st) (fun i hi => by
        obtain ⟨cs', h1, h2⟩ := hx i (by omega)
        have ea : a.add (i * 4) = ⟨a.block, a.off + i * 4, none⟩ := by rw [show a.add (i * 4) = (⟨a.block, a.off, none⟩ : Addr).add (i * 4) from congrArg (·.add (i * 4)) hsp]; exact add_plain _ _ _
        rw [ea] at h1
        exact step_of_trod h1 h2)
      exact ⟨ss, ⟨some a, cap, by rw [hsl], .inr ⟨a.block, a.off, by rw [← hsp], World.block_lt_of_cell? w _ hv0, hss⟩⟩, by omega⟩
end Go.Proofs.YtfijhffhlklddaaGreatDoor
