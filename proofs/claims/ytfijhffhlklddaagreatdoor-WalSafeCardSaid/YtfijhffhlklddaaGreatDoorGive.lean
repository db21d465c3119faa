/-
  Lists of lists among the arguments; append in a region that draws its order; what a crash leaves when nothing was written.
-/
import Derived.Test.YtfijhffhlklddaaGreatDoorStep
import Derived.Deep.AppendLies
import Derived.Deep.RegionHeld3
namespace Go.Proofs.YtfijhffhlklddaaGreatDoor
open Go.RowKit Go.ChangeShapes Go.WideShapes

/-- A slice of one-cell elements, each with what holds of it. -/
def ElemsAt {α : Type} (p : World → Value → α → Prop) (w : World) (v : Value) (xs : List α) : Prop :=
  ∃ ao cap, v = .slice ao xs.length cap ∧ (xs = [] ∨ ∃ g off, ao = some ⟨g, off, none⟩ ∧ ∀ (j : Nat) x, xs[j]? = some x → ∃ u, w.cell? ⟨g, off + j, none⟩ = some u ∧ p w u x)
theorem ElemsAt.get {α : Type} [Inhabited α] {p : World → Value → α → Prop} {w : World} {ao : Option Addr} {n cap : Nat} {xs : List α} (h : ElemsAt p w (.slice ao n cap) xs) {j : Nat} (hj : j < xs.length) :
    ∃ g off u, ao = some ⟨g, off, none⟩ ∧ w.cell? ⟨g, off + j, none⟩ = some u ∧ p w u (xs.getD j default) := by
  obtain ⟨ao', cap', e, h⟩ := h
  cases e
  rcases h with rfl | ⟨g, off, rfl, h⟩
  · simp at hj
  · obtain ⟨u, h1, h2⟩ := h j _ (List.getElem?_eq_getElem hj)
    exact ⟨g, off, u, rfl, h1, by rw [List.getD_eq_getElem?_getD, List.getElem?_eq_getElem hj]; exact h2⟩

theorem TextsAt.nth {w : World} {ao : Option Addr} {n cap : Nat} {ss : List Bytes} (h : TextsAt w (.slice ao n cap) ss) {j : Nat} (hj : j < ss.length) : ∃ g off, ao = some ⟨g, off, none⟩ ∧ w.cell? ⟨g, off + j, none⟩ = some (.string (bs (ss.getD j []))) := by
  obtain ⟨ao', cap', e, h⟩ := h
  cases e
  rcases h with rfl | ⟨g, off, rfl, h⟩
  · simp at hj
  · exact ⟨g, off, rfl, by rw [h.2 j (by simpa using hj), getD_map_bs _ _ hj]⟩

theorem open_elems {α : Type} [Inhabited α] {H : Type} {enc : TypeId × Value → H} {w : World} {sp : Nat → Bool} {held : Bool} {ao : Option Addr} {len cap : Nat} {d : DataW H} {ps : List MemPlace} {t e : TypeId} (ht : Tryz.prog.underlying t = some (.slice e)) (hc : Tryz.prog.cellsOf e = 1)
    {p : World → Value → α → Prop} (hp : ∀ n u y, DataW.trod enc Tryz.prog w 0 sp held n e [u] = some y → ∃ x, p w u x)
    (h : DataW.Trod enc Tryz.prog w 0 sp held t (.slice ao len cap) d ps) : ∃ xs : List α, ElemsAt p w (.slice ao len cap) xs := by
  obtain ⟨fuel, hf⟩ := h
  rcases Deep.open_slice1 ht hc hf with ⟨e, _⟩ | ⟨a, ln, cp, m, n, V, D, Pl, e, _, hl, hm, hmm, _, hx⟩
  · simp [Value.cells] at e
    obtain ⟨rfl, rfl, rfl⟩ := e
    exact ⟨[], none, 0, rfl, .inl rfl⟩
  · simp [Value.cells] at e
    obtain ⟨rfl, rfl, rfl⟩ := e
    have hle : len ≤ m := by rw [hmm]; split <;> omega
    by_cases h0 : len = 0
    · exact ⟨[], some a, cap, by subst h0; rfl, .inl rfl⟩
    · obtain ⟨hv0, _⟩ := hx 0 (by omega)
      have ha : a.add 0 = a := by simp [Addr.add]
      rw [ha] at hv0
      have hsp := spot_of hv0
      obtain ⟨xs, hxl, hxs⟩ := choose_list (n := len) (p := fun i x => w.cell? ⟨a.block, a.off + i, none⟩ = some (V i) ∧ p w (V i) x) (fun i hi => by
        obtain ⟨h1, h2⟩ := hx i (by omega)
        have ea : a.add i = ⟨a.block, a.off + i, none⟩ := by rw [show a.add i = (⟨a.block, a.off, none⟩ : Addr).add i from congrArg (·.add i) hsp]; exact add_plain _ _ _
        rw [ea] at h1
        obtain ⟨x, hx⟩ := hp _ _ _ h2
        exact ⟨x, h1, hx⟩)
      exact ⟨xs, some a, cap, by rw [hxl], .inr ⟨a.block, a.off, by rw [← hsp], fun j x hj => ⟨_, hxs j x hj⟩⟩⟩

def Texts1 (w : World) (v : Value) (ss : List Bytes) : Prop := TextsAt w v ss
def Kept1 (w : World) (v : Value) (ks : KL) : Prop := KeptAt w v ks
def Byte1 (_w : World) (v : Value) (n : Nat) : Prop := v = .int .u8 n ∧ n < 256
set_option maxRecDepth 100000 in
theorem open_rounds {H : Type} {enc : TypeId × Value → H} {w : World} {sp : Nat → Bool} {held : Bool} {ao : Option Addr} {len cap : Nat} {d : DataW H} {ps : List MemPlace} (h : DataW.Trod enc Tryz.prog w 0 sp held 22 (.slice ao len cap) d ps) :
    ∃ xs : List (List Bytes), ElemsAt Texts1 w (.slice ao len cap) xs :=
  open_elems Tryz.underlying22 (by kernel_rfl) (fun _ _ _ hu => by obtain ⟨ss, hs, _⟩ := texts_of_trod hu; exact ⟨ss, hs⟩) h
set_option maxRecDepth 100000 in
theorem open_keeps {H : Type} {enc : TypeId × Value → H} {w : World} {sp : Nat → Bool} {held : Bool} {ao : Option Addr} {len cap : Nat} {d : DataW H} {ps : List MemPlace} (h : DataW.Trod enc Tryz.prog w 0 sp held 24 (.slice ao len cap) d ps) :
    ∃ xs : List KL, ElemsAt Kept1 w (.slice ao len cap) xs :=
  open_elems Tryz.underlying24 (by kernel_rfl) (fun _ _ _ hu => by obtain ⟨ss, hs, _⟩ := kept_of_trod hu; exact ⟨ss, hs⟩) h
set_option maxRecDepth 100000 in
theorem open_bytes {H : Type} {enc : TypeId × Value → H} {w : World} {sp : Nat → Bool} {held : Bool} {ao : Option Addr} {len cap : Nat} {d : DataW H} {ps : List MemPlace} (h : DataW.Trod enc Tryz.prog w 0 sp held 23 (.slice ao len cap) d ps) :
    ∃ xs : List Nat, ElemsAt Byte1 w (.slice ao len cap) xs :=
  open_elems Tryz.underlying23 (by kernel_rfl) (fun _ u _ hu => by
    obtain ⟨z, k1, _, hz⟩ := DataW.trod_int Tryz.underlying5 hu
    simp only [List.cons.injEq, and_true] at k1
    have hb : 0 ≤ z ∧ z ≤ 255 := by
      simp [Lit.wf, IntKind.min, IntKind.max, IntKind.signed, IntKind.bits] at hz
      omega
    exact ⟨z.toNat, by rw [k1]; congr 1; omega, by omega⟩) h

theorem run_append_any {P : Program} (w : World) (t ty : TypeId) (base : Nat) (e : TypeId) (i : TypeInfo) (z : Value) (size bytes : Nat) (ht : P.underlying t = some (.slice e)) (hi : P.info? e = some i) (hz : i.zero = some z)
    (hsize : i.size = size) (hby : i.bytes = bytes) (hzs : z.cells.size = size) (hsz : 0 < size)
    (v : Value) (n : Nat) (xs : List Value) (hown : w.ownsRow base e size v n xs)
    (ao : Option Addr) (m c : Nat) (news : List Value) (hl : news.length = m * size) (hnews : m = 0 ∨ ∃ ad, ao = some ad ∧ ∀ j u, news[j]? = some u → w.cell? (ad.add j) = some u) (h1 : ∀ u ∈ news, u.oneCell' = true)
    (h63 : n + m ≤ maxLen) (hbytes : (n + m) * bytes ≤ 140737488355328) (hbase : base ≤ w.heap.size) :
    ∃ v' w', (Builtin.append_ #[t, t] ty #[v, .slice ao m c]).run P w = .ok v' w' ∧ w'.ownsRow base e size v' (n + m) (xs ++ news) ∧ w.grownBy w' v.ownBlock ∧ (v'.ownBlock = v.ownBlock ∨ v'.ownBlock = some w.heap.size) := by
  have main : ∀ ad, (∀ j u, news[j]? = some u → w.cell? (ad.add j) = some u) → ∃ v' w', (Builtin.append_ #[t, t] ty #[v, .slice (some ad) m c]).run P w = .ok v' w' ∧ w'.ownsRow base e size v' (n + m) (xs ++ news) ∧ w.grownBy w' v.ownBlock ∧ (v'.ownBlock = v.ownBlock ∨ v'.ownBlock = some w.heap.size) := fun ad hn => by
    obtain ⟨v', w', hr, h2, h3, _, h5⟩ := run_append_own_at (P := P) w base t ty e i z size bytes ht hi hz hsize hby hzs hsz v n xs hown ad m c news hl hn h1 h63 hbytes hbase
    exact ⟨v', w', hr, h2, h3, h5⟩
  rcases hnews with rfl | ⟨ad, rfl, hn⟩
  · obtain rfl : news = [] := List.length_eq_zero_iff.1 (by simpa using hl)
    cases ao with
    | some ad => exact main ad (fun j u hj => by simp at hj)
    | none => exact ⟨v, w, run_append_none (P := P) t ty e i size ht hi v n xs hown c, by simpa using hown, ⟨rfl, rfl, rfl, Nat.le_refl _, fun _ _ _ => rfl⟩, .inl rfl⟩
  · exact main ad hn

/-- At a step of a region that draws its order. -/
theorem step_append_any {P : Program} (w : World) {ops : Array Oper} {o : Oper} {a : Act} {K : Act → World → Prop} {Q : Exit → Act → World → Prop} {E : Prop} (hgd : o.guard = none) (s x : Operand) (t : TypeId)
    (ho : o.op = .call { callee := .builtin .append, args := #[s, x], argTypes := #[t, t] })
    (base : Nat) (e : TypeId) (i : TypeInfo) (z : Value) (size bytes : Nat) (ht : P.underlying t = some (.slice e)) (hi : P.info? e = some i) (hz : i.zero = some z)
    (hsize : i.size = size) (hby : i.bytes = bytes) (hzs : z.cells.size = size) (hsz : 0 < size)
    (v : Value) (n : Nat) (xs : List Value) (hs : a.eval s = v) (hown : w.ownsRow base e size v n xs)
    (ao : Option Addr) (m c : Nat) (news : List Value) (hx : a.eval x = .slice ao m c) (hl : news.length = m * size) (hnews : m = 0 ∨ ∃ ad, ao = some ad ∧ ∀ j u, news[j]? = some u → w.cell? (ad.add j) = some u) (h1 : ∀ u ∈ news, u.oneCell' = true)
    (h63 : n + m ≤ maxLen) (hbytes : (n + m) * bytes ≤ 140737488355328) (hbase : base ≤ w.heap.size)
    (h : ∀ v' w', w'.ownsRow base e size v' (n + m) (xs ++ news) → w.grownBy w' v.ownBlock → (v'.ownBlock = v.ownBlock ∨ v'.ownBlock = some w.heap.size) → K (a.put o.dst v') w') :
    if Region.wanted o (yielded ops a.tmps) = true then Oper.wp P o a w K Q else E := by
  have hw : Region.wanted o (yielded ops a.tmps) = true := by simp [Region.wanted, hgd]
  rw [if_pos hw]
  obtain ⟨v', w', hr, h2, h3, h4⟩ := run_append_any (P := P) w t o.type base e i z size bytes ht hi hz hsize hby hzs hsz v n xs hown ao m c news hl hnews h1 h63 hbytes hbase
  unfold Oper.wp execOp
  simp only [ho, resolve, invoke, builtin, Sem.run_bind, Sem.run_pure, Result.andThen_ok, List.map_toArray, List.map_cons, List.map_nil, hs, hx, hr]
  exact h v' w' h2 h3 h4

theorem drew_heap (w : World) : w.drew.heap = w.heap := rfl
/-- A block that was made one or two steps ago. -/
theorem heap_one (w : World) (o : Obj) {k : Nat} (hk : k = w.heap.size) : (w.alloc o).heap[k]? = some o := by subst hk; exact heap_alloc_new w o
theorem heap_two (w : World) (o o' : Obj) {k : Nat} (hk : k = w.heap.size) : ((w.alloc o).alloc o').heap[k]? = some o := by
  rw [Lib.alloc_old _ _ _ (by subst hk; simp)]; exact heap_one w o hk
theorem own_empty {w : World} {base A : Nat} (h : w.heap[A]? = some (.cells #[] 9 (0, 0))) (hA : base ≤ A) : w.ownsRow base 9 1 (.slice (some ⟨A, 0, none⟩) 0 0) 0 [] :=
  ⟨rfl, .inr ⟨A, 0, #[], rfl, hA, h, Nat.le_refl _, Nat.zero_le _, rfl, rfl⟩⟩
theorem Below.push {w0 w : World} (h : Below w0.heap.size w0 w) (o : Obj) : Below w0.heap.size w0 (w.alloc o) := h.alloc h.size o
theorem Below.via {w0 p w : World} {row : Option Nat} (hg : p.grownBy w row) (h : Below w0.heap.size w0 p) (hr : ∀ k, row = some k → w0.heap.size ≤ k) : Below w0.heap.size w0 w := h.grown hg h.size hr
theorem texts_news {w : World} {ao : Option Addr} {len cap : Nat} {ss : List Bytes} (h : TextsAt w (.slice ao len cap) ss) : len = 0 ∨ ∃ ad, ao = some ad ∧ ∀ j u, (strs ss)[j]? = some u → w.cell? (ad.add j) = some u := by
  obtain ⟨ao', cap', e, h⟩ := h
  cases e
  rcases h with rfl | ⟨g, off, rfl, hg, h⟩
  · exact .inl rfl
  · refine .inr ⟨_, rfl, fun j u hj => ?_⟩
    have hl : j < ss.length := by have := (List.getElem?_eq_some_iff.1 hj).1; simpa using this
    rw [add_plain, h j (by simpa using hl), getD_map_bs _ _ hl]
    rw [List.getElem?_map, List.getElem?_eq_getElem hl] at hj
    cases hj
    rw [List.getD_eq_getElem?_getD, List.getElem?_eq_getElem hl]
    rfl
theorem strs_one (ss : List Bytes) : ∀ u ∈ strs ss, u.oneCell' = true := by
  intro u hu
  obtain ⟨x, _, rfl⟩ := List.mem_map.1 hu
  rfl

/-- Nothing was written: a crash leaves the sectors as they were. -/
theorem St.crash_none {D : DiskS} {b0 : List Bytes} {U0 s : Nat} (h : St D b0 U0 [] s) (ks : KL) : (D.again ks).reg = b0 := by
  obtain ⟨h1, h2, h3, _, _⟩ := h.crash ks
  have hd : (D.again ks).reg.drop U0 = b0.drop U0 := list_ext_getD h3.len (fun p _ => h3.rest p (by simp))
  rw [← List.take_append_drop U0 (D.again ks).reg, h2, hd, List.take_append_drop]
theorem Live.reopen_safe {E : Errs} {B : Nat} {w : World} {d : Dk} {l : Nat} {D : DiskS} {S : LogS} {first N0 U0 : Nat} {b0 recs0 rs : List Bytes} {k : Nat} (h : Live E B w d l D S first N0 U0 b0 recs0 rs k) (hN : N0 + rs.length ≤ 256) (hb : N0 ≤ nextS first b0) (ks : KL) :
    ∃ j, j ≤ rs.length ∧ k ≤ j ∧ Scan (D.again ks).reg first (recs0 ++ rs.take j) (U0 + (wallS N0 (rs.take j)).length) ∧ (∀ x ∈ (D.again ks).reg, Good (N0 + rs.length) x) ∧ (j = rs.length → N0 + rs.length ≤ nextS first (D.again ks).reg) := by
  obtain ⟨j, j1, j2, j3, j4, j5⟩ := h.reopen hN ks
  refine ⟨j, j1, j2, j3, j4, fun hj => ?_⟩
  rcases Nat.eq_zero_or_pos j with h0 | h0
  · have hr : rs = [] := List.length_eq_zero_iff.1 (by omega)
    subst hr
    have hst := h.st
    rw [show wallS N0 [] = [] from rfl] at hst
    rw [hst.crash_none ks]
    simpa using hb
  · exact j5 hj h0
end Go.Proofs.YtfijhffhlklddaaGreatDoor
