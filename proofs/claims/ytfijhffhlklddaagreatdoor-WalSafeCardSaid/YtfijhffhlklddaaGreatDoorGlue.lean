/-
  append of a whole slice, nil or not, to one that the call owns.
-/
import Derived.Test.YtfijhffhlklddaaGreatDoorMore
namespace Go.Proofs.YtfijhffhlklddaaGreatDoor
open Go.RowKit

theorem run_append_none {P : Program} {w : World} {base : Nat} (t ty e : TypeId) (i : TypeInfo) (size : Nat) (ht : P.underlying t = some (.slice e)) (hi : P.info? e = some i)
    (v : Value) (n : Nat) (xs : List Value) (hown : w.ownsRow base e size v n xs) (c : Nat) :
    (Builtin.append_ #[t, t] ty #[v, .slice none 0 c]).run P w = .ok v w := by
  rcases hown.2 with ⟨rfl, rfl⟩ | ⟨g, cap, cur, rfl, _, _, hnc, _⟩
  · simp [Builtin.append_, run_underlying ht, sizeOf, typeInfo, hi, Builtin.lenOf, Builtin.firstCells]
  · simp [Builtin.append_, run_underlying ht, sizeOf, typeInfo, hi, Builtin.lenOf, Builtin.firstCells, hnc, storeCells]

theorem wpList_append_any {P : Program} (w : World) {ops : Array Oper} {rest : List Oper} {o : Oper} {a : Act} {Q : Exit → Act → World → Prop} (hgd : o.guard = none) (s x : Operand) (t : TypeId)
    (ho : o.op = .call { callee := .builtin .append, args := #[s, x], argTypes := #[t, t] })
    (base : Nat) (e : TypeId) (i : TypeInfo) (z : Value) (size bytes : Nat) (ht : P.underlying t = some (.slice e)) (hi : P.info? e = some i) (hz : i.zero = some z)
    (hsize : i.size = size) (hby : i.bytes = bytes) (hzs : z.cells.size = size) (hsz : 0 < size)
    (v : Value) (n : Nat) (xs : List Value) (hs : a.eval s = v) (hown : w.ownsRow base e size v n xs)
    (ao : Option Addr) (m c : Nat) (news : List Value) (hx : a.eval x = .slice ao m c) (hl : news.length = m * size) (hnews : m = 0 ∨ ∃ ad, ao = some ad ∧ ∀ j u, news[j]? = some u → w.cell? (ad.add j) = some u) (h1 : ∀ u ∈ news, u.oneCell' = true)
    (h63 : n + m ≤ maxLen) (hbytes : (n + m) * bytes ≤ 140737488355328) (hbase : base ≤ w.heap.size)
    (h : ∀ v' w', w'.ownsRow base e size v' (n + m) (xs ++ news) → w.grownBy w' v.ownBlock → (v'.ownBlock = v.ownBlock ∨ v'.ownBlock = some w.heap.size) → wpList P ops Q rest (a.put o.dst v') w') :
    wpList P ops Q (o :: rest) a w := by
  have main : ∀ ad, ao = some ad → (∀ j u, news[j]? = some u → w.cell? (ad.add j) = some u) → wpList P ops Q (o :: rest) a w := fun ad had hn =>
    wpList_append_own_at (w := w) hgd s x t ho base e i z size bytes ht hi hz hsize hby hzs hsz v n xs hs hown ad m c news (by rw [hx, had]) hl hn h1 h63 hbytes hbase (fun v' w' k1 k2 _ k4 => h v' w' k1 k2 k4)
  rcases hnews with rfl | ⟨ad, had, hn⟩
  · obtain rfl : news = [] := List.length_eq_zero_iff.1 (by simpa using hl)
    cases hao : ao with
    | some ad => exact main ad hao (fun j u hj => by simp at hj)
    | none =>
      refine wpList_plain hgd fun K hK => ?_
      rw [hao] at hx
      have hr := run_append_none (P := P) t o.type e i size ht hi v n xs hown c
      unfold Oper.wp execOp
      simp only [ho, resolve, invoke, builtin, Sem.run_bind, Sem.run_pure, Result.andThen_ok, List.map_toArray, List.map_cons, List.map_nil, hs, hx, hr]
      exact hK _ _ (h v w (by simpa using hown) ⟨rfl, rfl, rfl, Nat.le_refl _, fun _ _ _ => rfl⟩ (.inl rfl))
  · exact main ad had hn

/-- The cells of a slice of what is kept. -/
def keptCells (ks : KL) : List Value := ks.flatMap fun k => [.int .i64 k.1, .int .i64 k.2]
theorem keptCells_length (ks : KL) : (keptCells ks).length = ks.length * 2 := by
  induction ks with
  | nil => rfl
  | cons a r ih => rw [show keptCells (a :: r) = .int .i64 a.1 :: .int .i64 a.2 :: keptCells r from rfl]; simp only [List.length_cons, ih]; omega
theorem keptCells_get (ks : KL) : ∀ j, j < ks.length → (keptCells ks)[j * 2]? = some (.int .i64 (ks.getD j (0, 0)).1) ∧ (keptCells ks)[j * 2 + 1]? = some (.int .i64 (ks.getD j (0, 0)).2) := by
  induction ks with
  | nil => intro j hj; simp at hj
  | cons a r ih =>
    intro j hj
    rw [show keptCells (a :: r) = .int .i64 a.1 :: .int .i64 a.2 :: keptCells r from rfl]
    cases j with
    | zero => exact ⟨rfl, rfl⟩
    | succ j =>
      have := ih j (by simpa using hj)
      rw [show (j + 1) * 2 = j * 2 + 1 + 1 by omega]
      simpa using this
theorem kept_news {w : World} {ao : Option Addr} {len cap : Nat} {ks : KL} (h : KeptAt w (.slice ao len cap) ks) : len = ks.length ∧ (len = 0 ∨ ∃ ad, ao = some ad ∧ ∀ j u, (keptCells ks)[j]? = some u → w.cell? (ad.add j) = some u) := by
  obtain ⟨ao', cap', e, h⟩ := h
  cases e
  refine ⟨rfl, ?_⟩
  rcases h with rfl | ⟨g, off, rfl, hg, h⟩
  · exact .inl rfl
  · refine .inr ⟨_, rfl, fun j u hj => ?_⟩
    have hj2 : j < ks.length * 2 := by
      have := (List.getElem?_eq_some_iff.1 hj).1
      rwa [keptCells_length] at this
    have hi : j / 2 < ks.length := by omega
    obtain ⟨g1, g2⟩ := keptCells_get ks (j / 2) hi
    obtain ⟨c1, c2⟩ := h (j / 2) hi
    rcases Nat.mod_two_eq_zero_or_one j with hm | hm
    · have ej : j / 2 * 2 = j := by omega
      rw [ej] at g1 c1
      rw [g1] at hj; cases hj
      rw [Go.WideShapes.add_plain]; exact c1
    · have ej : j / 2 * 2 + 1 = j := by omega
      rw [ej] at g2
      rw [show off + j / 2 * 2 + 1 = off + j by omega] at c2
      rw [g2] at hj; cases hj
      rw [Go.WideShapes.add_plain]; exact c2
theorem kept_one (ks : KL) : ∀ u ∈ keptCells ks, u.oneCell' = true := by
  intro u hu
  unfold keptCells at hu
  rw [List.mem_flatMap] at hu
  obtain ⟨a, _, hu⟩ := hu
  simp at hu
  rcases hu with rfl | rfl <;> rfl
theorem kept_row {B : Nat} {w : World} {v : Value} {ks : KL} (h : w.ownsRow B 98 2 v ks.length (keptCells ks)) : KeptAt w v ks := by
  rcases h.2 with ⟨e, e0⟩ | ⟨g, cap, cur, e, _, hg, _, _, hcs, htake⟩
  · exact ⟨none, 0, by rw [e, e0], .inl (List.length_eq_zero_iff.1 e0)⟩
  · refine ⟨_, cap, e, .inr ⟨g, 0, rfl, (Array.getElem?_eq_some_iff.1 hg).1, fun j hj => ?_⟩⟩
    obtain ⟨g1, g2⟩ := keptCells_get ks j hj
    have at_ : ∀ i, i < ks.length * 2 → cur[i]? = (keptCells ks)[i]? := fun i hi => by
      rw [← htake, List.getElem?_take, if_pos hi]; simp
    rw [Lib.cell_of_heap hg, Lib.cell_of_heap hg]
    simp only [Nat.zero_add]
    rw [at_ _ (by omega), at_ _ (by omega)]
    exact ⟨g1, g2⟩
theorem infoKept : (Tryz.prog.info? 98).map (fun i => (i.zero.map (fun z => z.cells.size), i.size, i.bytes)) = some (some 2, 2, 16) := by kernel_rfl
theorem info_kept : ∃ i z, Tryz.prog.info? 98 = some i ∧ i.zero = some z ∧ i.size = 2 ∧ i.bytes = 16 ∧ z.cells.size = 2 := by
  have h := infoKept
  cases hi : Tryz.prog.info? 98 with
  | none => rw [hi] at h; cases h
  | some i =>
    rw [hi] at h
    simp only [Option.map_some, Option.some.injEq, Prod.mk.injEq] at h
    obtain ⟨h1, h2, h3⟩ := h
    cases hz : i.zero with
    | none => rw [hz] at h1; cases h1
    | some z => rw [hz] at h1; exact ⟨i, z, rfl, hz, h2, h3, by simpa using h1⟩
end Go.Proofs.YtfijhffhlklddaaGreatDoor
