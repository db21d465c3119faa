/-
  The plain law of a disk under a log: what appends, flushes and crashes leave of the log's sectors.
-/
import Derived.Test.YtfijhffhlklddaaGreatDoorOpen
namespace Go.Proofs.YtfijhffhlklddaaGreatDoor
open Go.RowKit

abbrev ix (p : Nat) : Int := (2 : Int) + (p : Int)
/-- b0 are the sectors as they were durable when the log was opened; W was written from U0 on; the first s of it are durable, the others are cached. -/
structure St (D : DiskS) (b0 : List Bytes) (U0 : Nat) (W : List Bytes) (s : Nat) : Prop where
  len : b0.length = logsOf D.n
  le : U0 + W.length ≤ b0.length
  sl : s ≤ W.length
  none1 : ∀ p, p < b0.length → (p < U0 + s ∨ U0 + W.length ≤ p) → D.c (ix p) = none
  at1 : ∀ p, p < b0.length → (p < U0 ∨ U0 + s ≤ p) → byt (D.at (ix p)) = b0.getD p []
  at2 : ∀ q, q < s → byt (D.at (ix (U0 + q))) = W.getD q []
  cached : ∀ q, s ≤ q → q < W.length → D.c (ix (U0 + q)) = some (bs (W.getD q []))

theorem reg_getD (D : DiskS) (p : Nat) (hp : p < logsOf D.n) : D.reg.getD p [] = byt (D.read (ix p)) := by
  rw [List.getD_eq_getElem?_getD, DiskS.reg, List.getElem?_map, List.getElem?_range hp]; rfl
theorem read_none {D : DiskS} {i : Int} (h : D.c i = none) : D.read i = D.at i := by unfold DiskS.read; rw [h]; rfl
theorem read_some {D : DiskS} {i : Int} {s : ByteArray} (h : D.c i = some s) : D.read i = s := by unfold DiskS.read; rw [h]; rfl

theorem St.start {D : DiskS} (h : ∀ p, p < logsOf D.n → D.c (ix p) = none) {U0 : Nat} (hu : U0 ≤ logsOf D.n) : St D D.reg U0 [] 0 :=
  { len := reg_length D, le := by rw [reg_length]; simpa using hu, sl := Nat.le_refl _, none1 := fun p hp _ => h p (by rwa [reg_length] at hp),
    at1 := fun p hp _ => by rw [reg_length] at hp; rw [reg_getD D p hp, read_none (h p hp)], at2 := fun q hq => by omega, cached := fun q _ hq => by simp at hq }

theorem writeFrom_get (ss : List ByteArray) : ∀ (c : Sectors) (i : Nat) (k : Int), writeFrom c i ss k = if (i : Int) ≤ k ∧ k < i + ss.length then some (ss.getD (k - i).toNat ByteArray.empty) else c k := by
  induction ss with
  | nil => intro c i k; rw [writeFrom, if_neg (by simp only [List.length_nil]; omega)]
  | cons a r ih =>
    intro c i k
    rw [writeFrom, ih]
    by_cases h1 : ((i + 1 : Nat) : Int) ≤ k ∧ k < (i + 1 : Nat) + r.length
    · rw [if_pos h1, if_pos (by simp only [List.length_cons]; omega)]
      have e : (k - i).toNat = (k - (i + 1 : Nat)).toNat + 1 := by omega
      rw [e]
      rfl
    · rw [if_neg h1]
      unfold upd
      by_cases h2 : k = (i : Int)
      · subst h2
        rw [if_pos rfl, if_pos (by simp only [List.length_cons]; omega)]
        simp
      · rw [if_neg h2, if_neg (by simp only [List.length_cons]; omega)]

theorem getD_map_bs (X : List Bytes) (q : Nat) (hq : q < X.length) : (X.map bs).getD q ByteArray.empty = bs (X.getD q []) := by
  simp [List.getD_eq_getElem?_getD, List.getElem?_eq_getElem hq]

theorem St.append {D : DiskS} {b0 : List Bytes} {U0 : Nat} {W : List Bytes} {s : Nat} (h : St D b0 U0 W s) {X : List Bytes} (hx : U0 + W.length + X.length ≤ b0.length) : St (D.wrote (2 + (U0 + W.length)) X) b0 U0 (W ++ X) s := by
  have hc : ∀ p, (D.wrote (2 + (U0 + W.length)) X).c (ix p) = if U0 + W.length ≤ p ∧ p < U0 + W.length + X.length then some (bs (X.getD (p - (U0 + W.length)) [])) else D.c (ix p) := by
    intro p
    show writeFrom D.c _ _ _ = _
    rw [writeFrom_get, List.length_map]
    have hix : ix p = (2 : Int) + (p : Int) := rfl
    by_cases hp : U0 + W.length ≤ p ∧ p < U0 + W.length + X.length
    · rw [if_pos hp, if_pos (by omega)]
      have e : (ix p - ((2 + (U0 + W.length) : Nat) : Int)).toNat = p - (U0 + W.length) := by omega
      rw [e, getD_map_bs X _ (by omega)]
    · rw [if_neg hp, if_neg (by omega)]
  have hs := h.sl
  refine { len := h.len, le := by rw [List.length_append]; omega, sl := by rw [List.length_append]; omega, none1 := ?_, at1 := h.at1, at2 := ?_, cached := ?_ }
  · intro p hp h1
    rw [List.length_append] at h1
    rw [hc, if_neg (by omega)]
    exact h.none1 p hp (by omega)
  · intro q hq
    rw [getD_app_l _ _ _ (by omega)]
    exact h.at2 q hq
  · intro q h1 h2
    rw [List.length_append] at h2
    rw [hc]
    by_cases hq : q < W.length
    · rw [if_neg (by omega), getD_app_l _ _ _ hq]
      exact h.cached q h1 hq
    · rw [if_pos (by omega), getD_app_r _ _ _ (by omega), show U0 + q - (U0 + W.length) = q - W.length by omega]

theorem at_over {D : DiskS} {c : Sectors} {i : Int} (h : c i = none) : DiskS.at { D with m := over c D.m } i = D.at i := by
  unfold DiskS.at over
  show (match c i with | some s => some s | none => D.m i).getD _ = _
  rw [h]
theorem at_over_some {D : DiskS} {c : Sectors} {i : Int} {s : ByteArray} (h : c i = some s) : DiskS.at { D with m := over c D.m } i = s := by
  unfold DiskS.at over
  show (match c i with | some s => some s | none => D.m i).getD _ = _
  rw [h]; rfl

theorem St.flush {D : DiskS} {b0 : List Bytes} {U0 : Nat} {W : List Bytes} {s : Nat} (h : St D b0 U0 W s) : St D.flushed b0 U0 W W.length := by
  have hs := h.sl
  have hn : ∀ i, D.c i = none → D.flushed.at i = D.at i := fun i hi => at_over (D := { D with c := fun _ => none }) hi
  have hsm : ∀ i x, D.c i = some x → D.flushed.at i = x := fun i x hi => at_over_some (D := { D with c := fun _ => none }) hi
  refine { len := h.len, le := h.le, sl := Nat.le_refl _, none1 := fun _ _ _ => rfl, at1 := ?_, at2 := ?_, cached := fun q h1 h2 => by omega }
  · intro p hp h1
    rw [hn _ (h.none1 p hp (by omega))]
    exact h.at1 p hp (by omega)
  · intro q hq
    by_cases h1 : q < s
    · rw [hn _ (h.none1 _ (by have := h.le; omega) (by omega))]
      exact h.at2 q h1
    · rw [hsm _ _ (h.cached q (by omega) hq)]
      rfl

/-- A disk that crashed, and was started. -/
def DiskS.again (D : DiskS) (ks : KL) : DiskS := { D.crashed ks with dead := false, armed := false }
theorem again_c (D : DiskS) (ks : KL) (i : Int) : (D.again ks).c i = none := rfl
theorem again_at_none {D : DiskS} {ks : KL} {i : Int} (h : D.c i = none) : (D.again ks).at i = D.at i := by
  show (crashM D ks i).getD _ = (D.m i).getD _
  unfold crashM; rw [h]
theorem again_at_some {D : DiskS} {ks : KL} {i : Int} {x : ByteArray} (h : D.c i = some x) : ∃ k, byt ((D.again ks).at i) = mixS k (byt x) (byt (D.at i)) ∧ (keptB ks i = none → byt ((D.again ks).at i) = byt (D.at i)) := by
  have e : (D.again ks).at i = (match keptB ks i with | none => D.m i | some k => some (mixB k x (D.at i))).getD zeroSector := by
    show (crashM D ks i).getD _ = _
    unfold crashM; simp only [h]
    cases keptB ks i <;> rfl
  cases hk : keptB ks i with
  | none =>
    rw [hk] at e
    have e' : (D.again ks).at i = D.at i := e
    refine ⟨0, ?_, fun _ => by rw [e']⟩
    rw [e']; simp [mixS]
  | some k =>
    rw [hk] at e
    refine ⟨k, ?_, fun h => by cases h⟩
    have e' : (D.again ks).at i = mixB k x (D.at i) := e
    rw [e']
    unfold mixB mixS byt
    rw [ByteArray.data_append, Array.toList_append, extract_toList, extract_toList, List.take_of_length_le (i := (D.at i).size - k) (by simp)]
    simp

theorem St.crash {D : DiskS} {b0 : List Bytes} {U0 : Nat} {W : List Bytes} {s : Nat} (h : St D b0 U0 W s) (ks : KL) :
    (D.again ks).reg.length = b0.length ∧ (D.again ks).reg.take U0 = b0.take U0 ∧ MixL W (b0.drop U0) ((D.again ks).reg.drop U0) ∧ (∀ q, q < s → ((D.again ks).reg.drop U0).getD q [] = W.getD q []) ∧
      ((∀ i, keptB ks i = none) → MixL (W.take s) (b0.drop U0) ((D.again ks).reg.drop U0)) := by
  have hl : (D.again ks).reg.length = b0.length := (reg_length _).trans h.len.symm
  have hg : ∀ p, p < b0.length → (D.again ks).reg.getD p [] = byt ((D.again ks).at (ix p)) := fun p hp => by
    rw [reg_getD _ p (by rw [← reg_length, hl]; exact hp), read_none (again_c D ks _)]
  have hle := h.le
  have hs := h.sl
  have hout : ∀ p, p < b0.length → (p < U0 ∨ U0 + W.length ≤ p) → (D.again ks).reg.getD p [] = b0.getD p [] := fun p hp h1 => by
    rw [hg p hp, again_at_none (h.none1 p hp (by omega)), h.at1 p hp (by omega)]
  have hin : ∀ q, q < s → (D.again ks).reg.getD (U0 + q) [] = W.getD q [] := fun q hq => by
    rw [hg _ (by omega), again_at_none (h.none1 _ (by omega) (by omega)), h.at2 q hq]
  have hmid : ∀ q, s ≤ q → q < W.length → ∃ k, (D.again ks).reg.getD (U0 + q) [] = mixS k (W.getD q []) (b0.getD (U0 + q) []) ∧ (keptB ks (ix (U0 + q)) = none → (D.again ks).reg.getD (U0 + q) [] = b0.getD (U0 + q) []) := fun q h1 h2 => by
    obtain ⟨k, e1, e2⟩ := again_at_some (ks := ks) (h.cached q h1 h2)
    refine ⟨k, ?_, fun hk => ?_⟩
    · rw [hg _ (by omega), e1, h.at1 _ (by omega) (by omega)]; rfl
    · rw [hg _ (by omega), e2 hk, h.at1 _ (by omega) (by omega)]
  refine ⟨hl, ?_, ?_, ?_, ?_⟩
  · refine list_ext_getD (by simp [hl]) fun p hp => ?_
    rw [List.length_take] at hp
    have := hout p (by omega) (by omega)
    rw [List.getD_eq_getElem?_getD, List.getD_eq_getElem?_getD, List.getElem?_take, List.getElem?_take, if_pos (by omega), if_pos (by omega), ← List.getD_eq_getElem?_getD, ← List.getD_eq_getElem?_getD, this]
  · refine { len := by simp [hl], le := by rw [List.length_drop]; omega, mix := fun q hq => ?_, rest := fun q hq => ?_ }
    · rw [getD_drop, getD_drop]
      by_cases h1 : q < s
      · refine ⟨256 + (W.getD q []).length + (b0.getD (U0 + q) []).length, ?_⟩
        rw [hin q h1, mixS, List.take_of_length_le (by omega), List.drop_eq_nil_of_le (by omega), List.append_nil]
      · obtain ⟨k, e, _⟩ := hmid q (by omega) hq
        exact ⟨k, e⟩
    · rw [getD_drop, getD_drop]
      by_cases hp : U0 + q < b0.length
      · exact hout _ hp (by omega)
      · rw [List.getD_eq_getElem?_getD, List.getD_eq_getElem?_getD, List.getElem?_eq_none (by omega), List.getElem?_eq_none (by omega)]
  · intro q hq
    rw [getD_drop]; exact hin q hq
  · intro hk
    refine { len := by simp [hl], le := by rw [List.length_drop, List.length_take]; omega, mix := fun q hq => ?_, rest := fun q hq => ?_ }
    · rw [List.length_take] at hq
      rw [getD_drop, getD_drop]
      have e1 : (W.take s).getD q [] = W.getD q [] := by rw [List.getD_eq_getElem?_getD, List.getD_eq_getElem?_getD, List.getElem?_take, if_pos (by omega)]
      refine ⟨256 + (W.getD q []).length + (b0.getD (U0 + q) []).length, ?_⟩
      rw [hin q (by omega), e1, mixS, List.take_of_length_le (by omega), List.drop_eq_nil_of_le (by omega), List.append_nil]
    · rw [List.length_take] at hq
      rw [getD_drop, getD_drop]
      by_cases hp : U0 + q < b0.length
      · by_cases hw : q < W.length
        · obtain ⟨k, _, e⟩ := hmid q (by omega) hw
          exact e (hk _)
        · exact hout _ hp (by omega)
      · rw [List.getD_eq_getElem?_getD, List.getD_eq_getElem?_getD, List.getElem?_eq_none (by omega), List.getElem?_eq_none (by omega)]

/-- What is read while all is there: the sectors as they were written. -/
theorem St.now {D : DiskS} {b0 : List Bytes} {U0 : Nat} {W : List Bytes} {s : Nat} (h : St D b0 U0 W s) :
    D.reg.length = b0.length ∧ D.reg.take U0 = b0.take U0 ∧ MixL W (b0.drop U0) (D.reg.drop U0) ∧ ∀ q, q < W.length → (D.reg.drop U0).getD q [] = W.getD q [] := by
  have hl : D.reg.length = b0.length := (reg_length _).trans h.len.symm
  have hle := h.le
  have hs := h.sl
  have hg : ∀ p, p < b0.length → D.reg.getD p [] = byt (D.read (ix p)) := fun p hp => reg_getD _ p (by rw [← reg_length, hl]; exact hp)
  have hout : ∀ p, p < b0.length → (p < U0 ∨ U0 + W.length ≤ p) → D.reg.getD p [] = b0.getD p [] := fun p hp h1 => by
    rw [hg p hp, read_none (h.none1 p hp (by omega)), h.at1 p hp (by omega)]
  have hin : ∀ q, q < W.length → D.reg.getD (U0 + q) [] = W.getD q [] := fun q hq => by
    rw [hg _ (by omega)]
    by_cases h1 : q < s
    · rw [read_none (h.none1 _ (by omega) (by omega)), h.at2 q h1]
    · rw [read_some (h.cached q (by omega) hq)]; rfl
  refine ⟨hl, ?_, ?_, fun q hq => by rw [getD_drop]; exact hin q hq⟩
  · refine list_ext_getD (by simp [hl]) fun p hp => ?_
    rw [List.length_take] at hp
    have := hout p (by omega) (by omega)
    rw [List.getD_eq_getElem?_getD, List.getD_eq_getElem?_getD, List.getElem?_take, List.getElem?_take, if_pos (by omega), if_pos (by omega), ← List.getD_eq_getElem?_getD, ← List.getD_eq_getElem?_getD, this]
  · refine { len := by simp [hl], le := by rw [List.length_drop]; omega, mix := fun q hq => ?_, rest := fun q hq => ?_ }
    · rw [getD_drop, getD_drop]
      refine ⟨256 + (W.getD q []).length + (b0.getD (U0 + q) []).length, ?_⟩
      rw [hin q hq, mixS, List.take_of_length_le (by omega), List.drop_eq_nil_of_le (by omega), List.append_nil]
    · rw [getD_drop, getD_drop]
      by_cases hp : U0 + q < b0.length
      · exact hout _ hp (by omega)
      · rw [List.getD_eq_getElem?_getD, List.getD_eq_getElem?_getD, List.getElem?_eq_none (by omega), List.getElem?_eq_none (by omega)]

theorem wallS_snoc (rs : List Bytes) (r : Bytes) : ∀ N, wallS N (rs ++ [r]) = wallS N rs ++ makeS (N + rs.length) r := by
  induction rs with
  | nil => intro N; simp [wallS]
  | cons a rs ih => intro N; rw [List.cons_append, wallS, ih, wallS, List.append_assoc, List.length_cons, show N + 1 + rs.length = N + (rs.length + 1) by omega]

/-- Opened again: what is read is a beginning of what was there and was appended, with all that is sure; and the numbers. -/
theorem reopen {b0 b1 : List Bytes} {first N0 U0 : Nat} {recs0 rs : List Bytes} (hg : ∀ x ∈ b0, Good N0 x) (hN0 : 0 < N0) (hN : N0 + rs.length ≤ 256) (hf : first ≤ N0) (hs0 : Scan b0 first recs0 U0) (hr : ∀ r ∈ rs, r.length ≤ 2000)
    (hl : b1.length = b0.length) (ht : b1.take U0 = b0.take U0) (hm : MixL (wallS N0 rs) (b0.drop U0) (b1.drop U0)) :
    ∃ j, j ≤ rs.length ∧ Scan b1 first (recs0 ++ rs.take j) (U0 + (wallS N0 (rs.take j)).length) ∧ (∀ i, i ≤ rs.length → (∀ p, p < (wallS N0 (rs.take i)).length → (b1.drop U0).getD p [] = (wallS N0 rs).getD p []) → i ≤ j) ∧
      (∀ x ∈ b1, Good (N0 + rs.length) x) ∧ (j = rs.length → 0 < j → N0 + rs.length ≤ nextS first b1) := by
  obtain ⟨hu, least, hle, hstop, hcont⟩ := hs0.again b1 N0 ht hg (by omega) hf
  have hgd : ∀ x ∈ b0.drop U0, Good N0 x := fun x hx => hg x (List.mem_of_mem_drop hx)
  obtain ⟨j, h1, h2, h3, h4⟩ := scan_mix rs N0 least (b0.drop U0) (b1.drop U0) hgd hN0 hN hle hstop hr hm
  have hgood : ∀ x ∈ b1, Good (N0 + rs.length) x := by
    refine good_of_getD fun p hp => ?_
    by_cases hpu : p < U0
    · have : b1.getD p [] = b0.getD p [] := by
        have := congrArg (fun l : List Bytes => l.getD p []) ht
        simp only [List.getD_eq_getElem?_getD, List.getElem?_take, if_pos hpu] at this
        rw [List.getD_eq_getElem?_getD, List.getD_eq_getElem?_getD, this]
      rw [this]
      exact (good_getD hg p (by omega)).mono (by omega)
    · have := good_getD (hm.good hgd hN) (p - U0) (by rw [List.length_drop]; omega)
      rw [getD_drop, show U0 + (p - U0) = p by omega] at this
      exact this
  refine ⟨j, h1, hcont _ _ h2, h4, hgood, fun hj hpos => ?_⟩
  -- the last one bears the greatest number
  subst hj
  obtain ⟨rs', r, rfl⟩ : ∃ rs' r, rs = rs' ++ [r] := ⟨rs.dropLast, rs.getLast (by intro e; rw [e] at hpos; simp at hpos), (List.dropLast_concat_getLast _).symm⟩
  rw [List.take_length] at h3
  have hw := wallS_snoc rs' r N0
  have hcp := cntS_pos r.length
  have hq : (wallS N0 rs').length < (wallS N0 (rs' ++ [r])).length := by rw [hw, List.length_append, makeS_length]; omega
  have he := h3 _ hq
  rw [hw, getD_app_r _ _ _ (Nat.le_refl _), Nat.sub_self] at he
  have hB := makeS_bears (N0 + rs'.length) r 0 hcp
  rw [← he, getD_drop] at hB
  have hmem : b1.getD (U0 + (wallS N0 rs').length) [] ∈ b1 := by
    have hlt : U0 + (wallS N0 rs').length < b1.length := by
      have := hm.le; rw [List.length_drop] at this; omega
    rw [List.getD_eq_getElem?_getD, List.getElem?_eq_getElem hlt]; exact List.getElem_mem hlt
  have hgt := (nextS_gt b1 _ hN hgood first _ hmem).1
  unfold endsS at hgt
  rw [hB.2.1, leNum_le4 _ (by simp at hN; omega)] at hgt
  simp
  omega
end Go.Proofs.YtfijhffhlklddaaGreatDoor
