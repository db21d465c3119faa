/-
  The plain law of the log: what is read from sectors of which some were written over, each by a beginning of its new bytes.
-/
import Derived.Test.YtfijhffhlklddaaGreatDoorPl
namespace Go.Proofs.YtfijhffhlklddaaGreatDoor

def most : Nat := 2147483648
/-- What stands in sectors, read from the number least on: the records, and how many sectors they have. -/
inductive Scan : List Bytes → Nat → List Bytes → Nat → Prop
  | stop {b : List Bytes} {least : Nat} (h : ∀ r num n, readS b = some (r, num, n) → num < least ∨ most < num) : Scan b least [] 0
  | step {b : List Bytes} {least : Nat} {r : Bytes} {num n : Nat} {rs : List Bytes} {u : Nat} (h : readS b = some (r, num, n)) (h1 : least ≤ num) (h2 : num ≤ most) (h3 : Scan (b.drop n) (num + 1) rs u) : Scan b least (r :: rs) (n + u)

theorem Scan.det {b : List Bytes} {least : Nat} {rs : List Bytes} {u : Nat} (h : Scan b least rs u) : ∀ {rs' : List Bytes} {u' : Nat}, Scan b least rs' u' → rs = rs' ∧ u = u' := by
  induction h with
  | stop h =>
    intro rs' u' k
    cases k with
    | stop => exact ⟨rfl, rfl⟩
    | step k1 k2 k3 k4 => have := h _ _ _ k1; omega
  | step h h1 h2 h3 ih =>
    intro rs' u' k
    cases k with
    | stop k => have := k _ _ _ h; omega
    | step k1 k2 k3 k4 =>
      rw [h] at k1
      cases k1
      obtain ⟨rfl, rfl⟩ := ih k4
      exact ⟨rfl, rfl⟩

def endsS (s : Bytes) : Nat × Nat := (leNum (s.take 4), leNum (s.drop 252))
def bump (x n : Nat) : Nat := if n ≤ most then max x (n + 1) else x
/-- The number behind all numbers at the ends of sectors. -/
def nextS (first : Nat) (b : List Bytes) : Nat := b.foldl (fun x s => bump (bump x (endsS s).1) (endsS s).2) first

/-- A sector with small numbers at both ends. -/
def Good (N : Nat) (x : Bytes) : Prop := x.length = 256 ∧ ∃ h t : UInt8, x.take 4 = [h, 0, 0, 0] ∧ x.drop 252 = [t, 0, 0, 0] ∧ h.toNat < N ∧ t.toNat < N
theorem Good.mono {N M : Nat} {x : Bytes} (h : Good N x) (hm : N ≤ M) : Good M x := by
  obtain ⟨h1, a, t, h2, h3, h4, h5⟩ := h
  exact ⟨h1, a, t, h2, h3, by omega, by omega⟩
theorem leNum_one (a : UInt8) : leNum [a, 0, 0, 0] = a.toNat := by simp [leNum]
theorem Good.numS {N : Nat} {x : Bytes} (h : Good N x) : numS x < N ∨ numS x = 0 := by
  obtain ⟨h1, a, t, h2, h3, h4, h5⟩ := h
  unfold Go.Proofs.YtfijhffhlklddaaGreatDoor.numS
  split
  · rw [h2, leNum_one]; exact .inl h4
  · exact .inr rfl

def mixS (k : Nat) (W x : Bytes) : Bytes := W.take k ++ x.drop k
/-- A sector's bytes with the number M at both ends. -/
def Bears (M : Nat) (W : Bytes) : Prop := W.length = 256 ∧ W.take 4 = le4 M ∧ W.drop 252 = le4 M
theorem le4_small (M : Nat) (h : M < 256) : le4 M = [UInt8.ofNat M, 0, 0, 0] := by
  have e1 : M % 256 = M := by omega
  have e2 : M / 256 % 256 = 0 := by omega
  have e3 : M / 65536 % 256 = 0 := by omega
  have e4 : M / 16777216 % 256 = 0 := by omega
  simp [le4, e1, e2, e3, e4]
theorem small_toNat (M : Nat) (h : M < 256) : (UInt8.ofNat M).toNat = M := by simp [UInt8.toNat_ofNat']; omega
theorem Bears.good {M : Nat} {W : Bytes} (h : Bears M W) (hM : M < 256) : Good (M + 1) W := by
  obtain ⟨h1, h2, h3⟩ := h
  rw [le4_small M hM] at h2 h3
  exact ⟨h1, _, _, h2, h3, by rw [small_toNat M hM]; omega, by rw [small_toNat M hM]; omega⟩
theorem Bears.numS {M : Nat} {W : Bytes} (h : Bears M W) (hM : M < 256) : numS W = M := by
  obtain ⟨h1, h2, h3⟩ := h
  unfold Go.Proofs.YtfijhffhlklddaaGreatDoor.numS
  rw [if_pos ⟨h1, by rw [h2, h3]⟩, h2, leNum_le4 M (by omega)]

theorem getD_app_l (a b : List Bytes) (p : Nat) (h : p < a.length) : (a ++ b).getD p [] = a.getD p [] := by
  simp [List.getD_eq_getElem?_getD, List.getElem?_append_left h]
theorem getD_app_r (a b : List Bytes) (p : Nat) (h : a.length ≤ p) : (a ++ b).getD p [] = b.getD (p - a.length) [] := by
  simp [List.getD_eq_getElem?_getD, List.getElem?_append_right h]
theorem split252 (x : Bytes) (k : Nat) (h : 252 ≤ k) (W : Bytes) :
    W.take k ++ x.drop k = W.take 252 ++ ((W.drop 252).take (k - 252) ++ (x.drop 252).drop (k - 252)) := by
  obtain ⟨j, rfl⟩ := Nat.exists_eq_add_of_le h
  rw [List.take_add, List.drop_drop, List.append_assoc]
  simp

/-- A sector of which a beginning was written over: it is the new one, or the elder one, or no whole one. -/
theorem mix_cases {M N : Nat} {W x : Bytes} (hW : Bears M W) (hx : Good N x) (hN : N ≤ M) (hM : M < 256) (k : Nat) :
    (mixS k W x = W ∨ mixS k W x = x ∨ numS (mixS k W x) = 0) ∧ Good (M + 1) (mixS k W x) := by
  have hWg := hW.good hM
  obtain ⟨w1, w2, w3⟩ := hW
  rw [le4_small M hM] at w2 w3
  have hm := small_toNat M hM
  generalize UInt8.ofNat M = m at w2 w3 hm
  have hxg := hx
  obtain ⟨x1, a, t, x2, x3, x4, x5⟩ := hx
  by_cases h0 : k = 0
  · subst h0
    have e : mixS 0 W x = x := by simp [mixS]
    rw [e]; exact ⟨.inr (.inl rfl), hxg.mono (by omega)⟩
  by_cases h1 : 256 ≤ k
  · have e : mixS k W x = W := by
      unfold mixS
      rw [List.take_of_length_le (by omega), List.drop_eq_nil_of_le (by omega), List.append_nil]
    rw [e]; exact ⟨.inl rfl, hWg⟩
  by_cases h2 : 252 < k
  · have e : mixS k W x = W := by
      unfold mixS
      rw [split252 x k (by omega) W, w3, x3]
      have h3 : k - 252 = 1 ∨ k - 252 = 2 ∨ k - 252 = 3 := by omega
      have h4 : W.take 252 ++ [m, 0, 0, 0] = W := by rw [← w3, List.take_append_drop]
      rcases h3 with h3 | h3 | h3 <;> rw [h3] <;> exact h4
    rw [e]; exact ⟨.inl rfl, hWg⟩
  · have hlen : (mixS k W x).length = 256 := by simp [mixS]; omega
    have hd : (mixS k W x).drop 252 = [t, 0, 0, 0] := by
      unfold mixS
      rw [List.drop_append, List.drop_eq_nil_of_le (by simp; omega), List.nil_append, List.drop_drop, List.length_take, Nat.min_eq_left (by omega : k ≤ W.length), show k + (252 - k) = 252 by omega, x3]
    have ht : (mixS k W x).take 4 = [m, 0, 0, 0] := by
      unfold mixS
      by_cases h5 : 4 ≤ k
      · rw [List.take_append_of_le_length (by simp; omega), List.take_take, Nat.min_eq_left h5, w2]
      · have h6 : k = 1 ∨ k = 2 ∨ k = 3 := by omega
        have e1 : W.take k = ([m, 0, 0, 0] : Bytes).take k := by rw [← w2, List.take_take, Nat.min_eq_left (by omega)]
        have e2 : (x.drop k).take (4 - k) = ([a, 0, 0, 0] : Bytes).drop k := by rw [← x2, List.drop_take]
        rw [List.take_append, List.take_of_length_le (by simp; omega), List.length_take, Nat.min_eq_left (by omega : k ≤ W.length), e2, e1]
        rcases h6 with rfl | rfl | rfl <;> rfl
    refine ⟨.inr (.inr ?_), hlen, m, t, ht, hd, by omega, by omega⟩
    unfold numS
    rw [if_neg]
    rintro ⟨_, e⟩
    rw [ht, hd] at e
    have : m = t := by injection e
    rw [this] at hm; omega

theorem numS_nil : numS [] = 0 := by simp [numS]

theorem piecesS_nums {n c : Nat} : ∀ {l : List Bytes} {i : Nat} {all : Bytes}, piecesS n c l i = some all → ∀ p, p < l.length → numS (l.getD p []) = n
  | [], _, _, _, p, hp => by simp at hp
  | x :: r, i, all, h, p, hp => by
    unfold piecesS at h
    cases hq : pieceS x n i c with
    | none => rw [hq] at h; cases h
    | some a =>
      rw [hq] at h
      simp only [Option.map_eq_some_iff] at h
      obtain ⟨all', h', _⟩ := h
      cases p with
      | zero =>
        unfold pieceS at hq
        split at hq
        · rename_i hc; simpa using hc.2.1
        · cases hq
      | succ p => simpa using piecesS_nums h' p (by simpa using hp)

/-- What a reading says of the sectors that it reads, and that it looks at no others. -/
theorem readS_some {l : List Bytes} {r : Bytes} {num n : Nat} (h : readS l = some (r, num, n)) :
    1 ≤ n ∧ n ≤ l.length ∧ num ≠ 0 ∧ (∀ p, p < n → numS (l.getD p []) = num) ∧ n = beNum (((l.getD 0 []).drop 6).take 2) ∧ ∀ l' : List Bytes, l'.take n = l.take n → readS l' = some (r, num, n) := by
  cases l with
  | nil => cases h
  | cons x t =>
    have h0 := h
    unfold readS at h
    simp only at h
    generalize hc : beNum ((x.drop 6).take 2) = c at h
    split at h
    · cases h
    · rename_i hx
      split at h
      · cases h
      · rename_i hb
        cases hp : piecesS (numS x) c ((x :: t).take c) 0 with
        | none => rw [hp] at h; cases h
        | some all =>
          rw [hp] at h
          simp only [Option.map_eq_some_iff, Prod.mk.injEq] at h
          obtain ⟨s, hs, rfl, rfl, rfl⟩ := h
          have hle : c ≤ (x :: t).length := by omega
          refine ⟨by omega, hle, hx, fun p hpc => ?_, by simpa using hc.symm, fun l' hl' => ?_⟩
          · have h2 := piecesS_nums hp p (by simp only [List.length_take]; omega)
            rw [← h2, List.getD_eq_getElem?_getD, List.getD_eq_getElem?_getD, List.getElem?_take, if_pos hpc]
          · have hlen : c ≤ l'.length := by
              have := congrArg List.length hl'
              simp only [List.length_take] at this
              omega
            cases l' with
            | nil => simp at hlen; omega
            | cons y t' =>
              have hy : y = x := by
                obtain ⟨k, rfl⟩ : ∃ k, c = k + 1 := ⟨c - 1, by omega⟩
                simp only [List.take_succ_cons, List.cons.injEq] at hl'
                exact hl'.1
              subst hy
              unfold readS
              simp only [hc]
              rw [if_neg hx, if_neg (by omega), hl', hp]
              simp only [hs, Option.map_some]

/-- The sectors of records, one behind the other, numbered from N on. -/
def wallS : Nat → List Bytes → List Bytes
  | _, [] => []
  | N, r :: rs => makeS N r ++ wallS (N + 1) rs

theorem makeS_bears (n : Nat) (s : Bytes) (p : Nat) (hp : p < cntS s.length) : Bears n ((makeS n s).getD p []) := by
  have hc := chunk_length (fullS s) p _ (fullS_length s) hp
  have e : (makeS n s).getD p [] = sectS n p (cntS s.length) (chunk (fullS s) p) := by
    rw [List.getD_eq_getElem?_getD, makeS, List.getElem?_map, List.getElem?_range hp]; rfl
  rw [e]
  obtain ⟨h1, h2, _⟩ := sectS_parts n p (cntS s.length) _ hc
  exact ⟨sectS_length _ _ _ _ hc, h1, h2⟩

theorem wallS_bears : ∀ (rs : List Bytes) (N p : Nat), p < (wallS N rs).length → ∃ M, N ≤ M ∧ M < N + rs.length ∧ Bears M ((wallS N rs).getD p [])
  | [], N, p, h => by simp [wallS] at h
  | r :: rs, N, p, h => by
    unfold wallS at h ⊢
    rw [List.length_append, makeS_length] at h
    by_cases hp : p < cntS r.length
    · refine ⟨N, Nat.le_refl _, by simp, ?_⟩
      rw [getD_app_l _ _ _ (by rw [makeS_length]; exact hp)]
      exact makeS_bears N r p hp
    · obtain ⟨M, h1, h2, h3⟩ := wallS_bears rs (N + 1) (p - cntS r.length) (by omega)
      refine ⟨M, by omega, by simp; omega, ?_⟩
      rw [getD_app_r _ _ _ (by rw [makeS_length]; omega), makeS_length]
      exact h3

/-- b1 is b0, of which each sector that W has was written over by a beginning of its new bytes. -/
structure MixL (W b0 b1 : List Bytes) : Prop where
  len : b1.length = b0.length
  le : W.length ≤ b0.length
  mix : ∀ p, p < W.length → ∃ k, b1.getD p [] = mixS k (W.getD p []) (b0.getD p [])
  rest : ∀ p, W.length ≤ p → b1.getD p [] = b0.getD p []

theorem getD_drop (l : List Bytes) (c p : Nat) : (l.drop c).getD p [] = l.getD (c + p) [] := by
  simp [List.getD_eq_getElem?_getD, List.getElem?_drop]

theorem MixL.drop {A W b0 b1 : List Bytes} (h : MixL (A ++ W) b0 b1) : MixL W (b0.drop A.length) (b1.drop A.length) := by
  obtain ⟨h1, h2, h3, h4⟩ := h
  rw [List.length_append] at h2 h3 h4
  refine ⟨by simp [h1], by simp; omega, fun p hp => ?_, fun p hp => ?_⟩
  · obtain ⟨k, hk⟩ := h3 (A.length + p) (by omega)
    refine ⟨k, ?_⟩
    rw [getD_drop, getD_drop, hk, getD_app_r _ _ _ (by omega)]
    simp
  · rw [getD_drop, getD_drop]; exact h4 _ (by omega)

theorem good_getD {N : Nat} {b : List Bytes} (h : ∀ x ∈ b, Good N x) (p : Nat) (hp : p < b.length) : Good N (b.getD p []) := by
  rw [List.getD_eq_getElem?_getD, List.getElem?_eq_getElem hp]; exact h _ (List.getElem_mem hp)
theorem good_of_getD {N : Nat} {b : List Bytes} (h : ∀ p, p < b.length → Good N (b.getD p [])) : ∀ x ∈ b, Good N x := by
  intro x hx
  obtain ⟨p, hp, rfl⟩ := List.mem_iff_getElem.1 hx
  have := h p hp
  rwa [List.getD_eq_getElem?_getD, List.getElem?_eq_getElem hp] at this

/-- The numbers stay small. -/
theorem MixL.good {N : Nat} {rs b0 b1 : List Bytes} (h : MixL (wallS N rs) b0 b1) (hg : ∀ x ∈ b0, Good N x) (hN : N + rs.length ≤ 256) : ∀ x ∈ b1, Good (N + rs.length) x := by
  refine good_of_getD fun p hp => ?_
  rw [h.len] at hp
  by_cases hw : p < (wallS N rs).length
  · obtain ⟨k, hk⟩ := h.mix p hw
    obtain ⟨M, h1, h2, h3⟩ := wallS_bears rs N p hw
    rw [hk]
    exact (mix_cases h3 (good_getD hg p hp) h1 (by omega) k).2.mono (by omega)
  · rw [h.rest p (by omega)]
    exact (good_getD hg p hp).mono (by omega)

theorem list_ext_getD {l l' : List Bytes} (h : l.length = l'.length) (h2 : ∀ p, p < l.length → l.getD p [] = l'.getD p []) : l = l' := by
  apply List.ext_getElem h
  intro p hp hp'
  have := h2 p hp
  rwa [List.getD_eq_getElem?_getD, List.getD_eq_getElem?_getD, List.getElem?_eq_getElem hp, List.getElem?_eq_getElem hp'] at this

theorem take_wall_le (rs : List Bytes) : ∀ (N i : Nat), (wallS N (rs.take i)).length ≤ (wallS N rs).length := by
  induction rs with
  | nil => intro N i; simp [wallS]
  | cons r rs ih =>
    intro N i
    cases i with
    | zero => simp [wallS]
    | succ i =>
      simp only [List.take_succ_cons, wallS, List.length_append]
      have := ih (N + 1) i
      omega

theorem scan_mix (rs : List Bytes) : ∀ (N least : Nat) (b0 b1 : List Bytes), (∀ x ∈ b0, Good N x) → 0 < N → N + rs.length ≤ 256 → least ≤ N → (∀ r num n, readS b0 = some (r, num, n) → num < least) → (∀ r ∈ rs, r.length ≤ 2000) → MixL (wallS N rs) b0 b1 →
    ∃ j, j ≤ rs.length ∧ Scan b1 least (rs.take j) (wallS N (rs.take j)).length ∧ (∀ p, p < (wallS N (rs.take j)).length → b1.getD p [] = (wallS N rs).getD p []) ∧
      ∀ i, i ≤ rs.length → (∀ p, p < (wallS N (rs.take i)).length → b1.getD p [] = (wallS N rs).getD p []) → i ≤ j := by
  induction rs with
  | nil =>
    intro N least b0 b1 hg hN0 hN hl hstop hr hm
    have hb : b1 = b0 := list_ext_getD hm.len (fun p _ => hm.rest p (by simp [wallS]))
    rw [hb]
    refine ⟨0, Nat.le_refl _, .stop fun r num n h => .inl (hstop r num n h), by simp [wallS], fun i hi _ => hi⟩
  | cons r rs ih =>
    intro N least b0 b1 hg hN0 hN hl hstop hr hm
    have hr0 := hr r (by simp)
    have hcp := cntS_pos r.length
    simp only [List.length_cons] at hN
    have hwl : (wallS N (r :: rs)).length = cntS r.length + (wallS (N + 1) rs).length := by rw [wallS, List.length_append, makeS_length]
    have hW : ∀ p, p < cntS r.length → (wallS N (r :: rs)).getD p [] = (makeS N r).getD p [] := fun p hp => by rw [wallS, getD_app_l _ _ _ (by rw [makeS_length]; exact hp)]
    by_cases hA : ∀ p, p < cntS r.length → b1.getD p [] = (makeS N r).getD p []
    · have hb1 : b1 = makeS N r ++ b1.drop (cntS r.length) := by
        have h1 : b1.take (cntS r.length) = makeS N r := by
          refine list_ext_getD ?_ fun p hp => ?_
          · rw [List.length_take, makeS_length, hm.len]; have := hm.le; omega
          · rw [List.length_take] at hp
            rw [← hA p (by omega), List.getD_eq_getElem?_getD, List.getD_eq_getElem?_getD, List.getElem?_take, if_pos (by omega)]
        rw [← h1, List.take_append_drop]
      have hread : readS b1 = some (r, N, cntS r.length) := by rw [hb1]; exact readS_make N r hr0 (by omega) (by omega) _
      have hmd := hm
      rw [wallS] at hmd
      have hmd := hmd.drop
      rw [makeS_length] at hmd
      have hg' : ∀ x ∈ b0.drop (cntS r.length), Good (N + 1) x := fun x hx => (hg x (List.mem_of_mem_drop hx)).mono (by omega)
      obtain ⟨j, h1, h2, h3, h4⟩ := ih (N + 1) (N + 1) _ _ hg' (by omega) (by omega) (Nat.le_refl _) (fun r' num n hr' => by
        obtain ⟨k1, k2, k3, k4, _⟩ := readS_some hr'
        have := k4 0 (by omega)
        have hgd := (good_getD hg' 0 (by omega)).numS
        rw [this] at hgd
        rcases hgd with h | h
        · exact h
        · exact absurd h k3) (fun r' hr' => hr r' (by simp [hr'])) hmd
      refine ⟨j + 1, by simp; omega, ?_, ?_, ?_⟩
      · simp only [List.take_succ_cons, wallS, List.length_append, makeS_length]
        exact .step hread hl (by unfold most; omega) h2
      · intro p hp
        simp only [List.take_succ_cons, wallS, List.length_append, makeS_length] at hp
        by_cases hpc : p < cntS r.length
        · rw [hA p hpc, hW p hpc]
        · have := h3 (p - cntS r.length) (by omega)
          rw [getD_drop, show cntS r.length + (p - cntS r.length) = p by omega] at this
          rw [this, wallS, getD_app_r _ _ _ (by rw [makeS_length]; omega), makeS_length]
      · intro i hi hp
        cases i with
        | zero => omega
        | succ i =>
          have := h4 i (by simpa using hi) (fun p hpp => by
            have h5 := hp (cntS r.length + p) (by simp only [List.take_succ_cons, wallS, List.length_append, makeS_length]; omega)
            rw [getD_drop, h5, wallS, getD_app_r _ _ _ (by rw [makeS_length]; omega), makeS_length]
            congr 1; omega)
          omega
    · refine ⟨0, Nat.zero_le _, .stop ?_, by simp [wallS], ?_⟩
      · intro r' num n hread
        refine .inl ?_
        obtain ⟨k1, k2, k3, k4, k5, k6⟩ := readS_some hread
        have hcase : ∀ p, p < n → ∀ M, p < (wallS N (r :: rs)).length → N ≤ M → M < 256 → Bears M ((wallS N (r :: rs)).getD p []) → num ≠ M → b1.getD p [] = b0.getD p [] := by
          intro p hp M hpw hNM hM hB hne
          obtain ⟨k, hk⟩ := hm.mix p hpw
          have hq := k4 p hp
          rcases (mix_cases hB (good_getD hg p (by have := hm.le; omega)) hNM hM k).1 with h | h | h
          · rw [hk, h, hB.numS hM] at hq; exact absurd hq.symm hne
          · rw [hk, h]
          · rw [hk, h] at hq; exact absurd hq.symm k3
        by_cases hnum : num = N
        · exfalso
          subst hnum
          have hfull : ∀ p, p < n → p < cntS r.length → b1.getD p [] = (makeS num r).getD p [] := by
            intro p hp hpc
            obtain ⟨k, hk⟩ := hm.mix p (by omega)
            have hB := makeS_bears num r p hpc
            have hq := k4 p hp
            have hgo := good_getD hg p (by have := hm.le; omega)
            rw [hW p hpc] at hk
            rcases (mix_cases hB hgo (Nat.le_refl _) (by omega) k).1 with h | h | h
            · rw [hk, h]
            · rw [hk, h] at hq
              have := hgo.numS
              rw [hq] at this; omega
            · rw [hk, h] at hq; exact absurd hq.symm k3
          have hn : n = cntS r.length := by
            rw [k5, hfull 0 (by omega) (by omega)]
            have e : (makeS num r).getD 0 [] = sectS num 0 (cntS r.length) (chunk (fullS r) 0) := by
              rw [List.getD_eq_getElem?_getD, makeS, List.getElem?_map, List.getElem?_range hcp]; rfl
            obtain ⟨_, _, _, h4, _⟩ := sectS_parts num 0 (cntS r.length) _ (chunk_length (fullS r) 0 _ (fullS_length r) hcp)
            rw [e, h4, beNum_be]
            have := cntS_le r.length hr0
            exact Nat.mod_eq_of_lt (by omega)
          exact hA fun p hp => hfull p (by omega) hp
        · -- all of them are elder ones
          have h0 : num < N := by
            have hB : Bears N ((wallS N (r :: rs)).getD 0 []) := by rw [hW 0 hcp]; exact makeS_bears N r 0 hcp
            have h1 := hcase 0 (by omega) N (by omega) (Nat.le_refl _) (by omega) hB hnum
            have h2 := k4 0 (by omega)
            rw [h1] at h2
            have h3 := (good_getD hg 0 (by have := hm.le; omega)).numS
            rw [h2] at h3
            rcases h3 with h3 | h3
            · exact h3
            · exact absurd h3 k3
          have hall : ∀ p, p < n → b1.getD p [] = b0.getD p [] := by
            intro p hp
            by_cases hw : p < (wallS N (r :: rs)).length
            · obtain ⟨M, m1, m2, m3⟩ := wallS_bears (r :: rs) N p hw
              simp only [List.length_cons] at m2
              exact hcase p hp M hw m1 (by omega) m3 (by omega)
            · exact hm.rest p (by omega)
          have htake : b0.take n = b1.take n := by
            refine list_ext_getD (by simp [hm.len]) fun p hp => ?_
            rw [List.length_take] at hp
            have := hall p (by omega)
            rw [List.getD_eq_getElem?_getD, List.getD_eq_getElem?_getD, List.getElem?_take, List.getElem?_take, if_pos (by omega), if_pos (by omega), ← List.getD_eq_getElem?_getD, ← List.getD_eq_getElem?_getD, this]
          exact hstop r' num n (k6 _ htake)
      · intro i hi hp
        cases i with
        | zero => omega
        | succ i =>
          exfalso
          refine hA fun p hpc => ?_
          rw [← hW p hpc]
          exact hp p (by simp only [List.take_succ_cons, wallS, List.length_append, makeS_length]; omega)

/-- A scan, and what stands behind it turned. -/
theorem Scan.again {b0 : List Bytes} {least : Nat} {rs : List Bytes} {u : Nat} (h : Scan b0 least rs u) : ∀ (b1 : List Bytes) (N : Nat), b1.take u = b0.take u → (∀ x ∈ b0, Good N x) → N ≤ 256 → least ≤ N →
    u ≤ b0.length ∧ ∃ least', least' ≤ N ∧ (∀ r num n, readS (b0.drop u) = some (r, num, n) → num < least') ∧ ∀ rs' u', Scan (b1.drop u) least' rs' u' → Scan b1 least (rs ++ rs') (u + u') := by
  induction h with
  | @stop b least h =>
    intro b1 N ht hg hN hl
    refine ⟨Nat.zero_le _, least, hl, ?_, ?_⟩
    · intro r num n hr
      rw [List.drop_zero] at hr
      obtain ⟨k1, k2, k3, k4, _⟩ := readS_some hr
      have h1 := h r num n hr
      have h2 := k4 0 (by omega)
      have h3 := (good_getD hg 0 (by omega)).numS
      rw [h2] at h3
      unfold most at h1
      omega
    · intro rs' u' hs
      simpa using hs
  | @step b least r num n rs u h h1 h2 h3 ih =>
    intro b1 N ht hg hN hl
    obtain ⟨k1, k2, k3, k4, k5, k6⟩ := readS_some h
    have hnum : num + 1 ≤ N := by
      have h2 := k4 0 (by omega)
      have h3 := (good_getD hg 0 (by omega)).numS
      rw [h2] at h3
      omega
    have htn : b1.take n = b.take n := by
      have := congrArg (List.take n) ht
      rwa [List.take_take, List.take_take, Nat.min_eq_left (by omega)] at this
    have htu : (b1.drop n).take u = (b.drop n).take u := by
      have := congrArg (List.drop n) ht
      rwa [List.drop_take, List.drop_take, show n + u - n = u by omega] at this
    obtain ⟨h4, l', h5, h6, h7⟩ := ih (b1.drop n) N htu (fun x hx => hg x (List.mem_of_mem_drop hx)) hN hnum
    rw [List.length_drop] at h4
    refine ⟨by omega, l', h5, ?_, ?_⟩
    · intro r' num' n' hr'
      rw [← List.drop_drop] at hr'
      exact h6 r' num' n' hr'
    · intro rs' u' hs
      rw [← List.drop_drop] at hs
      rw [List.cons_append, Nat.add_assoc]
      exact .step (k6 b1 htn) h1 h2 (h7 rs' u' hs)

theorem bump_le {x n N : Nat} (hx : x ≤ N) (hn : n < N) : bump x n ≤ N := by unfold bump; split <;> omega
theorem le_bump (x n : Nat) : x ≤ bump x n := by unfold bump; split <;> omega
theorem bump_gt {x n : Nat} (hn : n ≤ most) : n < bump x n := by unfold bump; rw [if_pos hn]; omega
theorem nextS_cons (first : Nat) (x : Bytes) (b : List Bytes) : nextS first (x :: b) = nextS (bump (bump first (endsS x).1) (endsS x).2) b := rfl
theorem le_nextS (b : List Bytes) : ∀ first, first ≤ nextS first b := by
  induction b with
  | nil => intro first; exact Nat.le_refl _
  | cons x b ih => intro first; rw [nextS_cons]; exact Nat.le_trans (Nat.le_trans (le_bump _ _) (le_bump _ _)) (ih _)
theorem Good.ends {N : Nat} {x : Bytes} (h : Good N x) : (endsS x).1 < N ∧ (endsS x).2 < N := by
  obtain ⟨_, a, t, h2, h3, h4, h5⟩ := h
  unfold endsS
  rw [h2, h3, leNum_one, leNum_one]; exact ⟨h4, h5⟩
theorem nextS_le (b : List Bytes) (N : Nat) (hg : ∀ x ∈ b, Good N x) : ∀ first, first ≤ N → nextS first b ≤ N := by
  induction b with
  | nil => intro first h; exact h
  | cons x b ih =>
    intro first h
    rw [nextS_cons]
    have := (hg x (by simp)).ends
    exact ih (fun y hy => hg y (by simp [hy])) _ (bump_le (bump_le h this.1) this.2)
theorem nextS_gt (b : List Bytes) (N : Nat) (hN : N ≤ 256) (hg : ∀ x ∈ b, Good N x) : ∀ first, ∀ x ∈ b, (endsS x).1 < nextS first b ∧ (endsS x).2 < nextS first b := by
  induction b with
  | nil => intro first x hx; simp at hx
  | cons y b ih =>
    intro first x hx
    rw [nextS_cons]
    rcases List.mem_cons.1 hx with rfl | hx
    · have h1 := (hg x (by simp)).ends
      have h2 := le_nextS b (bump (bump first (endsS x).1) (endsS x).2)
      have h3 := le_bump (bump first (endsS x).1) (endsS x).2
      have h4 := bump_gt (x := first) (n := (endsS x).1) (by unfold most; omega)
      have h5 := bump_gt (x := bump first (endsS x).1) (n := (endsS x).2) (by unfold most; omega)
      omega
    · exact ih (fun y hy => hg y (by simp [hy])) _ x hx
/-- All numbers are below the next one. -/
theorem good_next {b : List Bytes} {N : Nat} (hN : N ≤ 256) (hg : ∀ x ∈ b, Good N x) (first : Nat) : ∀ x ∈ b, Good (nextS first b) x := by
  intro x hx
  obtain ⟨h1, h2⟩ := nextS_gt b N hN hg first x hx
  obtain ⟨g1, a, t, g2, g3, g4, g5⟩ := hg x hx
  unfold endsS at h1 h2
  rw [g2, leNum_one] at h1
  rw [g3, leNum_one] at h2
  exact ⟨g1, a, t, g2, g3, h1, h2⟩
end Go.Proofs.YtfijhffhlklddaaGreatDoor
