/-
  Plain law of one-sector records and of heads: what is read of a sector says all its bytes; the head of a head's sector is it; what a crash leaves of a sector.
-/
import Derived.Test.YtmpipcmdkjfmfaaGreatDoorLaw
namespace Go.Proofs.YtmpipcmdkjfmfaaGreatDoor

theorem be_beNum : ∀ (l : Bytes) (v : Nat), be l.length (v * 256 ^ l.length + beNum l) = l
  | [], v => rfl
  | c :: r, v => by
    have hc := c.toNat_lt
    have hr := beNum_lt r
    have e1 : beNum (c :: r) = c.toNat * 256 ^ r.length + beNum r := by
      have := beNum_foldl r (0 * 256 + c.toNat)
      rw [Nat.zero_mul, Nat.zero_add] at this
      show (c :: r).foldl _ 0 = _
      rw [List.foldl_cons, Nat.zero_mul, Nat.zero_add]
      exact this
    have e2 : v * 256 ^ (r.length + 1) + (c.toNat * 256 ^ r.length + beNum r) = (v * 256 + c.toNat) * 256 ^ r.length + beNum r := by
      rw [Nat.pow_succ, Nat.add_mul, Nat.mul_assoc, Nat.mul_comm 256, Nat.add_assoc]
    have hp : 0 < 256 ^ r.length := Nat.pow_pos (by omega)
    have e3 : ((v * 256 + c.toNat) * 256 ^ r.length + beNum r) / 256 ^ r.length = v * 256 + c.toNat := by
      rw [Nat.add_comm, Nat.add_mul_div_right _ _ hp, Nat.div_eq_of_lt hr, Nat.zero_add]
    rw [e1, List.length_cons, e2]
    show UInt8.ofNat (_ / 256 ^ r.length % 256) :: be r.length _ = _
    rw [e3, be_beNum r]
    congr 1
    have : (v * 256 + c.toNat) % 256 = c.toNat := by omega
    rw [this]
    exact UInt8.ofNat_toNat
theorem be_of_len {l : Bytes} {n : Nat} (h : l.length = n) : be n (beNum l) = l := by
  have := be_beNum l 0
  rw [Nat.zero_mul, Nat.zero_add, h] at this
  exact this
theorem le4_leNum (l : Bytes) (h : l.length = 4) : le4 (leNum l) = l := by
  obtain ⟨a, b, c, d, rfl⟩ := four_of h
  have ha := a.toNat_lt; have hb := b.toNat_lt; have hc := c.toNat_lt; have hd := d.toNat_lt
  have e : leNum [a, b, c, d] = a.toNat + 256 * (b.toNat + 256 * (c.toNat + 256 * d.toNat)) := by simp [leNum]
  unfold le4
  rw [e]
  have e0 : (a.toNat + 256 * (b.toNat + 256 * (c.toNat + 256 * d.toNat))) % 256 = a.toNat := by omega
  have e1 : (a.toNat + 256 * (b.toNat + 256 * (c.toNat + 256 * d.toNat))) / 256 % 256 = b.toNat := by omega
  have e2 : (a.toNat + 256 * (b.toNat + 256 * (c.toNat + 256 * d.toNat))) / 65536 % 256 = c.toNat := by omega
  have e3 : (a.toNat + 256 * (b.toNat + 256 * (c.toNat + 256 * d.toNat))) / 16777216 % 256 = d.toNat := by omega
  rw [e0, e1, e2, e3]
  simp only [UInt8.ofNat_toNat]

theorem all_zero {l : Bytes} (h : l.all (· == 0) = true) : l = List.replicate l.length 0 := by
  refine List.eq_replicate_iff.2 ⟨rfl, fun x hx => ?_⟩
  have := List.all_eq_true.1 h x hx
  simpa using this

/-- What the pieces of one sector say they say whole. -/
theorem textS_inv {all s : Bytes} (hl : all.length = 244) (h : textS all 1 = some s) : s.length ≤ 236 ∧ fullS s = all := by
  unfold textS at h
  split at h
  · rename_i hc
    obtain ⟨h1, h2, h3, h4⟩ := hc
    obtain ⟨k, hk⟩ : ∃ k, k = beNum (all.take 4) := ⟨_, rfl⟩
    rw [← hk] at h h1 h2 h3 h4
    have hs := Option.some.inj h
    have hk2 : k ≤ 236 := by unfold cntS at h2; omega
    have hsl : s.length = k := by rw [← hs]; simp; omega
    have e1 : be 4 k = all.take 4 := by rw [hk]; exact be_of_len (by simp; omega)
    have e2 : bodyS s = all.take (4 + k) := by
      unfold bodyS
      rw [hsl, e1, ← hs, List.take_add]
    have e3 : be 4 (crcS (bodyS s)) = (all.drop (4 + k)).take 4 := by
      rw [e2, ← h3]; exact be_of_len (by simp; omega)
    have e4 : allS s = all.take (8 + k) := by
      unfold allS
      rw [e3, e2, show 8 + k = (4 + k) + 4 by omega]
      exact List.take_add.symm
    refine ⟨by omega, ?_⟩
    unfold fullS
    rw [e4, hsl, h2]
    have e5 := all_zero h4
    rw [show (1 * 244 - (k + 8)) = (all.drop (8 + k)).length by simp; omega, ← e5, List.take_append_drop]
  · cases h

/-- What is read of one sector says all its bytes. -/
theorem readS_inv1 {b s : Bytes} {num n : Nat} (h : readS [b] = some (s, num, n)) : n = 1 ∧ num ≠ 0 ∧ num < 4294967296 ∧ s.length ≤ 236 ∧ b = sectS num 0 1 (fullS s) := by
  obtain ⟨a1, a2, a3, a4, a5, _⟩ := readS_some h
  have hn : n = 1 := by simp at a2; omega
  subst hn
  have hnum : numS b = num := a4 0 (by omega)
  have h0 := h
  unfold readS at h
  simp only at h
  rw [hnum, if_neg a3] at h
  have a5' : beNum ((b.drop 6).take 2) = 1 := a5.symm
  rw [a5', if_neg (by simp)] at h
  simp only [List.take_succ_cons, List.take_zero, piecesS] at h
  cases hp : pieceS b num 0 1 with
  | none => rw [hp] at h; cases h
  | some p =>
    rw [hp] at h
    simp only [Option.map_some, List.append_nil] at h
    cases ht : textS p 1 with
    | none => rw [ht] at h; cases h
    | some s' =>
      rw [ht] at h
      simp only [Option.map_some, Option.some.injEq, Prod.mk.injEq] at h
      obtain ⟨rfl, _, _⟩ := h
      unfold pieceS at hp
      split at hp
      · rename_i hc
        obtain ⟨_, _, c3⟩ := hc
        have hp' := Option.some.inj hp
        have hb : b.length = 256 ∧ b.take 4 = b.drop 252 ∧ leNum (b.take 4) = num := by
          unfold numS at hnum
          split at hnum
          · rename_i hq; exact ⟨hq.1, hq.2, hnum⟩
          · exact absurd hnum.symm a3
        obtain ⟨b1, b2, b3⟩ := hb
        have hpl : p.length = 244 := by rw [← hp']; simp; omega
        obtain ⟨t1, t2⟩ := textS_inv hpl ht
        have e1 : le4 num = b.take 4 := by rw [← b3]; exact le4_leNum _ (by simp; omega)
        refine ⟨rfl, a3, ?_, t1, ?_⟩
        · have := numS_lt b; omega
        · unfold sectS
          rw [t2, ← hp', List.append_assoc (le4 num), ← c3, e1, b2]
          rw [← b2, ← List.take_add, ← List.take_add]
          have : b.take 4 = b.drop 252 := b2
          rw [this]
          exact (List.take_append_drop 252 b).symm
      · cases hp

/-- A sector of one record. -/
def oneS (n : Nat) (s : Bytes) : Bytes := sectS n 0 1 (fullS s)
theorem cnt_one {k : Nat} (h : k ≤ 236) : cntS k = 1 := by unfold cntS; omega
theorem makeS_one (n : Nat) (s : Bytes) (h : s.length ≤ 236) : makeS n s = [oneS n s] := by
  unfold makeS oneS
  rw [cnt_one h]
  have hl : (fullS s).length = 244 := by rw [fullS_length, cnt_one h]
  have : chunk (fullS s) 0 = fullS s := by unfold chunk; rw [Nat.zero_mul, List.drop_zero, List.take_of_length_le (by omega)]
  simp [List.range_succ, this]
theorem readS_one (n : Nat) (s : Bytes) (h : s.length ≤ 236) (hn0 : n ≠ 0) (hn : n < 4294967296) : readS [oneS n s] = some (s, n, 1) := by
  have := readS_make n s (by omega) hn0 hn []
  rw [List.append_nil, makeS_one n s h, cnt_one h] at this
  exact this
theorem oneS_length (n : Nat) (s : Bytes) (h : s.length ≤ 236) : (oneS n s).length = 256 := sectS_length _ _ _ _ (by rw [fullS_length, cnt_one h])
theorem oneS_bears (n : Nat) (s : Bytes) (h : s.length ≤ 236) : Bears n (oneS n s) := by
  have := makeS_bears n s 0 (by rw [cnt_one h]; omega)
  rw [makeS_one n s h] at this
  exact this
theorem readS_zero {b : Bytes} (h : numS b = 0) : readS [b] = none := by
  unfold readS
  simp only
  rw [if_pos h]

theorem le4_head (M : Nat) : ∃ r, le4 M = UInt8.ofNat (M % 256) :: r := ⟨_, rfl⟩
/-- A sector that bears a number, of which a beginning was written over by one that bears another. -/
theorem mix_bears {M N : Nat} {W x : Bytes} (hW : Bears M W) (hx : Bears N x) (hne : M % 256 ≠ N % 256) (k : Nat) :
    mixS k W x = W ∨ mixS k W x = x ∨ numS (mixS k W x) = 0 := by
  obtain ⟨w1, w2, w3⟩ := hW
  obtain ⟨x1, x2, x3⟩ := hx
  by_cases h0 : k = 0
  · subst h0; exact .inr (.inl (by simp [mixS]))
  by_cases hk : 252 ≤ k
  · by_cases he : mixS k W x = W
    · exact .inl he
    refine .inr (.inr ?_)
    unfold numS
    rw [if_neg]
    rintro ⟨_, h2⟩
    apply he
    unfold mixS at h2 ⊢
    rw [split252 x k hk W] at h2 ⊢
    rw [List.take_append_of_le_length (by simp; omega), List.take_take, List.drop_append_of_le_length (by simp; omega), List.drop_of_length_le (by rw [List.length_take]; omega), List.nil_append] at h2
    rw [← h2, show min 4 252 = 4 by decide, w2, ← w3, List.take_append_drop]
  · refine .inr (.inr ?_)
    unfold numS
    rw [if_neg]
    rintro ⟨_, h2⟩
    unfold mixS at h2
    have e : (W.take k ++ x.drop k).drop 252 = x.drop 252 := by
      rw [List.drop_append, List.drop_of_length_le (by rw [List.length_take]; omega), List.nil_append, List.drop_drop, List.length_take, show k + (252 - min k W.length) = 252 by omega]
    rw [e, x3] at h2
    have h3 : ((W.take k ++ x.drop k).take 4).head? = (le4 N).head? := by rw [h2]
    rw [List.head?_take, if_neg (by omega), List.head?_append, List.head?_take, if_neg h0] at h3
    have h4 : W.head? = some (UInt8.ofNat (M % 256)) := by
      have : (W.take 4).head? = (le4 M).head? := by rw [w2]
      rw [List.head?_take, if_neg (by omega)] at this
      exact this
    rw [h4] at h3
    simp only [Option.some_or] at h3
    have h5 : UInt8.ofNat (M % 256) = UInt8.ofNat (N % 256) := Option.some.inj h3
    have := congrArg UInt8.toNat h5
    rw [u8_toNat, u8_toNat] at this
    exact hne this

/-- "pannier" -/
def nameB : Bytes := [112, 97, 110, 110, 105, 101, 114]
/-- A head. -/
structure Hd where
  e : Nat
  r : Int
  f : Nat
deriving DecidableEq
/-- A head that can be. -/
def Hd.good (h : Hd) : Bool := decide (1 ≤ h.e ∧ h.e ≤ most ∧ 1 ≤ h.f ∧ h.f ≤ most ∧ -1 ≤ h.r ∧ h.r ≤ 4096)
def Hd.text (h : Hd) : Bytes := nameB ++ be 2 (h.r + 1).toNat ++ be 4 h.f
theorem Hd.text_length (h : Hd) : h.text.length = 13 := by simp [Hd.text, be_length, nameB]
/-- A head's sector. -/
def Hd.sector (h : Hd) : Bytes := oneS h.e h.text
theorem Hd.sector_length (h : Hd) : h.sector.length = 256 := oneS_length _ _ (by rw [h.text_length]; omega)
theorem Hd.sector_bears (h : Hd) : Bears h.e h.sector := oneS_bears _ _ (by rw [h.text_length]; omega)
theorem Hd.make (h : Hd) : makeS h.e h.text = [h.sector] := makeS_one _ _ (by rw [h.text_length]; omega)
def hdOf (num : Nat) (s : Bytes) : Hd := ⟨num, (beNum ((s.drop 7).take 2) : Int) - 1, beNum ((s.drop 9).take 4)⟩
/-- The head of a sector. -/
def decH (b : Bytes) : Option Hd :=
  match readS [b] with
  | none => none
  | some (s, num, _) => if s.length = 13 ∧ s.take 7 = nameB then (if (hdOf num s).good = true then some (hdOf num s) else none) else none
theorem hd_text_parts (h : Hd) (hg : h.good = true) : hdOf h.e h.text = h := by
  obtain ⟨e, r, f⟩ := h
  unfold Hd.good at hg
  simp only [decide_eq_true_eq] at hg
  obtain ⟨g1, g2, g3, g4, g5, g6⟩ := hg
  unfold most at g2 g4
  have a1 : ((Hd.text ⟨e, r, f⟩).drop 7).take 2 = be 2 (r + 1).toNat := by
    unfold Hd.text
    rw [List.append_assoc, List.drop_append_of_le_length (by simp [nameB]), List.drop_of_length_le (by simp [nameB]), List.nil_append, List.take_append_of_le_length (by rw [be_length]; omega), List.take_of_length_le (by rw [be_length]; omega)]
  have a2 : ((Hd.text ⟨e, r, f⟩).drop 9).take 4 = be 4 f := by
    unfold Hd.text
    rw [List.drop_append_of_le_length (by simp [nameB, be_length]), List.drop_of_length_le (by simp [nameB, be_length]), List.nil_append, List.take_of_length_le (by rw [be_length]; omega)]
  unfold hdOf
  rw [a1, a2, beNum_be, beNum_be]
  have e1 : (r + 1).toNat % 256 ^ 2 = (r + 1).toNat := Nat.mod_eq_of_lt (by omega)
  have e2 : f % 256 ^ 4 = f := Nat.mod_eq_of_lt (by omega)
  rw [e1, e2]
  simp only [Hd.mk.injEq, true_and, and_true]
  omega
theorem decH_sector (h : Hd) (hg : h.good = true) : decH h.sector = some h := by
  have hg' := hg
  unfold Hd.good at hg'
  simp only [decide_eq_true_eq] at hg'
  obtain ⟨g1, g2, _⟩ := hg'
  unfold most at g2
  unfold decH Hd.sector
  rw [readS_one _ _ (by rw [h.text_length]; omega) (by omega) (by omega)]
  simp only
  rw [if_pos ⟨h.text_length, by unfold Hd.text; rw [List.append_assoc, List.take_append_of_le_length (by simp [nameB]), List.take_of_length_le (by simp [nameB])]⟩, hd_text_parts h hg, if_pos hg]
theorem sector_decH {b : Bytes} {h : Hd} (hd : decH b = some h) : h.good = true ∧ h.sector = b := by
  unfold decH at hd
  cases hr : readS [b] with
  | none => rw [hr] at hd; cases hd
  | some x =>
    obtain ⟨s, num, n⟩ := x
    rw [hr] at hd
    simp only at hd
    split at hd
    · rename_i hc
      split at hd
      · rename_i hg
        have he := Option.some.inj hd
        subst he
        refine ⟨hg, ?_⟩
        obtain ⟨_, _, _, r4, r5⟩ := readS_inv1 hr
        have ht : (hdOf num s).text = s := by
          unfold Hd.text hdOf
          simp only
          rw [show ((beNum ((s.drop 7).take 2) : Int) - 1 + 1).toNat = beNum ((s.drop 7).take 2) by omega, be_of_len (by simp; omega), be_of_len (by simp; omega), ← hc.2]
          rw [← List.take_add, show 9 = 7 + 2 by rfl]
          rw [show (s.drop (7 + 2)).take 4 = s.drop (7 + 2) by rw [List.take_of_length_le (by simp; omega)], List.take_append_drop]
        unfold Hd.sector
        rw [ht]
        exact r5.symm
      · cases hd
    · cases hd
theorem decH_zero {b : Bytes} (h : numS b = 0) : decH b = none := by unfold decH; rw [readS_zero h]

/-- The head in a place, if it may stand there. -/
def pickH (pages : Int) (i : Nat) (b : Bytes) : Option Hd :=
  match decH b with
  | none => none
  | some h => if h.e % 2 = i ∧ h.r < pages then some h else none
/-- The heads of two sectors, the one of the greater epoch first. -/
def headsOf (pages : Int) (b0 b1 : Bytes) : List Hd :=
  match pickH pages 0 b0, pickH pages 1 b1 with
  | some x, some y => if x.e < y.e then [y, x] else [x, y]
  | some x, none => [x]
  | none, some y => [y]
  | none, none => []
end Go.Proofs.YtmpipcmdkjfmfaaGreatDoor
