/-
  The plain law of frames: what a record's sectors are, and that they are read as the record.
-/
import Derived.Test.YtfijhffhlklddaaGreatDoorCrc
namespace Go.Proofs.YtfijhffhlklddaaGreatDoor

abbrev Bytes := List UInt8
/-- Four bytes, the lowest first. -/
def le4 (n : Nat) : Bytes := [UInt8.ofNat (n % 256), UInt8.ofNat (n / 256 % 256), UInt8.ofNat (n / 65536 % 256), UInt8.ofNat (n / 16777216 % 256)]
theorem le4_length (n : Nat) : (le4 n).length = 4 := rfl
/-- The number of four bytes, the lowest first. -/
def leNum (l : Bytes) : Nat := l.foldr (fun c v => c.toNat + 256 * v) 0
theorem u8_toNat (n : Nat) : (UInt8.ofNat (n % 256)).toNat = n % 256 := by simp [UInt8.toNat_ofNat']
theorem leNum_le4 (n : Nat) (h : n < 4294967296) : leNum (le4 n) = n := by
  simp only [leNum, le4, List.foldr_cons, List.foldr_nil, u8_toNat]; omega
theorem leNum4_lt (a b c d : UInt8) : leNum [a, b, c, d] < 4294967296 := by
  have := a.toNat_lt; have := b.toNat_lt; have := c.toNat_lt; have := d.toNat_lt
  simp only [leNum, List.foldr_cons, List.foldr_nil]; omega
/-- A whole sector's number. -/
def numS (l : Bytes) : Nat := if l.length = 256 ∧ l.take 4 = l.drop 252 then leNum (l.take 4) else 0
theorem four_of {l : Bytes} (h : l.length = 4) : ∃ a b c d, l = [a, b, c, d] := by
  match l, h with
  | [a, b, c, d], _ => exact ⟨a, b, c, d, rfl⟩
theorem numS_lt (l : Bytes) : numS l < 4294967296 := by
  unfold numS
  split
  · rename_i h
    obtain ⟨a, b, c, d, e⟩ := four_of (l := l.take 4) (by simp; omega)
    rw [e]; exact leNum4_lt _ _ _ _
  · omega

theorem beNum_foldl (l : Bytes) : ∀ v : Nat, l.foldl (fun v c => v * 256 + c.toNat) v = v * 256 ^ l.length + beNum l := by
  induction l with
  | nil => intro v; simp [beNum]
  | cons c l ih =>
    intro v
    have h2 : beNum (c :: l) = c.toNat * 256 ^ l.length + beNum l := by
      show l.foldl _ (0 * 256 + c.toNat) = _
      rw [ih]; simp
    rw [List.foldl_cons, ih, h2, List.length_cons, Nat.pow_succ, Nat.add_mul, Nat.mul_assoc, Nat.mul_comm 256]; omega
theorem beNum_be (n v : Nat) : beNum (be n v) = v % 256 ^ n := by
  induction n with
  | zero => simp [be, beNum, Nat.mod_one]
  | succ n ih =>
    have h2 : beNum (be (n + 1) v) = (UInt8.ofNat (v / 256 ^ n % 256)).toNat * 256 ^ (be n v).length + beNum (be n v) := by
      show (be n v).foldl _ (0 * 256 + _) = _
      rw [beNum_foldl]; simp
    rw [h2, u8_toNat, be_length, ih, Nat.pow_succ, Nat.mod_mul]
    rw [Nat.mul_comm]; omega

def cntS (k : Nat) : Nat := (k + 251) / 244
def bodyS (s : Bytes) : Bytes := be 4 s.length ++ s
def allS (s : Bytes) : Bytes := bodyS s ++ be 4 (crcS (bodyS s))
def fullS (s : Bytes) : Bytes := allS s ++ List.replicate (cntS s.length * 244 - (s.length + 8)) 0
def chunk (l : Bytes) (i : Nat) : Bytes := (l.drop (i * 244)).take 244
def sectS (n i c : Nat) (p : Bytes) : Bytes := le4 n ++ be 2 i ++ be 2 c ++ p ++ le4 n
/-- A record's sectors. -/
def makeS (n : Nat) (s : Bytes) : List Bytes := (List.range (cntS s.length)).map fun i => sectS n i (cntS s.length) (chunk (fullS s) i)

def pieceS (b : Bytes) (n i c : Nat) : Option Bytes := if n ≠ 0 ∧ numS b = n ∧ (b.drop 4).take 4 = be 2 i ++ be 2 c then some ((b.drop 8).take 244) else none
def piecesS (n c : Nat) : List Bytes → Nat → Option Bytes
  | [], _ => some []
  | x :: r, i => match pieceS x n i c with
    | none => none
    | some a => (piecesS n c r (i + 1)).map (a ++ ·)
def textS (all : Bytes) (c : Nat) : Option Bytes :=
  if beNum (all.take 4) ≤ 2000 ∧ cntS (beNum (all.take 4)) = c ∧ beNum ((all.drop (4 + beNum (all.take 4))).take 4) = crcS (all.take (4 + beNum (all.take 4))) ∧ (all.drop (8 + beNum (all.take 4))).all (· == 0) = true
  then some ((all.drop 4).take (beNum (all.take 4))) else none
/-- The record with which sectors begin: its text, its number, its sectors. -/
def readS (l : List Bytes) : Option (Bytes × Nat × Nat) :=
  match l with
  | [] => none
  | x :: _ =>
    if numS x = 0 then none
    else if beNum ((x.drop 6).take 2) < 1 ∨ l.length < beNum ((x.drop 6).take 2) then none
    else match piecesS (numS x) (beNum ((x.drop 6).take 2)) (l.take (beNum ((x.drop 6).take 2))) 0 with
      | none => none
      | some all => (textS all (beNum ((x.drop 6).take 2))).map fun s => (s, numS x, beNum ((x.drop 6).take 2))

theorem bodyS_length (s : Bytes) : (bodyS s).length = s.length + 4 := by simp [bodyS, be_length]; omega
theorem allS_length (s : Bytes) : (allS s).length = s.length + 8 := by simp [allS, bodyS_length, be_length]
theorem cntS_ge (k : Nat) : k + 8 ≤ cntS k * 244 := by unfold cntS; omega
theorem cntS_pos (k : Nat) : 1 ≤ cntS k := by unfold cntS; omega
theorem cntS_le (k : Nat) (h : k ≤ 2000) : cntS k ≤ 9 := by unfold cntS; omega
theorem fullS_length (s : Bytes) : (fullS s).length = cntS s.length * 244 := by
  have := cntS_ge s.length
  simp [fullS, allS_length]; omega
theorem chunk_length (l : Bytes) (i c : Nat) (h : l.length = c * 244) (hi : i < c) : (chunk l i).length = 244 := by
  have : (i + 1) * 244 ≤ c * 244 := Nat.mul_le_mul_right _ hi
  simp [chunk]; omega
theorem sectS_length (n i c : Nat) (p : Bytes) (hp : p.length = 244) : (sectS n i c p).length = 256 := by simp [sectS, le4_length, be_length, hp]
theorem makeS_length (n : Nat) (s : Bytes) : (makeS n s).length = cntS s.length := by simp [makeS]

theorem sectS_parts (n i c : Nat) (p : Bytes) (hp : p.length = 244) :
    (sectS n i c p).take 4 = le4 n ∧ (sectS n i c p).drop 252 = le4 n ∧ ((sectS n i c p).drop 4).take 4 = be 2 i ++ be 2 c ∧ ((sectS n i c p).drop 6).take 2 = be 2 c ∧ ((sectS n i c p).drop 8).take 244 = p := by
  have e1 : sectS n i c p = le4 n ++ (be 2 i ++ (be 2 c ++ (p ++ le4 n))) := by simp [sectS]
  have e2 : sectS n i c p = (le4 n ++ be 2 i) ++ (be 2 c ++ (p ++ le4 n)) := by simp [sectS]
  have e3 : sectS n i c p = (le4 n ++ be 2 i ++ be 2 c) ++ (p ++ le4 n) := by simp [sectS]
  have e4 : sectS n i c p = (le4 n ++ be 2 i ++ be 2 c ++ p) ++ le4 n := by simp [sectS]
  have e5 : be 2 i ++ (be 2 c ++ (p ++ le4 n)) = (be 2 i ++ be 2 c) ++ (p ++ le4 n) := by simp
  refine ⟨?_, ?_, ?_, ?_, ?_⟩
  · rw [e1, List.take_left' (le4_length n)]
  · rw [e4, List.drop_left' (by simp [le4_length, be_length, hp])]
  · rw [e1, List.drop_left' (le4_length n), e5, List.take_left' (by simp [be_length])]
  · rw [e2, List.drop_left' (by simp [le4_length, be_length]), List.take_left' (by simp [be_length])]
  · rw [e3, List.drop_left' (by simp [le4_length, be_length]), List.take_left' hp]

theorem numS_sectS (n i c : Nat) (p : Bytes) (hp : p.length = 244) (hn : n < 4294967296) : numS (sectS n i c p) = n := by
  obtain ⟨h1, h2, _⟩ := sectS_parts n i c p hp
  unfold numS
  rw [if_pos ⟨sectS_length n i c p hp, by rw [h1, h2]⟩, h1, leNum_le4 n hn]

theorem pieceS_sectS (n i c : Nat) (p : Bytes) (hp : p.length = 244) (hn0 : n ≠ 0) (hn : n < 4294967296) : pieceS (sectS n i c p) n i c = some p := by
  obtain ⟨h1, h2, h3, h4, h5⟩ := sectS_parts n i c p hp
  unfold pieceS
  rw [if_pos ⟨hn0, numS_sectS n i c p hp hn, h3⟩, h5]

set_option maxRecDepth 100000 in
theorem piecesS_make (n c : Nat) (F : Bytes) (hF : F.length = c * 244) (hn0 : n ≠ 0) (hn : n < 4294967296) : ∀ m i, i + m ≤ c →
    piecesS n c ((List.range' i m).map fun i => sectS n i c (chunk F i)) i = some ((F.drop (i * 244)).take (m * 244)) := by
  intro m
  induction m with
  | zero => intro i _; simp [piecesS]
  | succ m ih =>
    intro i hi
    rw [List.range'_succ, List.map_cons, piecesS, pieceS_sectS n i c _ (chunk_length F i c hF (by omega)) hn0 hn]
    simp only
    rw [ih (i + 1) (by omega), Option.map_some]
    congr 1
    have e1 : (m + 1) * 244 = 244 + m * 244 := by omega
    have e2 : (i + 1) * 244 = i * 244 + 244 := by omega
    rw [e1, List.take_add, List.drop_drop, e2]
    rfl

theorem textS_full (s : Bytes) (hs : s.length ≤ 2000) : textS (fullS s) (cntS s.length) = some s := by
  have hb := bodyS_length s
  have ha := allS_length s
  have e0 : fullS s = be 4 s.length ++ (s ++ (be 4 (crcS (bodyS s)) ++ List.replicate (cntS s.length * 244 - (s.length + 8)) 0)) := by simp [fullS, allS, bodyS]
  have e1 : fullS s = bodyS s ++ (be 4 (crcS (bodyS s)) ++ List.replicate (cntS s.length * 244 - (s.length + 8)) 0) := by simp [fullS, allS]
  have hk : beNum ((fullS s).take 4) = s.length := by
    rw [e0, List.take_left' (be_length 4 _), beNum_be]; exact Nat.mod_eq_of_lt (by omega)
  have h2 : (fullS s).take (4 + s.length) = bodyS s := by rw [e1, List.take_left' (by omega)]
  have h3 : ((fullS s).drop (4 + s.length)).take 4 = be 4 (crcS (bodyS s)) := by rw [e1, List.drop_left' (by omega), List.take_left' (be_length 4 _)]
  have h4 : (fullS s).drop (8 + s.length) = List.replicate (cntS s.length * 244 - (s.length + 8)) 0 := by rw [fullS, List.drop_left' (by omega)]
  have h5 : ((fullS s).drop 4).take s.length = s := by rw [e0, List.drop_left' (be_length 4 _), List.take_left' rfl]
  unfold textS
  rw [hk, h2, h3, h4, h5, if_pos]
  refine ⟨hs, rfl, ?_, by simp⟩
  rw [beNum_be]; exact Nat.mod_eq_of_lt (crcS_lt _)

theorem readS_make (n : Nat) (s : Bytes) (hs : s.length ≤ 2000) (hn0 : n ≠ 0) (hn : n < 4294967296) (rest : List Bytes) :
    readS (makeS n s ++ rest) = some (s, n, cntS s.length) := by
  have hpos := cntS_pos s.length
  have hle := cntS_le s.length hs
  have hF := fullS_length s
  obtain ⟨k, hk⟩ : ∃ k, cntS s.length = k + 1 := ⟨cntS s.length - 1, by omega⟩
  have hm : makeS n s = (List.range' 0 (cntS s.length)).map fun i => sectS n i (cntS s.length) (chunk (fullS s) i) := by rw [makeS, List.range_eq_range']
  have hcons : ∃ r, makeS n s ++ rest = sectS n 0 (cntS s.length) (chunk (fullS s) 0) :: r := by
    rw [hm, show List.range' 0 (cntS s.length) = 0 :: List.range' (0 + 1) k by rw [hk, List.range'_succ]]; exact ⟨_, rfl⟩
  have hlen : (makeS n s ++ rest).length = cntS s.length + rest.length := by simp [makeS_length]
  have htake : (makeS n s ++ rest).take (cntS s.length) = makeS n s := List.take_left' (makeS_length n s)
  obtain ⟨r, hr⟩ := hcons
  have hp0 := chunk_length (fullS s) 0 _ hF (by omega)
  obtain ⟨_, _, _, h4, _⟩ := sectS_parts n 0 (cntS s.length) _ hp0
  have hc : beNum (((sectS n 0 (cntS s.length) (chunk (fullS s) 0)).drop 6).take 2) = cntS s.length := by
    rw [h4, beNum_be]; exact Nat.mod_eq_of_lt (by omega)
  have hpc := piecesS_make n (cntS s.length) (fullS s) hF hn0 hn (cntS s.length) 0 (by omega)
  rw [← hm, Nat.zero_mul, List.drop_zero, ← hF, List.take_length] at hpc
  rw [hr] at hlen htake ⊢
  unfold readS
  simp only [hc, numS_sectS n 0 _ _ hp0 hn]
  rw [if_neg hn0, if_neg (by omega), htake, hpc]
  simp only [textS_full s hs, Option.map_some]
end Go.Proofs.YtfijhffhlklddaaGreatDoor
