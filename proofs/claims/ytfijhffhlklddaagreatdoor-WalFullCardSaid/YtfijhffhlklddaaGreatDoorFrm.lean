/-
  Contracts of package frame: sizes and numbers.
-/
import Derived.Test.YtfijhffhlklddaaGreatDoorStr
import Derived.BigQuiet
import Derived.Deep.QuietTactic
namespace Go.Proofs.YtfijhffhlklddaaGreatDoor
open Go.RowKit

def sizeS (n : Int) : Int := if n < 0 ∨ 2000 < n then 0 else (n + 251) / 244
set_option maxRecDepth 100000 in
set_option maxHeartbeats 400000 in
theorem frame_size (n : Int) (w : World) :
    Calls Tryz.prog 78 #[.int .i64 n] w fun e w' => e = .returned (.int .i64 (sizeS n)) ∧ w = w' := by
  by_cases h1 : n < 0
  · have e1 : sizeS n = 0 := by simp [sizeS, h1]
    rw [e1]; clear e1
    go_enter Tryz.func78, Tryz.ntmps78
    go_wp2_with fail
    go_ret
    exact ⟨rfl, rfl⟩
  · by_cases h2 : 2000 < n
    · have e1 : sizeS n = 0 := by simp [sizeS, h2]
      rw [e1]; clear e1
      go_enter Tryz.func78, Tryz.ntmps78
      go_wp2_with fail
      go_ret
      exact ⟨rfl, rfl⟩
    · have e1 : sizeS n = (n + 251) / 244 := by simp [sizeS, h1, h2]
      have E := Lib.hid e1; clear e1
      have e2 : (n + 8 + 244 - 1) / 244 = (n + 251) / 244 := by congr 1; omega
      have E2 := Lib.hid e2; clear e2
      go_enter Tryz.func78, Tryz.ntmps78
      go_wp2_with fail
      go_ret
      exact ⟨by rw [E.out, ← E2.out]; rfl, rfl⟩

theorem le4_of (n : Nat) (hn : n < 4294967296) : strOfNums [(n : Int) % 256, (n : Int) / 256 % 256, (n : Int) / 65536 % 256, (n : Int) / 16777216] = bs (le4 n) := by
  have e1 : ((n : Int) % 256).toNat = n % 256 := by omega
  have e2 : ((n : Int) / 256 % 256).toNat = n / 256 % 256 := by omega
  have e3 : ((n : Int) / 65536 % 256).toNat = n / 65536 % 256 := by omega
  have e4 : ((n : Int) / 16777216).toNat = n / 16777216 % 256 := by omega
  simp only [strOfNums, bs, le4, List.map_cons, List.map_nil, e1, e2, e3, e4]

set_option maxRecDepth 100000 in
set_option maxHeartbeats 400000 in
theorem number_any (n : Nat) (hn : n < 4294967296) (w : World) :
    Calls Tryz.prog 82 #[.int .u32 n] w fun e w' => e = .returned (.string (bs (le4 n))) ∧ Below w.heap.size w w' := by
  have H := Lib.hid (le4_of n hn)
  have hcv : (convert 23 9 (.slice (some ⟨w.heap.size, 0, none⟩) 4 4)).run Tryz.prog (w.alloc (.cells #[.int .u8 ((n : Int) % 256), .int .u8 ((n : Int) / 256 % 256), .int .u8 ((n : Int) / 65536 % 256), .int .u8 ((n : Int) / 16777216)] 5)) = .ok (.string (strOfNums [(n : Int) % 256, (n : Int) / 256 % 256, (n : Int) / 65536 % 256, (n : Int) / 16777216])) (w.alloc (.cells #[.int .u8 ((n : Int) % 256), .int .u8 ((n : Int) / 256 % 256), .int .u8 ((n : Int) / 65536 % 256), .int .u8 ((n : Int) / 16777216)] 5)) := conv_new [(n : Int) % 256, (n : Int) / 256 % 256, (n : Int) / 65536 % 256, (n : Int) / 16777216] w
  go_enter Tryz.func82, Tryz.ntmps82
  go_wp2_with fail
  go_ret
  exact ⟨congrArg (fun s => Ending.returned (.string s)) H.out, (Below.refl _ _).alloc (Nat.le_refl _) _⟩

theorem frame_num2 (v : Int) (h0 : 0 ≤ v) (hv : v < 65536) (w : World) :
    Calls Tryz.prog 79 #[.int .u64 v, .int .i64 2] w fun e w' => e = .returned (.string (bs (be 2 v.toNat))) ∧ Below w.heap.size w w' := by
  go_enter Tryz.func79, Tryz.ntmps79
  go_wp2_with fail
  refine (Num2 v h0 hv _).mono ?_; rintro e w1 ⟨rfl, hb⟩
  go_wp2_with fail
  go_ret
  exact ⟨rfl, hb⟩
theorem frame_num4 (v : Int) (h0 : 0 ≤ v) (hv : v < 4294967296) (w : World) :
    Calls Tryz.prog 79 #[.int .u64 v, .int .i64 4] w fun e w' => e = .returned (.string (bs (be 4 v.toNat))) ∧ Below w.heap.size w w' := by
  go_enter Tryz.func79, Tryz.ntmps79
  go_wp2_with fail
  refine (Num4 v h0 hv _).mono ?_; rintro e w1 ⟨rfl, hb⟩
  go_wp2_with fail
  go_ret
  exact ⟨rfl, hb⟩

set_option maxRecDepth 100000 in
set_option maxHeartbeats 400000 in
theorem frame_Num_short (s : ByteArray) (h : s.size ≠ 256) (w : World) :
    Calls Tryz.prog 77 #[.string s] w fun e w' => e = .returned (.int .u32 0) ∧ ∃ n, w' = w.drewN n := by
  have h1 : ((s.size : Int) != 256) = true := by rw [bne_iff_ne]; omega
  go_enter Tryz.func77, Tryz.ntmps77
  go_wp2_with fail
  go_quiet (fail)
  go_wp2_with fail
  go_ret
  exact ⟨rfl, _, rfl⟩

theorem eq_str (a b : ByteArray) : (a.toList == b.toList) = decide (a.data.toList = b.data.toList) := by
  rw [Lib.toList_data, Lib.toList_data]
  by_cases h : a.data.toList = b.data.toList
  · rw [h]; simp
  · rw [decide_eq_false h]; exact beq_eq_false_iff_ne.2 h
theorem or_u32 (a b k : Nat) (hk : k < 32) (ha : a < 2 ^ k) (hb : b * 2 ^ k < 4294967296) : bits .or .u32 (a : Int) ((b * 2 ^ k : Nat) : Int) = ((a + b * 2 ^ k : Nat) : Int) := by
  have h1 : a < 4294967296 := Nat.lt_trans ha (Nat.pow_lt_pow_right (by omega) hk)
  rw [u32_or_nat _ _ h1 hb]
  have := Nat.two_pow_add_eq_or_of_lt ha b
  rw [Nat.mul_comm] at this
  rw [Nat.or_comm, Nat.mul_comm b, ← Nat.two_pow_add_eq_or_of_lt ha, Nat.add_comm]
theorem or_bytes (a b c d : UInt8) : bits .or .u32 (bits .or .u32 (bits .or .u32 ((a.toNat : Int) % 4294967296) ((b.toNat : Int) % 4294967296 * 256 % 4294967296)) ((c.toNat : Int) % 4294967296 * 65536 % 4294967296)) ((d.toNat : Int) % 4294967296 * 16777216 % 4294967296) = (leNum [a, b, c, d] : Nat) := by
  have ha := a.toNat_lt; have hb := b.toNat_lt; have hc := c.toNat_lt; have hd := d.toNat_lt
  have e1 : (a.toNat : Int) % 4294967296 = (a.toNat : Nat) := by omega
  have e2 : (b.toNat : Int) % 4294967296 * 256 % 4294967296 = ((b.toNat * 2 ^ 8 : Nat) : Int) := by omega
  have e3 : (c.toNat : Int) % 4294967296 * 65536 % 4294967296 = ((c.toNat * 2 ^ 16 : Nat) : Int) := by omega
  have e4 : (d.toNat : Int) % 4294967296 * 16777216 % 4294967296 = ((d.toNat * 2 ^ 24 : Nat) : Int) := by omega
  rw [e1, e2, e3, e4, or_u32 _ _ 8 (by omega) (by omega) (by omega), or_u32 _ _ 16 (by omega) (by omega) (by omega), or_u32 _ _ 24 (by omega) (by omega) (by omega)]
  simp only [leNum, List.foldr_cons, List.foldr_nil]
  congr 1; omega
theorem first4 (s : ByteArray) (h : 3 < s.size) : s.data.toList.take 4 = [s[0], s[1], s[2], s[3]] := by
  have hl : s.data.toList.length = s.size := by simp
  match hs : s.data.toList, hl with
  | [], hl => simp at hl; omega
  | [_], hl => simp at hl; omega
  | [_, _], hl => simp at hl; omega
  | [_, _, _], hl => simp at hl; omega
  | a :: b :: c :: d :: r, _ =>
    have g : ∀ (i : Nat) (hi : i < s.size), s[i] = (s.data.toList)[i]'(by simpa using hi) := fun i hi => by simp [ByteArray.getElem_eq_getElem_data]
    have e : ∀ (i : Nat) (hi : i < s.size) (x : UInt8), (a :: b :: c :: d :: r)[i]? = some x → s[i] = x := fun i hi x hx => by
      rw [g i hi]
      rw [← hs] at hx
      rw [List.getElem?_eq_getElem (by simpa using hi)] at hx
      exact Option.some.inj hx
    rw [e 0 (by omega) a rfl, e 1 (by omega) b rfl, e 2 (by omega) c rfl, e 3 h d rfl]
    rfl
theorem numS_of (s : ByteArray) (h : s.size = 256) : numS s.data.toList = if ((s.extract 0 4).toList == (s.extract 252 s.size).toList) = true then leNum (s.data.toList.take 4) else 0 := by
  rw [eq_str]
  have e1 : (s.extract 0 4).data.toList = s.data.toList.take 4 := by rw [extract_toList]; simp
  have e2 : (s.extract 252 s.size).data.toList = s.data.toList.drop 252 := by
    rw [extract_toList, List.take_of_length_le]; simp
  unfold numS
  rw [e1, e2]
  have hl : s.data.toList.length = 256 := by simpa using h
  by_cases hq : s.data.toList.take 4 = s.data.toList.drop 252
  · rw [if_pos ⟨hl, hq⟩, if_pos (by simpa using hq)]
  · rw [if_neg (fun e => hq e.2), if_neg (by simpa using hq)]

set_option maxRecDepth 100000 in
set_option maxHeartbeats 400000 in
theorem frame_Num_full (s : ByteArray) (h : s.size = 256) (w : World) :
    Calls Tryz.prog 77 #[.string s] w fun e w' => e = .returned (.int .u32 (numS s.data.toList : Nat)) ∧ ∃ n, w' = w.drewN n := by
  have h1 : ((s.size : Int) != 256) = false := by rw [bne_eq_false_iff_eq]; omega
  have HN := Lib.hid (numS_of s h)
  have g1 : s.size ≤ 256 := by omega
  have g2 : 256 ≤ s.size := by omega
  clear h
  have H := Lib.hid (first4 s (by omega))
  by_cases hq : ((s.extract 0 4).toList == (s.extract 252 s.size).toList) = true
  · have HQ := Lib.hid hq
    go_enter Tryz.func77, Tryz.ntmps77
    go_wp2_with fail
    go_quiet (fail)
    go_wp2_with fail
    obtain ⟨w1, hw1⟩ : ∃ w1, w1 = w.drewN nq := ⟨_, rfl⟩
    rw [← hw1]
    have HW := Lib.hid hw1
    clear hw1
    have i0 : 0 < s.size := by omega
    have i1 : 1 < s.size := by omega
    have i2 : 2 < s.size := by omega
    have i3 : 3 < s.size := by omega
    have j1 : (1 : Int) < s.size := by omega
    have j2 : (2 : Int) < s.size := by omega
    have j3 : (3 : Int) < s.size := by omega
    have HB := Lib.hid (or_bytes s[0] s[1] s[2] s[3])
    go_quiet (fail)
    go_wp2_with fail
    go_ret
    refine ⟨?_, _, by rw [HW.out, World.drewN_drewN]⟩
    rw [HN.out, if_pos HQ.out, H.out, ← HB.out]
    rfl
  · have hq : ((s.extract 0 4).toList == (s.extract 252 s.size).toList) = false := by simpa using hq
    have HQ := Lib.hid hq
    go_enter Tryz.func77, Tryz.ntmps77
    go_wp2_with fail
    go_quiet (fail)
    go_wp2_with fail
    go_ret
    refine ⟨?_, _, rfl⟩
    rw [HN.out, if_neg (by rw [HQ.out]; decide)]
    rfl

theorem frame_Num (s : ByteArray) (w : World) :
    Calls Tryz.prog 77 #[.string s] w fun e w' => e = .returned (.int .u32 (numS s.data.toList : Nat)) ∧ ∃ n, w' = w.drewN n := by
  by_cases h : s.size = 256
  · exact frame_Num_full s h w
  · refine (frame_Num_short s h w).mono ?_
    rintro e w' ⟨rfl, hw⟩
    refine ⟨?_, hw⟩
    have : numS s.data.toList = 0 := by
      unfold numS
      rw [if_neg (fun e => h (by simpa using e.1))]
    rw [this]; rfl
end Go.Proofs.YtfijhffhlklddaaGreatDoor
