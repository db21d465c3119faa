/-
  Contracts of package frame: the text of a record's pieces.
-/
import Derived.Test.YtfijhffhlklddaaGreatDoorPiece
namespace Go.Proofs.YtfijhffhlklddaaGreatDoor
open Go.RowKit

def TextEnd (E : Errs) (r : Option Bytes) (e : Ending) : Prop :=
  match r with
  | some p => e = .returned (.tuple #[.string (bs p), .nilIface])
  | none => e = .returned (.tuple #[.string ⟨#[]⟩, sent E.other]) ∨ e = .returned (.tuple #[.string ⟨#[]⟩, sent E.sum])

theorem beNum4 (l : Bytes) : beNum (l.take 4) < 4294967296 :=
  Nat.lt_of_lt_of_le (beNum_lt _) (Nat.le_trans (Nat.pow_le_pow_right (n := 256) (by omega) (show (l.take 4).length ≤ 4 by rw [List.length_take]; omega)) (by decide))

theorem isEmpty_str (t : ByteArray) : t.toList.isEmpty = decide (t.size = 0) := by
  rw [Lib.toList_data]
  have h : t.data.toList.length = t.size := by simp
  rw [← h]
  cases t.data.toList <;> simp

set_option maxRecDepth 100000 in
set_option maxHeartbeats 1000000 in
theorem text_long (E : Errs) (B : Nat) (all : ByteArray) (c : Nat) (w : World) (henv : Env E B w) (hs : 4 ≤ all.size) (hm : all.size ≤ 100000000) (k : Nat) (hk : k = beNum (all.data.toList.take 4)) (h : 2000 < k) :
    Calls Tryz.prog 97 #[.string all, .int .i64 c] w fun e w' => e = .returned (.tuple #[.string ⟨#[]⟩, sent E.other]) ∧ Below w.heap.size w w' := by
  have HE := Lib.hid henv
  clear henv
  have hk2 : k < 256 ^ 4 := by rw [hk]; exact Nat.lt_of_lt_of_le (beNum_lt _) (Nat.pow_le_pow_right (by omega) (by simp; omega))
  have HT := take_size 4 (by omega) all (by omega) 0 (by omega)
  rw [List.drop_zero, ← hk] at HT
  clear hk
  have h1 : (2000 : Int) < k := by omega
  go_enter Tryz.func97, Tryz.ntmps97
  go_wp2_with fail
  refine (HT _).mono ?_; rintro e w1 ⟨rfl, hb1⟩
  have c1 := (HE.out.grew hb1).other.1
  go_wp2_with fail
  go_quiet (fail)
  go_wp2_with fail
  go_ret2
  exact ⟨rfl, hb1.trans (below_drewN _ _)⟩

theorem sizeS_cnt (k : Nat) (h : k ≤ 2000) : sizeS k = (cntS k : Nat) := by
  unfold sizeS cntS
  rw [if_neg (by omega)]; omega

set_option maxRecDepth 100000 in
set_option maxHeartbeats 1000000 in
theorem text_size (E : Errs) (B : Nat) (all : ByteArray) (c : Nat) (w : World) (henv : Env E B w) (hs : 4 ≤ all.size) (hm : all.size ≤ 100000000) (k : Nat) (hk : k = beNum (all.data.toList.take 4)) (h : k ≤ 2000) (hc : cntS k ≠ c) :
    Calls Tryz.prog 97 #[.string all, .int .i64 c] w fun e w' => e = .returned (.tuple #[.string ⟨#[]⟩, sent E.other]) ∧ Below w.heap.size w w' := by
  have HE := Lib.hid henv
  clear henv
  have HT := take_size 4 (by omega) all (by omega) 0 (by omega)
  rw [List.drop_zero, ← hk] at HT
  clear hk
  have HS := frame_size k
  rw [sizeS_cnt k h] at HS
  have h1 : ¬ (2000 : Int) < k := by omega
  have h2 : ((cntS k : Int) != c) = true := by rw [bne_iff_ne]; omega
  clear hc
  generalize cntS k = cc at *
  go_enter Tryz.func97, Tryz.ntmps97
  go_wp2_with fail
  refine (HT _).mono ?_; rintro e w1 ⟨rfl, hb1⟩
  have c1 := (HE.out.grew hb1).other.1
  go_wp2_with fail
  refine (HS _).mono ?_; rintro e w2 ⟨rfl, rfl⟩
  go_wp2_with fail
  go_quiet (fail)
  go_wp2_with fail
  go_ret2
  exact ⟨rfl, hb1.trans (below_drewN _ _)⟩

set_option maxRecDepth 100000 in
set_option maxHeartbeats 1000000 in
theorem text_sum (E : Errs) (B : Nat) (all : ByteArray) (c : Nat) (w : World) (henv : Env E B w) (hs : 4 ≤ all.size) (hm : all.size ≤ 100000000) (k : Nat) (hk : k = beNum (all.data.toList.take 4)) (h : k ≤ 2000) (hc : cntS k = c) (hl : k + 8 ≤ all.size)
    (x y : Nat) (hx : x = beNum ((all.data.toList.drop (4 + k)).take 4)) (hy : y = crcS (all.data.toList.take (4 + k))) (hne : x ≠ y) :
    Calls Tryz.prog 97 #[.string all, .int .i64 c] w fun e w' => e = .returned (.tuple #[.string ⟨#[]⟩, sent E.sum]) ∧ Below w.heap.size w w' := by
  have HE := Lib.hid henv
  clear henv
  have HT := take_size 4 (by omega) all (by omega) 0 (by omega)
  rw [List.drop_zero, ← hk] at HT
  clear hk
  have HS := frame_size k
  rw [sizeS_cnt k h, hc] at HS
  have HT2 := take_size 4 (by omega) all (by omega) (4 + k) (by omega)
  rw [← hx] at HT2
  have e4 : ((4 + k : Nat) : Int) = 4 + (k : Int) := by omega
  have hxl : x < 4294967296 := by rw [hx]; exact beNum4 _
  have hyl : y < 4294967296 := by rw [hy]; exact crcS_lt _
  have HC := sum_any (all.extract 0 (4 + k)) (by simp [ByteArray.size_extract]; omega)
  rw [extract_toList, List.drop_zero, Nat.sub_zero, ← hy] at HC
  clear hx hy
  rw [e4] at HT2
  clear e4
  have h1 : ¬ (2000 : Int) < k := by omega
  have h2 : IntKind.u32.wrap (x : Int) = x := by rw [IntKind.wrap_u32]; omega
  have h3 : ((x : Int) != y) = true := by rw [bne_iff_ne]; omega
  have h4 : 4 + (k : Int) ≤ all.size := by omega
  clear hc hne
  go_enter Tryz.func97, Tryz.ntmps97
  go_wp2_with fail
  refine (HT _).mono ?_; rintro e w1 ⟨rfl, hb1⟩
  go_wp2_with fail
  refine (HS _).mono ?_; rintro e w2 ⟨rfl, rfl⟩
  go_wp2_with fail
  refine (HT2 _).mono ?_; rintro e w2 ⟨rfl, hb2⟩
  have hB := hb1.trans (hb2.mono hb1.size)
  go_wp2_with fail
  refine (HC _ (HE.out.grew hB).crc).mono ?_; rintro e w3 ⟨rfl, rfl⟩
  have c1 := (HE.out.grew hB).sum.1
  go_wp2_with fail
  go_quiet (fail)
  go_wp2_with fail
  go_ret2
  exact ⟨rfl, hB.trans (below_drewN _ _)⟩

set_option maxRecDepth 100000 in
set_option maxHeartbeats 1000000 in
theorem text_tail (E : Errs) (B : Nat) (all : ByteArray) (c : Nat) (w : World) (henv : Env E B w) (hs : 4 ≤ all.size) (hm : all.size ≤ 100000000) (k : Nat) (hk : k = beNum (all.data.toList.take 4)) (h : k ≤ 2000) (hc : cntS k = c) (hl : k + 8 ≤ all.size)
    (x y : Nat) (hx : x = beNum ((all.data.toList.drop (4 + k)).take 4)) (hy : y = crcS (all.data.toList.take (4 + k))) (hne : x = y) (hz : (all.data.toList.drop (8 + k)).all (· == 0) = false) :
    Calls Tryz.prog 97 #[.string all, .int .i64 c] w fun e w' => e = .returned (.tuple #[.string ⟨#[]⟩, sent E.other]) ∧ Below w.heap.size w w' := by
  have HE := Lib.hid henv
  clear henv
  have HT := take_size 4 (by omega) all (by omega) 0 (by omega)
  rw [List.drop_zero, ← hk] at HT
  clear hk
  have HS := frame_size k
  rw [sizeS_cnt k h, hc] at HS
  have HT2 := take_size 4 (by omega) all (by omega) (4 + k) (by omega)
  rw [← hx] at HT2
  have e4 : ((4 + k : Nat) : Int) = 4 + (k : Int) := by omega
  have hxl : x < 4294967296 := by rw [hx]; exact beNum4 _
  have hyl : y < 4294967296 := by rw [hy]; exact crcS_lt _
  have HC := sum_any (all.extract 0 (4 + k)) (by simp [ByteArray.size_extract]; omega)
  rw [extract_toList, List.drop_zero, Nat.sub_zero, ← hy] at HC
  clear hx hy
  rw [e4] at HT2
  clear e4
  have h1 : ¬ (2000 : Int) < k := by omega
  have h2 : IntKind.u32.wrap (x : Int) = x := by rw [IntKind.wrap_u32]; omega
  have h3 : ((x : Int) != y) = false := by rw [bne_eq_false_iff_eq]; omega
  have h4 : 4 + (k : Int) ≤ all.size := by omega
  have HZ := trim_zeros (all.extract (4 + k + 4) all.size) (by simp [ByteArray.size_extract]; omega)
  have ez : (all.extract (4 + k + 4) all.size).data.toList = all.data.toList.drop (8 + k) := by
    rw [extract_toList, List.take_of_length_le (by simp), show 4 + k + 4 = 8 + k by omega]
  rw [ez, hz] at HZ
  clear hc hne hz ez
  have h5 : 4 + (k : Int) + 4 ≤ all.size := by omega
  go_enter Tryz.func97, Tryz.ntmps97
  go_wp2_with fail
  refine (HT _).mono ?_; rintro e w1 ⟨rfl, hb1⟩
  go_wp2_with fail
  refine (HS _).mono ?_; rintro e w2 ⟨rfl, rfl⟩
  go_wp2_with fail
  refine (HT2 _).mono ?_; rintro e w2 ⟨rfl, hb2⟩
  have hB := hb1.trans (hb2.mono hb1.size)
  go_wp2_with fail
  refine (HC _ (HE.out.grew hB).crc).mono ?_; rintro e w3 ⟨rfl, rfl⟩
  go_wp2_with fail
  refine (HZ _).mono ?_; rintro e w3 ⟨t, rfl, ht, n0, rfl⟩
  have hB := hB.trans (below_drewN w2 n0)
  have c1 := (HE.out.grew hB).other.1
  have ht : t.toList.isEmpty = false := by rw [isEmpty_str, decide_eq_false_iff_not]; intro e; exact absurd (ht.1 e) (by decide)
  go_wp2_with fail
  obtain ⟨w3, hw3⟩ : ∃ w3, w3 = w2.drewN n0 := ⟨_, rfl⟩
  rw [← hw3] at c1 hB ⊢
  clear hw3
  go_quiet (fail)
  go_wp2_with fail
  go_ret2
  exact ⟨rfl, hB.trans (below_drewN _ _)⟩
set_option maxRecDepth 100000 in
set_option maxHeartbeats 1000000 in
theorem text_ok (E : Errs) (B : Nat) (all : ByteArray) (c : Nat) (w : World) (henv : Env E B w) (hs : 4 ≤ all.size) (hm : all.size ≤ 100000000) (k : Nat) (hk : k = beNum (all.data.toList.take 4)) (h : k ≤ 2000) (hc : cntS k = c) (hl : k + 8 ≤ all.size)
    (x y : Nat) (hx : x = beNum ((all.data.toList.drop (4 + k)).take 4)) (hy : y = crcS (all.data.toList.take (4 + k))) (hne : x = y) (hz : (all.data.toList.drop (8 + k)).all (· == 0) = true) :
    Calls Tryz.prog 97 #[.string all, .int .i64 c] w fun e w' => e = .returned (.tuple #[.string (all.extract 4 (4 + k)), .nilIface]) ∧ Below w.heap.size w w' := by
  have HE := Lib.hid henv
  clear henv
  have HT := take_size 4 (by omega) all (by omega) 0 (by omega)
  rw [List.drop_zero, ← hk] at HT
  clear hk
  have HS := frame_size k
  rw [sizeS_cnt k h, hc] at HS
  have HT2 := take_size 4 (by omega) all (by omega) (4 + k) (by omega)
  rw [← hx] at HT2
  have e4 : ((4 + k : Nat) : Int) = 4 + (k : Int) := by omega
  have hxl : x < 4294967296 := by rw [hx]; exact beNum4 _
  have hyl : y < 4294967296 := by rw [hy]; exact crcS_lt _
  have HC := sum_any (all.extract 0 (4 + k)) (by simp [ByteArray.size_extract]; omega)
  rw [extract_toList, List.drop_zero, Nat.sub_zero, ← hy] at HC
  clear hx hy
  rw [e4] at HT2
  clear e4
  have h1 : ¬ (2000 : Int) < k := by omega
  have h2 : IntKind.u32.wrap (x : Int) = x := by rw [IntKind.wrap_u32]; omega
  have h3 : ((x : Int) != y) = false := by rw [bne_eq_false_iff_eq]; omega
  have h4 : 4 + (k : Int) ≤ all.size := by omega
  have HZ := trim_zeros (all.extract (4 + k + 4) all.size) (by simp [ByteArray.size_extract]; omega)
  have ez : (all.extract (4 + k + 4) all.size).data.toList = all.data.toList.drop (8 + k) := by
    rw [extract_toList, List.take_of_length_le (by simp), show 4 + k + 4 = 8 + k by omega]
  rw [ez, hz] at HZ
  clear hc hne hz ez
  have h5 : 4 + (k : Int) + 4 ≤ all.size := by omega
  go_enter Tryz.func97, Tryz.ntmps97
  go_wp2_with fail
  refine (HT _).mono ?_; rintro e w1 ⟨rfl, hb1⟩
  go_wp2_with fail
  refine (HS _).mono ?_; rintro e w2 ⟨rfl, rfl⟩
  go_wp2_with fail
  refine (HT2 _).mono ?_; rintro e w2 ⟨rfl, hb2⟩
  have hB := hb1.trans (hb2.mono hb1.size)
  go_wp2_with fail
  refine (HC _ (HE.out.grew hB).crc).mono ?_; rintro e w3 ⟨rfl, rfl⟩
  go_wp2_with fail
  refine (HZ _).mono ?_; rintro e w3 ⟨t, rfl, ht, n0, rfl⟩
  have hB := hB.trans (below_drewN w2 n0)
  have ht : t.toList.isEmpty = true := by rw [isEmpty_str, decide_eq_true_iff]; exact ht.2 trivial
  go_wp2_with fail
  go_ret2
  exact ⟨rfl, hB⟩

/-- text: the text of a record's pieces, if they are right. -/
theorem text_any (E : Errs) (B : Nat) (all : ByteArray) (c : Nat) (w : World) (henv : Env E B w) (hc0 : 1 ≤ c) (hc1 : c ≤ 100000) (hs : all.size = c * 244) :
    Calls Tryz.prog 97 #[.string all, .int .i64 c] w fun e w' => TextEnd E (textS all.data.toList c) e ∧ Below w.heap.size w w' := by
  obtain ⟨k, hk⟩ : ∃ k, k = beNum (all.data.toList.take 4) := ⟨_, rfl⟩
  unfold textS
  rw [← hk]
  by_cases h1 : k ≤ 2000
  · by_cases h2 : cntS k = c
    · have hl : k + 8 ≤ all.size := by have := cntS_ge k; rw [h2] at this; omega
      by_cases h3 : beNum ((all.data.toList.drop (4 + k)).take 4) = crcS (all.data.toList.take (4 + k))
      · by_cases h4 : (all.data.toList.drop (8 + k)).all (· == 0) = true
        · rw [if_pos ⟨h1, h2, h3, h4⟩]
          refine (text_ok E B all c w henv (by omega) (by omega) k hk h1 h2 hl _ _ rfl rfl h3 h4).mono fun _ _ h => ⟨?_, h.2⟩
          rw [h.1, extract_bs, show 4 + k - 4 = k by omega]; rfl
        · rw [if_neg (fun h => h4 h.2.2.2)]
          exact (text_tail E B all c w henv (by omega) (by omega) k hk h1 h2 hl _ _ rfl rfl h3 (by simpa using h4)).mono fun _ _ h => ⟨.inl h.1, h.2⟩
      · rw [if_neg (fun h => h3 h.2.2.1)]
        exact (text_sum E B all c w henv (by omega) (by omega) k hk h1 h2 hl _ _ rfl rfl h3).mono fun _ _ h => ⟨.inr h.1, h.2⟩
    · rw [if_neg (fun h => h2 h.2.1)]
      exact (text_size E B all c w henv (by omega) (by omega) k hk h1 h2).mono fun _ _ h => ⟨.inl h.1, h.2⟩
  · rw [if_neg (fun h => h1 h.1)]
    exact (text_long E B all c w henv (by omega) (by omega) k hk (by omega)).mono fun _ _ h => ⟨.inl h.1, h.2⟩
end Go.Proofs.YtfijhffhlklddaaGreatDoor
