/-
  Contracts of package crc.
-/
import Derived.Test.YtfijhffhlklddaaGreatDoorTake
namespace Go.Proofs.YtfijhffhlklddaaGreatDoor
open Go.RowKit

def crcTab : List Nat := [0, 498536548, 997073096, 651767980, 1994146192, 1802195444, 1303535960, 1342533948, 3988292384, 4027552580, 3604390888, 3412177804, 2607071920, 2262029012, 2685067896, 3183342108]
/-- Four bits. -/
def crc4 (n x : Nat) : Nat := n / 16 ^^^ crcTab.getD ((n ^^^ x) % 16) 0
def crcStep (n : Nat) (b : UInt8) : Nat := crc4 (crc4 n b.toNat) (b.toNat / 16)

/-- The table is laid. -/
def CrcLaid (w : World) : Prop := ∀ i, i < 16 → w.cell? ⟨8, i, none⟩ = some (.int .u32 (crcTab.getD i 0 : Nat))

theorem crcTab_lt (i : Nat) : crcTab.getD i 0 < 4294967296 := by
  have h : ∀ x ∈ crcTab, x < 4294967296 := by decide
  rw [List.getD_eq_getElem?_getD]
  cases e : crcTab[i]? with
  | none => simp
  | some x => exact h x (List.mem_of_getElem? e)
theorem crc4_lt (n x : Nat) (hn : n < 4294967296) : crc4 n x < 4294967296 := by
  unfold crc4
  exact Nat.xor_lt_two_pow (n := 32) (by omega) (crcTab_lt _)
theorem crcStep_lt (n : Nat) (b : UInt8) (hn : n < 4294967296) : crcStep n b < 4294967296 := crc4_lt _ _ (crc4_lt _ _ hn)

theorem xor_u32 (n : Nat) (x y : Int) (m : Nat) (hx : x = (n : Int)) (hy : y = (m : Int)) (hn : n < 4294967296) (hm : m < 4294967296) : bits .xor .u32 x y = ((n ^^^ m : Nat) : Int) := by
  rw [hx, hy, u32_xor_nat _ _ hn hm]
theorem and15_u32 (n : Nat) (hn : n < 4294967296) : bits .and .u32 (n : Int) 15 = ((n % 16 : Nat) : Int) := by
  have h := u32_and_nat n 15 hn (by omega)
  have h2 : n &&& 15 = n % 16 := Nat.and_two_pow_sub_one_eq_mod n 4
  rw [← h2]; exact h

set_option maxRecDepth 100000 in
set_option maxHeartbeats 400000 in
theorem step_any (n : Nat) (hn : n < 4294967296) (b : UInt8) (w : World) (hg : CrcLaid w) :
    Calls Tryz.prog 101 #[.int .u32 n, .int .u8 b.toNat] w fun e w' => e = .returned (.int .u32 (crcStep n b : Nat)) ∧ w = w' := by
  have hb := b.toNat_lt
  obtain ⟨c, hc⟩ : ∃ c, c = b.toNat := ⟨_, rfl⟩
  rw [← hc] at hb ⊢
  obtain ⟨r, hr⟩ : ∃ r, r = crcStep n b := ⟨_, rfl⟩
  rw [← hr]
  unfold crcStep at hr
  rw [← hc] at hr
  clear hc
  obtain ⟨n1, hn1⟩ : ∃ n1, n1 = crc4 n c := ⟨_, rfl⟩
  rw [← hn1] at hr
  have hl1 : n1 < 4294967296 := by rw [hn1]; exact crc4_lt _ _ hn
  unfold crc4 at hn1 hr
  have c1 := hg ((n ^^^ c) % 16) (by omega)
  have c2 := hg ((n1 ^^^ c / 16) % 16) (by omega)
  have t1 := crcTab_lt ((n ^^^ c) % 16)
  have t2 := crcTab_lt ((n1 ^^^ c / 16) % 16)
  have e1 := xor_u32 n n c c rfl rfl hn (by omega)
  have e2 := and15_u32 (n ^^^ c) (Nat.xor_lt_two_pow (n := 32) hn (by omega))
  have e3 := xor_u32 (n / 16) ((n : Int) / 16) (crcTab.getD ((n ^^^ c) % 16) 0 : Nat) _ (by omega) rfl (by omega) t1
  have e4 := xor_u32 n1 n1 ((c : Int) / 16) (c / 16) rfl (by omega) hl1 (by omega)
  have e5 := and15_u32 (n1 ^^^ c / 16) (Nat.xor_lt_two_pow (n := 32) hl1 (by omega))
  have e6 := xor_u32 (n1 / 16) ((n1 : Int) / 16) (crcTab.getD ((n1 ^^^ c / 16) % 16) 0 : Nat) _ (by omega) rfl (by omega) t2
  rw [← hn1] at e3
  rw [← hr] at e6
  have l1 : (n ^^^ c) % 16 < 16 := by omega
  have l2 : (n1 ^^^ c / 16) % 16 < 16 := by omega
  clear hr hn1 hg
  generalize crcTab.getD ((n ^^^ c) % 16) 0 = t at *
  generalize crcTab.getD ((n1 ^^^ c / 16) % 16) 0 = u at *
  generalize (n ^^^ c) % 16 = i at *
  generalize (n1 ^^^ c / 16) % 16 = j at *
  generalize n ^^^ c = x at *
  generalize n1 ^^^ c / 16 = y at *
  go_enter Tryz.func101, Tryz.ntmps101
  go_wp2_with fail
  go_ret
  exact ⟨rfl, rfl⟩

/-- The sum, before the last turn. -/
def crcFrom (n : Nat) (l : List UInt8) : Nat := l.foldl crcStep n
theorem crcFrom_lt (l : List UInt8) : ∀ n, n < 4294967296 → crcFrom n l < 4294967296 := by
  induction l with
  | nil => intro n h; exact h
  | cons c l ih => intro n h; exact ih _ (crcStep_lt n c h)
def crcS (l : List UInt8) : Nat := 4294967295 ^^^ crcFrom 4294967295 l
theorem crcS_lt (l : List UInt8) : crcS l < 4294967296 := Nat.xor_lt_two_pow (n := 32) (by omega) (crcFrom_lt _ _ (by omega))

set_option maxRecDepth 100000 in
set_option maxHeartbeats 400000 in
theorem sum_any (s : ByteArray) (hs : s.size ≤ 140737488351232) (w : World) (hg : CrcLaid w) :
    Calls Tryz.prog 80 #[.string s] w fun e w' => e = .returned (.int .u32 (crcS s.data.toList : Nat)) ∧ w = w' := by
  have Hg := Lib.hid hg; clear hg
  go_enter Tryz.func80, Tryz.ntmps80
  go_wp2_with fail
  go_loop [3, 7] (fun v i => ∃ j : Nat, j ≤ s.size ∧ i = .int .i64 j ∧ v = .int .u32 (crcFrom 4294967295 (s.data.toList.take j) : Nat)) (fun _ i => s.size - (intOf i).toNat)
  case atStart => exact ⟨0, Nat.zero_le _, rfl, rfl⟩
  case round =>
    obtain ⟨j, hj, rfl, rfl⟩ := hrel
    have hlv := crcFrom_lt (s.data.toList.take j) 4294967295 (by omega)
    by_cases hlt : j < s.size
    · have Hs := Lib.hid (show crcFrom 4294967295 (s.data.toList.take (j + 1)) = crcStep (crcFrom 4294967295 (s.data.toList.take j)) (s[j]) by
        rw [take_snoc_l _ 0 j (by simpa using hlt), crcFrom, List.foldl_append]
        simp [crcFrom, List.getD, hlt]
        rfl)
      generalize crcFrom 4294967295 (s.data.toList.take j) = v at *
      go_wp2_with fail
      refine (step_any _ hlv _ _ Hg.out).mono ?_; rintro e w' ⟨rfl, rfl⟩
      go_wp2_with fail
      refine ⟨⟨j + 1, by omega, by go_num, ?_⟩, by simp [intOf]; omega⟩
      rw [Hs.out]
    · obtain rfl : j = s.size := by omega
      have Ht := Lib.hid (show s.data.toList.take s.size = s.data.toList by rw [List.take_of_length_le]; simp)
      rw [Ht.out] at hlv ⊢
      have e1 : bits .xor .u32 IntKind.u32.max (crcFrom 4294967295 s.data.toList : Nat) = (crcS s.data.toList : Nat) :=
        xor_u32 4294967295 _ _ _ rfl rfl (by omega) hlv
      have hsg : IntKind.u32.signed = false := rfl
      generalize crcFrom 4294967295 s.data.toList = v at *
      go_wp2_with fail
      go_ret
      exact ⟨rfl, rfl⟩
end Go.Proofs.YtfijhffhlklddaaGreatDoor
