/-
  Contracts of package pack: bytes as numbers.
-/
import Derived.Test.YtfijhffhlklddaaGreatDoorPack
import Derived.Lib.ConvBytes
namespace Go.Proofs.YtfijhffhlklddaaGreatDoor
open Go.RowKit

/-- []byte(s): a new row that reads as the text. -/
theorem to_bytes (s : ByteArray) (w : World) : ∃ (c : Nat) (W1 : World), (convert 9 23 (.string s)).run Tryz.prog w = .ok (.slice (some ⟨w.heap.size, 0, none⟩) s.size c) W1 ∧ Below w.heap.size w W1 ∧ w.heap.size < W1.heap.size ∧
    ∀ j, j < s.size → W1.cell? ⟨w.heap.size, j, none⟩ = some (.int .u8 (s.data.toList.getD j 0).toNat) :=
  ⟨_, _, Lib.run_convert_string_bytes w 9 23 5 s Tryz.underlying9 Tryz.underlying23 Tryz.underlying5,
    ⟨by simp [Lib.bytesWorld, World.freeze, World.alloc, World.drew, -World.alloc_eq, -World.drew_eq], by simp [Lib.bytesWorld, World.freeze, World.alloc, World.drew, -World.alloc_eq, -World.drew_eq], by simp [Lib.bytesWorld, World.freeze, World.alloc, World.drew, -World.alloc_eq, -World.drew_eq], by rw [Lib.bytesWorld_size]; omega, fun k hk => Lib.bytesWorld_at_old _ _ _ _ hk⟩,
    by rw [Lib.bytesWorld_size]; omega, fun j hj => Lib.bytesWorld_cell _ _ _ _ hj⟩

/-- The number of bytes, the highest first. -/
def beNum (l : List UInt8) : Nat := l.foldl (fun v c => v * 256 + c.toNat) 0
theorem beNum_snoc (l : List UInt8) (c : UInt8) : beNum (l ++ [c]) = beNum l * 256 + c.toNat := by simp [beNum]
theorem foldl_lt (l : List UInt8) : ∀ v : Nat, l.foldl (fun v c => v * 256 + c.toNat) v < (v + 1) * 256 ^ l.length := by
  induction l with
  | nil => intro v; simp
  | cons c l ih =>
    intro v
    rw [List.foldl_cons, List.length_cons, Nat.pow_succ]
    have h1 := ih (v * 256 + c.toNat)
    have h2 := c.toNat_lt
    have h3 : (v * 256 + c.toNat + 1) * 256 ^ l.length ≤ ((v + 1) * 256) * 256 ^ l.length := Nat.mul_le_mul_right _ (by omega)
    have h4 : ((v + 1) * 256) * 256 ^ l.length = (v + 1) * (256 ^ l.length * 256) := by rw [Nat.mul_assoc, Nat.mul_comm 256]
    omega
theorem beNum_lt (l : List UInt8) : beNum l < 256 ^ l.length := by have := foldl_lt l 0; simpa [beNum] using this
theorem extract_toList (s : ByteArray) (a b : Nat) : (s.extract a b).data.toList = (s.data.toList.drop a).take (b - a) := by
  simp [ByteArray.data_extract, Array.toList_extract]
theorem take_snoc_l {α : Type} (l : List α) (d : α) (j : Nat) (h : j < l.length) : l.take (j + 1) = l.take j ++ [l.getD j d] := by
  rw [List.take_succ_eq_append_getElem h]; simp [List.getD, List.getElem?_eq_getElem h]

theorem or_step (v : Nat) (hv : v < 16777216) (b : UInt8) : bits .or .u64 ((v : Int) * 256) (IntKind.u64.wrap (b.toNat : Int)) = ((v * 256 + b.toNat : Nat) : Int) := by
  have hb := b.toNat_lt
  have e1 : ((v : Int) * 256) = ((v * 256 : Nat) : Int) := by omega
  have e2 : IntKind.u64.wrap (b.toNat : Int) = ((b.toNat : Nat) : Int) := by rw [IntKind.wrap_u64]; omega
  rw [e1, e2, bits_or_u64_nat _ _ (by omega) (by omega)]
  have := Nat.two_pow_add_eq_or_of_lt (i := 8) (b := b.toNat) (by omega) v
  have h2 : v * 256 = 2 ^ 8 * v := by omega
  rw [h2, this]

set_option maxRecDepth 100000 in
set_option maxHeartbeats 400000 in
theorem pack_take_inner (n : Nat) (hn : n = 1 ∨ n = 2 ∨ n = 4) (s : ByteArray) (hs : s.size ≤ 140737488351232) (k : Nat) (hk : k + n ≤ s.size) (w : World) :
    Calls Tryz.prog 113 #[.string s, .int .i64 k, .int .i64 n] w fun e w' => e = .returned (.tuple #[.int .u64 (beNum ((s.data.toList.drop k).take n)), .int .i64 (k + n), .nilIface]) ∧ Below w.heap.size w w' := by
  obtain ⟨c, W1, hrun, hb, hsz, hcell⟩ := to_bytes (s.extract k (k + n)) w
  obtain ⟨l, hl⟩ : ∃ l, l = (s.data.toList.drop k).take n := ⟨_, rfl⟩
  have hlen : l.length = n := by rw [hl]; simp; omega
  have hex : (s.extract k (k + n)).data.toList = l := by rw [hl, extract_toList]; congr 1; omega
  have hes : (s.extract k (k + n)).size = n := by simp [ByteArray.size_extract]; omega
  rw [hex, hes] at hcell
  rw [hes] at hrun
  rw [← hl]
  have hmany : ∀ j, j < n → beNum (l.take j) < 16777216 := by
    intro j hj
    have h1 := beNum_lt (l.take j)
    have h2 : (l.take j).length ≤ 3 := by simp; omega
    exact Nat.lt_of_lt_of_le h1 (Nat.pow_le_pow_right (by omega) h2)
  have Hmany := Lib.hid hmany; clear hmany
  have Hlen := Lib.hid hlen; clear hlen hl
  have Hcell := Lib.hid hcell
  clear hcell hex hes
  go_enter Tryz.func113, Tryz.ntmps113
  go_wp2_with fail
  refine (size_ok _ (by omega) _).mono ?_; rintro e w' ⟨rfl, rfl⟩
  go_wp2_with fail
  go_loop [9, 45] (fun v i => ∃ j : Nat, j ≤ n ∧ i = .int .i64 j ∧ v = .int .u64 (beNum (l.take j))) (fun _ i => n - (intOf i).toNat)
  case atStart => exact ⟨0, Nat.zero_le _, rfl, rfl⟩
  case round =>
    obtain ⟨j, hj, rfl, rfl⟩ := hrel
    by_cases hlt : j < n
    · have hc := Hcell.out j hlt
      have hm := Hmany.out j hlt
      have Hs := Lib.hid (show beNum (l.take (j + 1)) = beNum (l.take j) * 256 + (l.getD j 0).toNat by
        rw [take_snoc_l l 0 j (by rw [Hlen.out]; exact hlt), beNum_snoc])
      generalize l.getD j 0 = b at *
      generalize beNum (l.take j) = v at *
      go_wp2_with fail
      refine ⟨⟨j + 1, by omega, by go_num, ?_⟩, by simp [intOf]; omega⟩
      rw [Hs.out, or_step v hm b]
    · obtain rfl : j = n := by omega
      have Ht := Lib.hid (show l.take j = l by rw [List.take_of_length_le]; rw [Hlen.out]; exact Nat.le_refl _)
      rw [Ht.out]
      go_wp2_with fail
      go_ret3
      exact ⟨rfl, hb⟩

theorem take_size (n : Nat) (hn : n = 1 ∨ n = 2 ∨ n = 4) (s : ByteArray) (hs : s.size ≤ 140737488351232) (k : Nat) (hk : k + n ≤ s.size) (w : World) :
    Calls Tryz.prog 95 #[.string s, .int .i64 k, .int .i64 n] w fun e w' => e = .returned (.tuple #[.int .u64 (beNum ((s.data.toList.drop k).take n)), .int .i64 (k + n), .int .i64 0]) ∧ Below w.heap.size w w' := by
  go_enter Tryz.func95, Tryz.ntmps95
  go_wp2_with fail
  refine (pack_take_inner n hn s hs k hk _).mono ?_; rintro e w1 ⟨rfl, hb⟩
  go_wp2_with fail
  refine (pack_told_nil _).mono ?_; rintro e w2 ⟨rfl, hb2⟩
  go_wp2_with fail
  go_ret3
  exact ⟨rfl, hb.trans (hb2.mono hb.size)⟩

theorem Num1 (v : Int) (h0 : 0 ≤ v) (hv : v < 256) (w : World) :
    Calls Tryz.prog 100 #[.int .u64 v, .int .i64 1] w fun e w' => e = .returned (.tuple #[.string (bs (be 1 v.toNat)), .int .i64 0]) ∧ Below w.heap.size w w' := by
  go_enter Tryz.func100, Tryz.ntmps100
  go_wp2_with fail
  refine (num1 v h0 hv _).mono ?_; rintro e w1 ⟨rfl, hb⟩
  go_wp2_with fail
  refine (pack_told_nil _).mono ?_; rintro e w2 ⟨rfl, hb2⟩
  go_wp2_with fail
  go_ret2
  exact ⟨rfl, hb.trans (hb2.mono hb.size)⟩
theorem Num2 (v : Int) (h0 : 0 ≤ v) (hv : v < 65536) (w : World) :
    Calls Tryz.prog 100 #[.int .u64 v, .int .i64 2] w fun e w' => e = .returned (.tuple #[.string (bs (be 2 v.toNat)), .int .i64 0]) ∧ Below w.heap.size w w' := by
  go_enter Tryz.func100, Tryz.ntmps100
  go_wp2_with fail
  refine (num2 v h0 hv _).mono ?_; rintro e w1 ⟨rfl, hb⟩
  go_wp2_with fail
  refine (pack_told_nil _).mono ?_; rintro e w2 ⟨rfl, hb2⟩
  go_wp2_with fail
  go_ret2
  exact ⟨rfl, hb.trans (hb2.mono hb.size)⟩
theorem Num4 (v : Int) (h0 : 0 ≤ v) (hv : v < 4294967296) (w : World) :
    Calls Tryz.prog 100 #[.int .u64 v, .int .i64 4] w fun e w' => e = .returned (.tuple #[.string (bs (be 4 v.toNat)), .int .i64 0]) ∧ Below w.heap.size w w' := by
  go_enter Tryz.func100, Tryz.ntmps100
  go_wp2_with fail
  refine (num4 v h0 hv _).mono ?_; rintro e w1 ⟨rfl, hb⟩
  go_wp2_with fail
  refine (pack_told_nil _).mono ?_; rintro e w2 ⟨rfl, hb2⟩
  go_wp2_with fail
  go_ret2
  exact ⟨rfl, hb.trans (hb2.mono hb.size)⟩
end Go.Proofs.YtfijhffhlklddaaGreatDoor
