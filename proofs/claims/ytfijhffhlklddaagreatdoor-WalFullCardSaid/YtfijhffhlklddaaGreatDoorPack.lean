/-
  Contracts of package pack: numbers as bytes.
-/
import Derived.Test.YtfijhffhlklddaaGreatDoorIs
import Derived.Lib.Hide
import Derived.WalkSpells
import Derived.WalkLawsBesides
namespace Go.Proofs.YtfijhffhlklddaaGreatDoor
open Go.RowKit

/-- A text of bytes. -/
def bs (l : List UInt8) : ByteArray := ⟨l.toArray⟩
theorem bs_data (l : List UInt8) : (bs l).data.toList = l := rfl
theorem bs_size (l : List UInt8) : (bs l).size = l.length := by simp [bs, ByteArray.size]
theorem bs_append (a b : List UInt8) : bs a ++ bs b = bs (a ++ b) := by
  apply ByteArray.ext; simp [bs, ByteArray.data_append]
theorem bs_of (s : ByteArray) : bs s.data.toList = s := by cases s; rfl
theorem bs_inj {a b : List UInt8} (h : bs a = bs b) : a = b := by rw [← bs_data a, h, bs_data]

/-- The n lowest bytes of a number, the highest first. -/
def be : Nat → Nat → List UInt8
  | 0, _ => []
  | n + 1, v => UInt8.ofNat (v / 256 ^ n % 256) :: be n v
theorem be_length (n v : Nat) : (be n v).length = n := by induction n with | zero => rfl | succ n ih => simp [be, ih]

theorem conv_new (ns : List Int) (w : World) : (convert 23 9 (.slice (some ⟨w.heap.size, 0, none⟩) ns.length ns.length)).run Tryz.prog (w.alloc (.cells (ns.map (Value.int .u8)).toArray 5))
    = .ok (.string (strOfNums ns)) (w.alloc (.cells (ns.map (Value.int .u8)).toArray 5)) := by
  refine run_convert_bytes_arg _ 23 5 Tryz.underlying23 Tryz.underlying5 _ _ _ _ ns rfl (fun i hi => ?_) _ Tryz.underlying9
  rw [World.cell?_alloc_at _ _ _ _ (by rfl)]
  simp [List.getD, List.getElem?_eq_getElem hi]

set_option maxHeartbeats 400000 in
theorem size_ok (n : Int) (h : n = 1 ∨ n = 2 ∨ n = 4 ∨ n = 8) (w : World) :
    Calls Tryz.prog 133 #[.int .i64 n] w fun e w' => e = .returned (.bool true) ∧ w = w' := by
  rcases h with rfl | rfl | rfl | rfl
  all_goals
    go_enter Tryz.func133, Tryz.ntmps133
    go_wp2
    go_ret
    exact ⟨rfl, rfl⟩

/-- errors.As(nil, t). -/
theorem as_nil (t : Value) (w : World) :
    Calls Tryz.prog 135 #[.nilIface, t] w fun e w' => e = .returned (.bool false) ∧ w = w' := by
  go_enter Tryz.func135, Tryz.ntmps135
  go_wp2
  go_ret
  exact ⟨rfl, rfl⟩

theorem pack_told_nil (w : World) :
    Calls Tryz.prog 114 #[.nilIface] w fun e w' => e = .returned (.int .i64 0) ∧ Below w.heap.size w w' := by
  go_enter Tryz.func114, Tryz.ntmps114
  go_wp2_with (go_at_call 135; refine (as_nil _ _).mono ?_; rintro e w' ⟨rfl, rfl⟩)
  go_ret
  exact ⟨rfl, (Below.refl _ _).alloc (Nat.le_refl _) _⟩

theorem be1_of (v : Int) (h0 : 0 ≤ v) (hv : v < 256) : strOfNums [v] = bs (be 1 v.toNat) := by
  obtain ⟨n, rfl⟩ := Int.eq_ofNat_of_zero_le h0
  have : n % 256 = n := by omega
  simp [strOfNums, bs, be, this]
theorem be2_of (v : Int) (h0 : 0 ≤ v) (hv : v < 65536) : strOfNums [v / 256, v % 256] = bs (be 2 v.toNat) := by
  obtain ⟨n, rfl⟩ := Int.eq_ofNat_of_zero_le h0
  have h1 : n / 256 % 256 = n / 256 := by omega
  have e1 : ((n : Int) / 256).toNat = n / 256 := by omega
  have e2 : ((n : Int) % 256).toNat = n % 256 := by omega
  simp [strOfNums, bs, be, h1, e1, e2]
theorem be4_of (v : Int) (h0 : 0 ≤ v) (hv : v < 4294967296) : strOfNums [v / 16777216, v / 65536 % 256, v / 256 % 256, v % 256] = bs (be 4 v.toNat) := by
  obtain ⟨n, rfl⟩ := Int.eq_ofNat_of_zero_le h0
  have h1 : n / 16777216 % 256 = n / 16777216 := by omega
  have e1 : ((n : Int) / 16777216).toNat = n / 16777216 := by omega
  have e2 : ((n : Int) / 65536 % 256).toNat = n / 65536 % 256 := by omega
  have e3 : ((n : Int) / 256 % 256).toNat = n / 256 % 256 := by omega
  have e4 : ((n : Int) % 256).toNat = n % 256 := by omega
  simp [strOfNums, bs, be, h1, e1, e2, e3, e4]

set_option maxRecDepth 100000 in
set_option maxHeartbeats 400000 in
theorem num1 (v : Int) (h0 : 0 ≤ v) (hv : v < 256) (w : World) :
    Calls Tryz.prog 116 #[.int .u64 v, .int .i64 1] w fun e w' => e = .returned (.tuple #[.string (bs (be 1 v.toNat)), .nilIface]) ∧ Below w.heap.size w w' := by
  have hmk : ∀ w, (Instr.makeSlice 23 (.int .i64 1) (.int .i64 1)).run Tryz.prog w = .ok (.slice (some ⟨w.heap.size, 0, none⟩) 1 1) (w.alloc (.cells #[.int .u8 0] 5)) := fun _ => by kernel_rfl
  have hz : (v / 256 != 0) = false := by rw [bne_eq_false_iff_eq]; omega
  have hcv : (convert 23 9 (.slice (some ⟨w.heap.size, 0, none⟩) 1 1)).run Tryz.prog (w.alloc (.cells #[.int .u8 v] 5)) = .ok (.string (strOfNums [v])) (w.alloc (.cells #[.int .u8 v] 5)) := conv_new [v] w
  have H := Lib.hid (be1_of v h0 hv)
  go_enter Tryz.func116, Tryz.ntmps116
  go_wp2_with fail
  refine (size_ok _ (by omega) _).mono ?_; rintro e w' ⟨rfl, rfl⟩
  go_wp2_with fail
  refine wp_loop_rounds 2 ?_
  rw [rounds_succ]
  go_wp2_with fail
  rw [rounds_succ]
  go_wp2_with fail
  go_ret2
  exact ⟨congrArg (fun s => Ending.returned (.tuple #[.string s, .nilIface])) H.out, (Below.refl _ _).alloc (Nat.le_refl _) _⟩

set_option maxRecDepth 100000 in
set_option maxHeartbeats 400000 in
theorem num2 (v : Int) (h0 : 0 ≤ v) (hv : v < 65536) (w : World) :
    Calls Tryz.prog 116 #[.int .u64 v, .int .i64 2] w fun e w' => e = .returned (.tuple #[.string (bs (be 2 v.toNat)), .nilIface]) ∧ Below w.heap.size w w' := by
  have hmk : ∀ w, (Instr.makeSlice 23 (.int .i64 2) (.int .i64 2)).run Tryz.prog w = .ok (.slice (some ⟨w.heap.size, 0, none⟩) 2 2) (w.alloc (.cells #[.int .u8 0, .int .u8 0] 5)) := fun _ => by kernel_rfl
  have hz : (v / 65536 != 0) = false := by rw [bne_eq_false_iff_eq]; omega
  have hcv : (convert 23 9 (.slice (some ⟨w.heap.size, 0, none⟩) 2 2)).run Tryz.prog (w.alloc (.cells #[.int .u8 (v / 256), .int .u8 (v % 256)] 5)) = .ok (.string (strOfNums [v / 256, v % 256])) (w.alloc (.cells #[.int .u8 (v / 256), .int .u8 (v % 256)] 5)) := conv_new [v / 256, v % 256] w
  have H := Lib.hid (be2_of v h0 hv)
  go_enter Tryz.func116, Tryz.ntmps116
  go_wp2_with fail
  refine (size_ok _ (by omega) _).mono ?_; rintro e w' ⟨rfl, rfl⟩
  go_wp2_with fail
  refine wp_loop_rounds 3 ?_
  rw [rounds_succ]
  go_wp2_with fail
  rw [rounds_succ]
  go_wp2_with fail
  rw [rounds_succ]
  go_wp2_with fail
  go_ret2
  exact ⟨congrArg (fun s => Ending.returned (.tuple #[.string s, .nilIface])) H.out, (Below.refl _ _).alloc (Nat.le_refl _) _⟩

set_option maxRecDepth 100000 in
set_option maxHeartbeats 400000 in
theorem num4 (v : Int) (h0 : 0 ≤ v) (hv : v < 4294967296) (w : World) :
    Calls Tryz.prog 116 #[.int .u64 v, .int .i64 4] w fun e w' => e = .returned (.tuple #[.string (bs (be 4 v.toNat)), .nilIface]) ∧ Below w.heap.size w w' := by
  have hmk : ∀ w, (Instr.makeSlice 23 (.int .i64 4) (.int .i64 4)).run Tryz.prog w = .ok (.slice (some ⟨w.heap.size, 0, none⟩) 4 4) (w.alloc (.cells #[.int .u8 0, .int .u8 0, .int .u8 0, .int .u8 0] 5)) := fun _ => by kernel_rfl
  have hz : (v / 4294967296 != 0) = false := by rw [bne_eq_false_iff_eq]; omega
  have hcv : (convert 23 9 (.slice (some ⟨w.heap.size, 0, none⟩) 4 4)).run Tryz.prog (w.alloc (.cells #[.int .u8 (v / 16777216), .int .u8 (v / 65536 % 256), .int .u8 (v / 256 % 256), .int .u8 (v % 256)] 5)) = .ok (.string (strOfNums [v / 16777216, v / 65536 % 256, v / 256 % 256, v % 256])) (w.alloc (.cells #[.int .u8 (v / 16777216), .int .u8 (v / 65536 % 256), .int .u8 (v / 256 % 256), .int .u8 (v % 256)] 5)) := conv_new [v / 16777216, v / 65536 % 256, v / 256 % 256, v % 256] w
  have H := Lib.hid (be4_of v h0 hv)
  go_enter Tryz.func116, Tryz.ntmps116
  go_wp2_with fail
  refine (size_ok _ (by omega) _).mono ?_; rintro e w' ⟨rfl, rfl⟩
  go_wp2_with fail
  refine wp_loop_rounds 5 ?_
  rw [rounds_succ]
  go_wp2_with fail
  rw [rounds_succ]
  go_wp2_with fail
  rw [rounds_succ]
  go_wp2_with fail
  rw [rounds_succ]
  go_wp2_with fail
  rw [rounds_succ]
  go_wp2_with fail
  go_ret2
  exact ⟨congrArg (fun s => Ending.returned (.tuple #[.string s, .nilIface])) H.out, (Below.refl _ _).alloc (Nat.le_refl _) _⟩
end Go.Proofs.YtfijhffhlklddaaGreatDoor
