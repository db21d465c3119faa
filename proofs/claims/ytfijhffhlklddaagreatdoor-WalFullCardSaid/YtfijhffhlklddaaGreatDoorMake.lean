/-
  Contracts of package frame: a record's sectors.
-/
import Derived.Test.YtfijhffhlklddaaGreatDoorRd
import Derived.Deep.AppendLies
namespace Go.Proofs.YtfijhffhlklddaaGreatDoor
open Go.RowKit

theorem infoStr : (Tryz.prog.info? 9).map (fun i => (i.zero, i.size, i.bytes)) = some (some (.string ⟨#[]⟩), 1, 16) := by kernel_rfl

/-- The call's own row of strings, and all that was ahead of the call, are as they were. -/
def RowKept (w0 : World) (v : Value) (j : Nat) (xs : List Value) (w' : World) : Prop := w'.ownsRow w0.heap.size 9 1 v j xs ∧ Below w0.heap.size w0 w'
theorem RowKept.call {w0 w1 w2 : World} {v : Value} {j : Nat} {xs : List Value} (hb : Below w1.heap.size w1 w2) (h : RowKept w0 v j xs w1) : RowKept w0 v j xs w2 :=
  ⟨h.1.kept (row := none) ⟨hb.os, hb.tape, hb.output, hb.size, fun k hk _ => hb.block k hk⟩ (by cases v.ownBlock <;> simp), h.2.trans (hb.mono h.2.size)⟩
theorem RowKept.alloc {w0 w1 : World} {v : Value} {j : Nat} {xs : List Value} (h : RowKept w0 v j xs w1) (o : Obj) : RowKept w0 v j xs (w1.alloc o) := ⟨h.1.alloc o, h.2.alloc h.2.size o⟩
theorem RowKept.drew {w0 w1 : World} {v : Value} {j : Nat} {xs : List Value} (h : RowKept w0 v j xs w1) : RowKept w0 v j xs w1.drew := ⟨h.1, h.2.drew⟩
theorem RowKept.row {w0 w1 : World} {v : Value} {j : Nat} {xs : List Value} (h : RowKept w0 v j xs w1) : w1.ownsRow w0.heap.size 9 1 v j xs := h.1
theorem RowKept.le {w0 w1 : World} {v : Value} {j : Nat} {xs : List Value} (h : RowKept w0 v j xs w1) : w0.heap.size ≤ w1.heap.size := h.2.size

set_option maxRecDepth 100000 in
set_option maxHeartbeats 4000000 in
theorem Make_any (E : Errs) (B : Nat) (n : Nat) (l : Bytes) (w : World) (henv : Env E B w) (hn0 : n ≠ 0) (hn : n < 4294967296) (hl : l.length ≤ 2000) :
    Calls Tryz.prog 47 #[.int .u32 n, .string (bs l)] w fun e w' => ∃ v, e = .returned (.tuple #[v, .int .i64 0]) ∧ w'.ownsRow w.heap.size 9 1 v (cntS l.length) ((makeS n l).map fun b => .string (bs b)) ∧ Below w.heap.size w w' := by
  have HE := Lib.hid henv
  clear henv
  have hz : (bs l).size = l.length := bs_size l
  have h1 : ((n : Int) == 0) = false := by rw [beq_eq_false_iff_ne]; omega
  have h2 : decide ((2000 : Int) < l.length) = false := by rw [decide_eq_false_iff_not]; omega
  have q1 : IntKind.u64.wrap (l.length : Int) = l.length := by rw [IntKind.wrap_u64]; omega
  have HN4 := frame_num4 (l.length : Int) (by omega) (by omega)
  rw [Int.toNat_natCast] at HN4
  have s1 : (bs (be 4 l.length)).size = 4 := by rw [bs_size, be_length]
  have hA : bs (be 4 l.length) ++ bs l = bs (bodyS l) := by rw [bs_append]; rfl
  have s2 : (bs (bodyS l)).size = l.length + 4 := by rw [bs_size, bodyS_length]
  have HC := sum_any (bs (bodyS l)) (by rw [s2]; omega)
  rw [bs_data] at HC
  have hcl := crcS_lt (bodyS l)
  have HN4b := frame_num4 (crcS (bodyS l) : Int) (by omega) (by omega)
  rw [Int.toNat_natCast] at HN4b
  have hA2 : bs (bodyS l) ++ bs (be 4 (crcS (bodyS l))) = bs (allS l) := by rw [bs_append]; rfl
  have s3 : (bs (be 4 (crcS (bodyS l)))).size = 4 := by rw [bs_size, be_length]
  have s4 : (bs (allS l)).size = l.length + 8 := by rw [bs_size, allS_length]
  have q2 : IntKind.u64.wrap (crcS (bodyS l) : Int) = crcS (bodyS l) := by rw [IntKind.wrap_u64]; omega
  have HS := frame_size (l.length : Int)
  rw [sizeS_cnt _ hl] at HS
  obtain ⟨cc, hcc⟩ : ∃ cc, cc = cntS l.length := ⟨_, rfl⟩
  have hc1 : 1 ≤ cc := by rw [hcc]; exact cntS_pos _
  have hc2 : cc ≤ 9 := by rw [hcc]; exact cntS_le _ hl
  have hc3 : l.length + 8 ≤ cc * 244 := by rw [hcc]; exact cntS_ge _
  obtain ⟨k, hk⟩ : ∃ k, k = cc * 244 - (l.length + 8) := ⟨_, rfl⟩
  have HZ := repeat_zeros k (by omega)
  have hA3 : bs (allS l) ++ bs (List.replicate k 0) = bs (fullS l) := by rw [bs_append, hk, hcc]; rfl
  have s5 : (bs (List.replicate k 0)).size = k := by rw [bs_size]; simp
  have s6 : (bs (fullS l)).size = cc * 244 := by rw [bs_size, fullS_length, hcc]
  have hk2 : k ≤ 3000 := by omega
  have hki : (k : Int) = (cc : Int) * 244 - ((l.length : Int) + 8) := by omega
  rw [hki] at HZ
  have HK := Lib.hid hk
  clear hki hk
  rw [← hcc] at HS ⊢
  have HCC := Lib.hid hcc
  clear hcc
  obtain ⟨i0, hi, hz0, hz1, hz2⟩ := info_parts infoStr
  have HN := number_any n hn
  have HNc := frame_num2 (cc : Int) (by omega) (by omega)
  rw [Int.toNat_natCast] at HNc
  go_enter Tryz.func47, Tryz.ntmps47
  go_wp2_with fail
  refine (HN4 _).mono ?_; rintro e w1 ⟨rfl, hb1⟩
  go_wp2_with fail
  refine (HC _ (HE.out.grew hb1).crc).mono ?_; rintro e w2 ⟨rfl, rfl⟩
  go_wp2_with fail
  refine (HN4b _).mono ?_; rintro e w2 ⟨rfl, hb2⟩
  have hB2 := hb1.trans (hb2.mono hb1.size)
  clear hb1 hb2
  go_wp2_with fail
  refine (HS _).mono ?_; rintro e w3 ⟨rfl, rfl⟩
  go_wp2_with fail
  refine (HZ _).mono ?_; rintro e w3 ⟨rfl, hb3⟩
  have hB3 := hB2.trans (hb3.mono hB2.size)
  clear hB2 hb3
  clear HN4 HC HN4b HS HZ hA hA2 s1 s2 s3 q2 hcl
  go_wp2_with fail
  clear s4 s5 hA3
  go_loopw [8, 41] (fun v i wr => ∃ j : Nat, j ≤ cc ∧ i = .int .i64 j ∧ wr.ownsRow w.heap.size 9 1 v j (((makeS n l).take j).map fun b => .string (bs b)) ∧ Below w.heap.size w wr)
    (fun _ i _ => cc - (intOf i).toNat)
  case atStart => exact ⟨0, Nat.zero_le _, rfl, World.ownsRow_nil _ _ _ _, hB3⟩
  case round =>
    obtain ⟨j, hj, rfl, hown, hBr⟩ := hrel
    by_cases hlt : j < cc
    · obtain ⟨M, hM⟩ : ∃ M, M = cc * 244 := ⟨_, rfl⟩
      obtain ⟨a0, ha0⟩ : ∃ a0, a0 = j * 244 := ⟨_, rfl⟩
      obtain ⟨a1, ha1⟩ : ∃ a1, a1 = (j + 1) * 244 := ⟨_, rfl⟩
      have y1 : (a0 : Int) ≤ (a1 : Int) := by omega
      have y2 : (a1 : Int) ≤ (M : Int) := by omega
      have y3 : (0 : Int) ≤ (a0 : Int) := by omega
      have y4 : a0 ≤ a1 := by omega
      have y5 : a1 ≤ M := by omega
      rw [← hM] at s6
      have x1 : IntKind.i64.wrap ((j : Int) * 244) = (a0 : Int) := by rw [IntWalk.i64_in _ (by omega)]; omega
      have x2 : IntKind.i64.wrap ((j : Int) + 1) = (j : Int) + 1 := IntWalk.i64_in _ (by omega)
      have x3 : IntKind.i64.wrap (((j : Int) + 1) * 244) = (a1 : Int) := by rw [IntWalk.i64_in _ (by omega)]; omega
      have e0 : (bs (fullS l)).extract a0 a1 = bs (chunk (fullS l) j) := by
        rw [extract_bs, bs_data, ha0, ha1, show (j + 1) * 244 - j * 244 = 244 by omega]; rfl
      clear hM ha0 ha1
      have r3 : IntKind.u64.wrap (j : Int) = j := by rw [IntKind.wrap_u64]; omega
      have r4 : IntKind.u64.wrap (cc : Int) = cc := by rw [IntKind.wrap_u64]; omega
      have HNj := frame_num2 (j : Int) (by omega) (by omega)
      rw [Int.toNat_natCast] at HNj
      obtain ⟨P1, hP1⟩ : ∃ P1, P1 = le4 n ++ be 2 j := ⟨_, rfl⟩
      obtain ⟨P2, hP2⟩ : ∃ P2, P2 = P1 ++ be 2 cc := ⟨_, rfl⟩
      obtain ⟨ck, hck0⟩ : ∃ ck, ck = chunk (fullS l) j := ⟨_, rfl⟩
      obtain ⟨P3, hP3⟩ : ∃ P3, P3 = P2 ++ ck := ⟨_, rfl⟩
      obtain ⟨P4, hP4⟩ : ∃ P4, P4 = sectS n j cc ck := ⟨_, rfl⟩
      have e1 : bs (le4 n) ++ bs (be 2 j) = bs P1 := by rw [bs_append, hP1]
      have e2 : bs P1 ++ bs (be 2 cc) = bs P2 := by rw [bs_append, hP2]
      rw [← hck0] at e0
      have e3 : bs P2 ++ bs ck = bs P3 := by rw [bs_append, hP3]
      have e4 : bs P3 ++ bs (le4 n) = bs P4 := by rw [bs_append, hP4, hP3, hP2, hP1]; rfl
      have hck : ck.length = 244 := by rw [hck0]; exact chunk_length _ j cc (by rw [fullS_length, HCC.out]) hlt
      have z1 : (bs (le4 n)).size = 4 := by rw [bs_size, le4_length]
      have z2 : (bs (be 2 j)).size = 2 := by rw [bs_size, be_length]
      have z3 : (bs (be 2 cc)).size = 2 := by rw [bs_size, be_length]
      have z4 : (bs P1).size = 6 := by rw [bs_size, hP1, List.length_append, le4_length, be_length]
      have z5 : (bs P2).size = 8 := by rw [bs_size, hP2, hP1, List.length_append, List.length_append, le4_length, be_length, be_length]
      have z6 : (bs ck).size = 244 := by rw [bs_size, hck]
      have z7 : (bs P3).size = 252 := by rw [bs_size, hP3, hP2, hP1, List.length_append, List.length_append, List.length_append, le4_length, be_length, be_length, hck]
      have HS := Lib.hid (show (makeS n l).take (j + 1) = (makeS n l).take j ++ [P4] by
        have hj' : j < (makeS n l).length := by rw [makeS_length, ← HCC.out]; exact hlt
        rw [List.take_succ_eq_append_getElem hj']
        congr 1
        simp [makeS, hP4, hck0, HCC.out])
      clear hck hP1 hP2 hP3 hP4 hck0
      go_wp2_with fail
      have hone : ∀ u ∈ [Value.string (bs P4)], u.oneCell' = true := by simp [Value.oneCell']
      have h63 : j + 1 ≤ maxLen := by unfold maxLen; omega
      have hby : (j + 1) * 16 ≤ 140737488355328 := by omega
      have hR : RowKept w u8 j (((makeS n l).take j).map fun b => Value.string (bs b)) wr.drew := ⟨hown, hBr.drew⟩
      go_region_held3 (fun _ => True) (trivial)
        (first
          | (go_at_call 82; refine (HN _).mono ?_; rintro e w4 ⟨rfl, hb4⟩; replace hR := RowKept.call hb4 hR)
          | (go_at_call 79; refine (frame_num2 _ (by omega) (by omega) _).mono ?_; rintro e w4 ⟨rfl, hb4⟩; replace hR := RowKept.call hb4 hR)
          | (refine step_append_lies _ (by rfl) _ _ _ (by rfl) w.heap.size 9 i0 (Value.string ⟨#[]⟩) 1 16 Tryz.underlying34 hi hz0 hz1 hz2 ?k3 Nat.one_pos u8 j (((makeS n l).take j).map fun b => Value.string (bs b)) ?k4 ?ho ⟨w4.heap.size, 0, none⟩ 1 1 [Value.string (bs P4)] ?k5 ?k6 ?hn hone Nat.one_pos h63 hby ?hb (w4.heap.size + 1) ?k7 ?hrest
             case k3 => rfl
             case k4 => rfl
             case k5 => rfl
             case k6 => rfl
             case k7 => simp
             case ho => exact (hR.alloc _).1
             case hn => exact World.news_of_block (cs := #[Value.string (bs P4)]) (t := 9) (fr := (0, 0)) (heap_alloc_new w4 _)
             case hb => exact (hR.alloc _).2.size
             intro g cap w5 hown5 hgrow5 hat5 hlt5))
      have hA5 := hR.alloc (.cells #[.string (bs P4)] 9)
      have hB5 : Below w.heap.size w w5 := hA5.2.grown hgrow5 hA5.2.size (fun k hk => (hA5.1.lt k hk).1)
      have hO5 := Lib.hid hown5
      clear hown5 hgrow5 hat5 hlt5 hA5 hR x1 x2 x3 e0 e1 e2 e3 e4 z1 z2 z3 z4 z5 z6 z7
      go_wp2_with fail
      go_roundw
      case rel =>
        refine ⟨j + 1, by omega, by go_num, ?_, hB5⟩
        rw [HS.out, List.map_append]
        exact hO5.out
      case measure => simp [intOf]; omega
    · obtain rfl : j = cc := by omega
      go_wp2_with fail
      go_ret2
      refine ⟨_, rfl, ?_, hBr⟩
      have : (makeS n l).take j = makeS n l := by rw [List.take_of_length_le]; rw [makeS_length, HCC.out]; omega
      rw [this] at hown
      exact hown
end Go.Proofs.YtfijhffhlklddaaGreatDoor
