/-
  Contracts of package frame: a sector's piece.
-/
import Derived.Test.YtfijhffhlklddaaGreatDoorEnv
import Derived.Deep.RegionHeld3
namespace Go.Proofs.YtfijhffhlklddaaGreatDoor
open Go.RowKit

/-- What comes of a piece. -/
def PieceEnd (E : Errs) (r : Option Bytes) (e : Ending) : Prop :=
  match r with
  | some p => e = .returned (.tuple #[.string (bs p), .nilIface])
  | none => e = .returned (.tuple #[.string ⟨#[]⟩, sent E.torn]) ∨ e = .returned (.tuple #[.string ⟨#[]⟩, sent E.other])

set_option maxRecDepth 100000 in
set_option maxHeartbeats 1000000 in
theorem piece_torn (E : Errs) (B : Nat) (b : ByteArray) (n i c : Nat) (w : World) (henv : Env E B w) (h : n = 0 ∨ numS b.data.toList = 0) (hn : n < 4294967296) :
    Calls Tryz.prog 96 #[.string b, .int .u32 n, .int .i64 i, .int .i64 c] w fun e w' => e = .returned (.tuple #[.string ⟨#[]⟩, sent E.torn]) ∧ Below w.heap.size w w' := by
  have c1 := henv.torn.1
  clear henv
  by_cases h0 : n = 0
  · subst h0
    clear h hn
    go_enter Tryz.func96, Tryz.ntmps96
    go_wp2_with fail
    go_quiet (fail)
    go_wp2_with fail
    go_ret2
    exact ⟨rfl, below_drewN _ _⟩
  · have hz : numS b.data.toList = 0 := by rcases h with h | h; exact absurd h h0; exact h
    have h1 : ((n : Int) == 0) = false := by rw [beq_eq_false_iff_ne]; omega
    clear h
    have HN := frame_Num b
    rw [hz] at HN
    go_enter Tryz.func96, Tryz.ntmps96
    go_wp2_with fail
    refine (HN _).mono ?_; rintro e w1 ⟨rfl, m, rfl⟩
    go_wp2_with fail
    go_quiet (fail)
    go_wp2_with fail
    go_ret2
    exact ⟨rfl, (below_drewN _ _).trans (below_drewN _ _)⟩

set_option maxRecDepth 100000 in
set_option maxHeartbeats 1000000 in
theorem piece_other (E : Errs) (B : Nat) (b : ByteArray) (n i c : Nat) (w : World) (henv : Env E B w) (h0 : n ≠ 0) (hz : numS b.data.toList ≠ 0) (hne : numS b.data.toList ≠ n) :
    Calls Tryz.prog 96 #[.string b, .int .u32 n, .int .i64 i, .int .i64 c] w fun e w' => e = .returned (.tuple #[.string ⟨#[]⟩, sent E.other]) ∧ Below w.heap.size w w' := by
  have c1 := henv.other.1
  clear henv
  have HN := frame_Num b
  have h1 : ((n : Int) == 0) = false := by rw [beq_eq_false_iff_ne]; omega
  generalize numS b.data.toList = k at hz hne HN
  have h2 : ((k : Int) == 0) = false := by rw [beq_eq_false_iff_ne]; omega
  have h3 : ((k : Int) != n) = true := by rw [bne_iff_ne]; omega
  clear h0 hz hne
  go_enter Tryz.func96, Tryz.ntmps96
  go_wp2_with fail
  refine (HN _).mono ?_; rintro e w1 ⟨rfl, m, rfl⟩
  go_wp2_with fail
  obtain ⟨w1, hw1⟩ : ∃ w1, w1 = w.drewN m := ⟨_, rfl⟩
  have c1 : w1.cell? ⟨2, 0, none⟩ = some (sent E.other) := by rw [hw1]; exact c1
  rw [← hw1]
  have HW := Lib.hid hw1
  clear hw1
  go_quiet ((go_at_call 77; exact Calls.quiet_of (HN _)))
  go_wp2_with fail
  obtain ⟨w2, hw2⟩ : ∃ w2, w2 = w1.drewN nq := ⟨_, rfl⟩
  have c1 : w2.cell? ⟨2, 0, none⟩ = some (sent E.other) := by rw [hw2]; exact c1
  rw [← hw2]
  have HW2 := Lib.hid hw2
  clear hw2
  go_quiet (fail)
  go_wp2_with fail
  go_ret2
  exact ⟨rfl, by rw [HW2.out, HW.out]; exact ((below_drewN _ _).trans (below_drewN _ _)).trans (below_drewN _ _)⟩

set_option maxRecDepth 100000 in
set_option maxHeartbeats 1000000 in
theorem piece_ok (E : Errs) (B : Nat) (b : ByteArray) (n i c : Nat) (w : World) (henv : Env E B w) (h0 : n ≠ 0) (hn : numS b.data.toList = n) (hs : b.size = 256) (hi : i < 65536) (hc : c < 65536)
    (hq : ((b.extract 4 8).toList == (bs (be 2 i) ++ bs (be 2 c)).toList) = true) :
    Calls Tryz.prog 96 #[.string b, .int .u32 n, .int .i64 i, .int .i64 c] w fun e w' => e = .returned (.tuple #[.string (b.extract 8 252), .nilIface]) ∧ Below w.heap.size w w' := by
  have HE := Lib.hid henv
  clear henv
  have HN := frame_Num b
  rw [hn] at HN
  clear hn
  have h1 : ((n : Int) == 0) = false := by rw [beq_eq_false_iff_ne]; omega
  have g1 : b.size ≤ 256 := by omega
  have g2 : 256 ≤ b.size := by omega
  clear h0 hs
  have q1 : IntKind.u64.wrap (i : Int) = i := by rw [IntKind.wrap_u64]; omega
  have q2 : IntKind.u64.wrap (c : Int) = c := by rw [IntKind.wrap_u64]; omega
  have q3 : (8 : Int) ≤ b.size := by omega
  have q4 : (252 : Int) ≤ b.size := by omega
  have q5 : ¬ 9223372036854775807 < (bs (be 2 i)).size + (bs (be 2 c)).size := by rw [bs_size, bs_size, be_length, be_length]; omega
  go_enter Tryz.func96, Tryz.ntmps96
  go_wp2_with fail
  refine (HN _).mono ?_; rintro e w1 ⟨rfl, m, rfl⟩
  go_wp2_with fail
  go_region_held3 (fun _ => True) (trivial) (first
    | (go_at_call 77; refine (HN _).mono ?_; rintro e w1 ⟨rfl, m1, rfl⟩)
    | (go_at_call 79; refine (frame_num2 _ (by omega) (by omega) _).mono ?_; rintro e w1 ⟨rfl, hb1⟩))
  rename_i WA hA hT
  clear hT
  have hB : Below w.heap.size w w1 := (((below_drewN w (m + 1 + m1)).trans hA)).trans (hb1.mono hA.size)
  go_wp2_with fail
  go_ret2
  exact ⟨rfl, hB⟩

set_option maxRecDepth 100000 in
set_option maxHeartbeats 1000000 in
theorem piece_bad (E : Errs) (B : Nat) (b : ByteArray) (n i c : Nat) (w : World) (henv : Env E B w) (h0 : n ≠ 0) (hn : numS b.data.toList = n) (hs : b.size = 256) (hi : i < 65536) (hc : c < 65536)
    (hq : ((b.extract 4 8).toList == (bs (be 2 i) ++ bs (be 2 c)).toList) = false) :
    Calls Tryz.prog 96 #[.string b, .int .u32 n, .int .i64 i, .int .i64 c] w fun e w' => e = .returned (.tuple #[.string ⟨#[]⟩, sent E.other]) ∧ Below w.heap.size w w' := by
  have HE := Lib.hid henv
  clear henv
  have HN := frame_Num b
  rw [hn] at HN
  clear hn
  have h1 : ((n : Int) == 0) = false := by rw [beq_eq_false_iff_ne]; omega
  have g1 : b.size ≤ 256 := by omega
  have g2 : 256 ≤ b.size := by omega
  clear h0 hs
  have q1 : IntKind.u64.wrap (i : Int) = i := by rw [IntKind.wrap_u64]; omega
  have q2 : IntKind.u64.wrap (c : Int) = c := by rw [IntKind.wrap_u64]; omega
  have q3 : (8 : Int) ≤ b.size := by omega
  have q4 : (252 : Int) ≤ b.size := by omega
  have q5 : ¬ 9223372036854775807 < (bs (be 2 i)).size + (bs (be 2 c)).size := by rw [bs_size, bs_size, be_length, be_length]; omega
  go_enter Tryz.func96, Tryz.ntmps96
  go_wp2_with fail
  refine (HN _).mono ?_; rintro e w1 ⟨rfl, m, rfl⟩
  go_wp2_with fail
  go_region_held3 (fun _ => True) (trivial) (first
    | (go_at_call 77; refine (HN _).mono ?_; rintro e w1 ⟨rfl, m1, rfl⟩)
    | (go_at_call 79; refine (frame_num2 _ (by omega) (by omega) _).mono ?_; rintro e w1 ⟨rfl, hb1⟩))
  rename_i WA hA hT
  clear hT
  have hB : Below w.heap.size w w1 := (((below_drewN w (m + 1 + m1)).trans hA)).trans (hb1.mono hA.size)
  have c1 := (HE.out.grew hB).other.1
  go_wp2_with fail
  go_quiet (fail)
  go_wp2_with fail
  go_ret2
  exact ⟨rfl, hB.trans (below_drewN _ _)⟩

theorem numS_size {b : ByteArray} (h : numS b.data.toList ≠ 0) : b.size = 256 := by
  unfold numS at h
  split at h
  · rename_i hh; simpa using hh.1
  · exact absurd rfl h
theorem extract_bs (b : ByteArray) (i j : Nat) : b.extract i j = bs ((b.data.toList.drop i).take (j - i)) := by
  rw [← extract_toList, bs_of]

/-- piece: of a whole sector of this record at this place its piece, else an error. -/
theorem piece_any (E : Errs) (B : Nat) (b : ByteArray) (n i c : Nat) (w : World) (henv : Env E B w) (hn : n < 4294967296) (hi : i < 65536) (hc : c < 65536) :
    Calls Tryz.prog 96 #[.string b, .int .u32 n, .int .i64 i, .int .i64 c] w fun e w' => PieceEnd E (pieceS b.data.toList n i c) e ∧ Below w.heap.size w w' := by
  unfold pieceS
  by_cases h0 : n = 0 ∨ numS b.data.toList = 0
  · rw [if_neg (by rintro ⟨h1, h2, _⟩; rcases h0 with h0 | h0; exact h1 h0; exact h1 (by omega))]
    exact (piece_torn E B b n i c w henv h0 hn).mono fun _ _ h => ⟨.inl h.1, h.2⟩
  · have h1 : n ≠ 0 := fun e => h0 (.inl e)
    have h2 : numS b.data.toList ≠ 0 := fun e => h0 (.inr e)
    by_cases h3 : numS b.data.toList = n
    · have hs := numS_size h2
      have e1 : ((b.extract 4 8).toList == (bs (be 2 i) ++ bs (be 2 c)).toList) = decide ((b.data.toList.drop 4).take 4 = be 2 i ++ be 2 c) := by
        rw [eq_str, extract_toList, bs_append, bs_data]
      by_cases h4 : (b.data.toList.drop 4).take 4 = be 2 i ++ be 2 c
      · rw [if_pos ⟨h1, h3, h4⟩]
        refine (piece_ok E B b n i c w henv h1 h3 hs hi hc (by rw [e1]; exact decide_eq_true h4)).mono fun _ _ h => ⟨?_, h.2⟩
        rw [h.1, extract_bs]; rfl
      · rw [if_neg (fun h => h4 h.2.2)]
        exact (piece_bad E B b n i c w henv h1 h3 hs hi hc (by rw [e1]; exact decide_eq_false h4)).mono fun _ _ h => ⟨.inr h.1, h.2⟩
    · rw [if_neg (fun h => h3 h.2.1)]
      exact (piece_other E B b n i c w henv h1 h2 h3).mono fun _ _ h => ⟨.inr h.1, h.2⟩

end Go.Proofs.YtfijhffhlklddaaGreatDoor
