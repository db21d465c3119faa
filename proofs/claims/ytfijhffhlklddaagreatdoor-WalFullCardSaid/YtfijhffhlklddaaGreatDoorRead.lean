/-
  Contracts of package frame: the record with which sectors begin.
-/
import Derived.Test.YtfijhffhlklddaaGreatDoorText
namespace Go.Proofs.YtfijhffhlklddaaGreatDoor
open Go.RowKit

abbrev byt (s : ByteArray) : Bytes := s.data.toList
/-- Strings lie in a row. -/
def StrsAt (w : World) (g off : Nat) (ss : List ByteArray) : Prop := g < w.heap.size ∧ ∀ j, j < ss.length → w.cell? ⟨g, off + j, none⟩ = some (.string (ss.getD j ByteArray.empty))
theorem StrsAt.below {w w' : World} {g off : Nat} {ss : List ByteArray} (h : StrsAt w g off ss) (hb : Below w.heap.size w w') : StrsAt w' g off ss :=
  ⟨Nat.lt_of_lt_of_le h.1 hb.size, fun j hj => (hb.cell (p := ⟨g, off + j, none⟩) h.1).trans (h.2 j hj)⟩

def ReadEnd (E : Errs) (r : Option (Bytes × Nat × Nat)) (e : Ending) : Prop :=
  match r with
  | some (s, _, n) => e = .returned (.tuple #[.string (bs s), .int .i64 n, .nilIface])
  | none => ∃ (s : ByteArray) (n : Nat) (a : Addr), (a = E.torn ∨ a = E.other ∨ a = E.sum) ∧ e = .returned (.tuple #[.string s, .int .i64 n, sent a])

set_option maxRecDepth 100000 in
set_option maxHeartbeats 1000000 in
theorem read_torn (E : Errs) (B : Nat) (ss : List ByteArray) (g off cap : Nat) (w : World) (henv : Env E B w) (h0 : 0 < ss.length) (hs : StrsAt w g off ss) (hm : ss.length ≤ 100000)
    (x : ByteArray) (hx : x = ss.getD 0 ByteArray.empty) (hz : numS (byt x) = 0) :
    Calls Tryz.prog 75 #[.slice (some ⟨g, off, none⟩) ss.length cap] w fun e w' => e = .returned (.tuple #[.string ⟨#[]⟩, .int .i64 0, sent E.torn]) ∧ Below w.heap.size w w' := by
  have HE := Lib.hid henv
  clear henv
  have c0 : w.cell? ⟨g, off, none⟩ = some (.string x) := by rw [hx]; exact hs.2 0 h0
  have HN := frame_Num x
  rw [hz] at HN
  have h1 : ((ss.length : Int) == 0) = false := by rw [beq_eq_false_iff_ne]; omega
  clear hx hz hs
  go_enter Tryz.func75, Tryz.ntmps75
  go_wp2_with fail
  refine (HN _).mono ?_; rintro e w1 ⟨rfl, m, rfl⟩
  obtain ⟨w1, hw1⟩ : ∃ w1, w1 = w.drewN m := ⟨_, rfl⟩
  rw [← hw1]
  have hB : Below w.heap.size w w1 := by rw [hw1]; exact below_drewN _ _
  clear hw1
  have c1 := (HE.out.grew hB).torn.1
  go_wp2_with fail
  go_quiet (fail)
  go_wp2_with fail
  go_ret3
  exact ⟨rfl, hB.trans (below_drewN _ _)⟩

theorem beNum2 (l : Bytes) : beNum (l.take 2) < 65536 :=
  Nat.lt_of_lt_of_le (beNum_lt _) (Nat.le_trans (Nat.pow_le_pow_right (n := 256) (by omega) (show (l.take 2).length ≤ 2 by rw [List.length_take]; omega)) (by decide))

set_option maxRecDepth 100000 in
set_option maxHeartbeats 1000000 in
theorem read_size (E : Errs) (B : Nat) (ss : List ByteArray) (g off cap : Nat) (w : World) (henv : Env E B w) (h0 : 0 < ss.length) (hs : StrsAt w g off ss) (hm : ss.length ≤ 100000)
    (x : ByteArray) (hx : x = ss.getD 0 ByteArray.empty) (n c : Nat) (hn : n = numS (byt x)) (hn0 : n ≠ 0) (hc : c = beNum (((byt x).drop 6).take 2)) (hbad : c < 1 ∨ ss.length < c) :
    Calls Tryz.prog 75 #[.slice (some ⟨g, off, none⟩) ss.length cap] w fun e w' => e = .returned (.tuple #[.string ⟨#[]⟩, .int .i64 0, sent E.other]) ∧ Below w.heap.size w w' := by
  have HE := Lib.hid henv
  clear henv
  have HS := Lib.hid hs
  have c0 : w.cell? ⟨g, off, none⟩ = some (.string x) := by rw [hx]; exact hs.2 0 h0
  have H0 := Lib.hid h0
  have HX := Lib.hid hx
  have hxs := numS_size (b := x) (by rw [← hn]; exact hn0)
  have HN := frame_Num x
  rw [← hn] at HN
  have HT := take_size 2 (by omega) x (by omega) 6 (by omega)
  rw [← hc] at HT
  have h1 : ((ss.length : Int) == 0) = false := by rw [beq_eq_false_iff_ne]; omega
  have h2 : ((n : Int) == 0) = false := by rw [beq_eq_false_iff_ne]; omega
  have hc2 : c < 65536 := by rw [hc]; exact beNum2 _
  clear hx hn hn0 hs hc hxs
  by_cases h3 : c = 0
  · subst h3
    clear hbad
    go_enter Tryz.func75, Tryz.ntmps75
    go_wp2_with fail
    refine (HN _).mono ?_; rintro e w1 ⟨rfl, m, rfl⟩
    obtain ⟨w1, hw1⟩ : ∃ w1, w1 = w.drewN m := ⟨_, rfl⟩
    rw [← hw1]
    have hB : Below w.heap.size w w1 := by rw [hw1]; exact below_drewN _ _
    clear hw1
    have c1 : w1.cell? ⟨g, off, none⟩ = some (.string x) := by rw [HX.out]; exact (HS.out.below hB).2 0 H0.out
    go_wp2_with fail
    refine (HT _).mono ?_; rintro e w2 ⟨rfl, hb2⟩
    have hB2 := hB.trans (hb2.mono hB.size)
    have c2 := (HE.out.grew hB2).other.1
    go_wp2_with fail
    go_quiet (fail)
    go_wp2_with fail
    go_ret3
    exact ⟨rfl, hB2.trans (below_drewN _ _)⟩
  · have h4 : ¬ (c : Int) < 1 := by omega
    have h5 : (ss.length : Int) < c := by omega
    clear hbad
    go_enter Tryz.func75, Tryz.ntmps75
    go_wp2_with fail
    refine (HN _).mono ?_; rintro e w1 ⟨rfl, m, rfl⟩
    obtain ⟨w1, hw1⟩ : ∃ w1, w1 = w.drewN m := ⟨_, rfl⟩
    rw [← hw1]
    have hB : Below w.heap.size w w1 := by rw [hw1]; exact below_drewN _ _
    clear hw1
    have c1 : w1.cell? ⟨g, off, none⟩ = some (.string x) := by rw [HX.out]; exact (HS.out.below hB).2 0 H0.out
    go_wp2_with fail
    refine (HT _).mono ?_; rintro e w2 ⟨rfl, hb2⟩
    have hB2 := hB.trans (hb2.mono hB.size)
    have c2 := (HE.out.grew hB2).other.1
    go_wp2_with fail
    go_quiet (fail)
    go_wp2_with fail
    go_ret3
    exact ⟨rfl, hB2.trans (below_drewN _ _)⟩

/-- What is read of sectors whose first one says the number n and c sectors. -/
def readRes (n c : Nat) (l : List Bytes) : Option (Bytes × Nat × Nat) :=
  match piecesS n c l 0 with
  | none => none
  | some all => (textS all c).map fun s => (s, n, c)

/-- A builder stays while new blocks alone are made. -/
theorem isB_below {q b : Nat} {l : Bytes} {w w' : World} (h : IsB q b l w) (hb : Below w.heap.size w w') : IsB q b l w' := by
  have key : ∀ p, Lib.BuilderAt 146 5 q b p (Lib.byteCells l) w → Lib.BuilderAt 146 5 q b p (Lib.byteCells l) w' := by
    intro p hp
    have hlt := hp.lt
    obtain ⟨h1, v, h2, h3, h4⟩ := hp
    refine ⟨h1, v, (hb.block b hlt).trans h2, ?_, h4⟩
    exact h3.kept (row := none) ⟨hb.os, hb.tape, hb.output, hb.size, fun k hk _ => hb.block k hk⟩ (by cases v.ownBlock <;> simp)
  rcases h with h | h
  · exact .inl (key _ h)
  · exact .inr (key _ h)

set_option maxRecDepth 100000 in
set_option maxHeartbeats 4000000 in
theorem read_loop (E : Errs) (B : Nat) (ss : List ByteArray) (g off cap : Nat) (w : World) (henv : Env E B w) (h0 : 0 < ss.length) (hs : StrsAt w g off ss) (hm : ss.length ≤ 100000) (hcap : ss.length ≤ cap)
    (x : ByteArray) (hx : x = ss.getD 0 ByteArray.empty) (n c : Nat) (hn : n = numS (byt x)) (hn0 : n ≠ 0) (hc : c = beNum (((byt x).drop 6).take 2)) (hc0 : 1 ≤ c) (hc1 : c ≤ ss.length)
    (l : List Bytes) (hl : l = (ss.map byt).take c) :
    Calls Tryz.prog 75 #[.slice (some ⟨g, off, none⟩) ss.length cap] w fun e w' => ReadEnd E (readRes n c l) e ∧ Below w.heap.size w w' := by
  have HE := Lib.hid henv
  clear henv
  have HS := Lib.hid hs
  have c0 : w.cell? ⟨g, off, none⟩ = some (.string x) := by rw [hx]; exact hs.2 0 h0
  have H0 := Lib.hid h0
  have HX := Lib.hid hx
  have hxs := numS_size (b := x) (by rw [← hn]; exact hn0)
  have hnl : n < 4294967296 := by rw [hn]; exact numS_lt _
  have HN := frame_Num x
  rw [← hn] at HN
  have HT := take_size 2 (by omega) x (by omega) 6 (by omega)
  rw [← hc] at HT
  have h1 : ((ss.length : Int) == 0) = false := by rw [beq_eq_false_iff_ne]; omega
  have h2 : ((n : Int) == 0) = false := by rw [beq_eq_false_iff_ne]; omega
  have hc2 : c < 65536 := by rw [hc]; exact beNum2 _
  have h4 : decide ((c : Int) < 1) = false := by rw [decide_eq_false_iff_not]; omega
  have h5 : decide (ss.length < c) = false := by rw [decide_eq_false_iff_not]; omega
  have h6 : (c : Int) ≤ cap := by omega
  have HL := Lib.hid hl
  clear hx hn hn0 hs hc hxs hl
  go_enter Tryz.func75, Tryz.ntmps75
  go_wp2_with fail
  refine (HN _).mono ?_; rintro e w1 ⟨rfl, m, rfl⟩
  obtain ⟨w1, hw1⟩ : ∃ w1, w1 = w.drewN m := ⟨_, rfl⟩
  rw [← hw1]
  have hB : Below w.heap.size w w1 := by rw [hw1]; exact below_drewN _ _
  clear hw1
  have c1 : w1.cell? ⟨g, off, none⟩ = some (.string x) := by rw [HX.out]; exact (HS.out.below hB).2 0 H0.out
  go_wp2_with fail
  refine (HT _).mono ?_; rintro e w2 ⟨rfl, hb2⟩
  have hB2 := hB.trans (hb2.mono hB.size)
  go_wp2_with fail
  obtain ⟨q, hq⟩ : ∃ q, q = w2.heap.size := ⟨_, rfl⟩
  have hqw : w.heap.size ≤ q := by rw [hq]; exact hB2.size
  have HI0 : IsB q q [] (w2.alloc (.cells #[.pointer none, .slice none 0 0] 146)) := by rw [hq]; exact Lib.fresh_isBuilder _ _ w2
  have HB0 : Below q w2 (w2.alloc (.cells #[.pointer none, .slice none 0 0] 146)) := by rw [hq]; exact (Below.refl _ _).alloc (Nat.le_refl _) _
  have HZ0 : q ≤ (w2.alloc (.cells #[.pointer none, .slice none 0 0] 146)).heap.size := by rw [hq]; simp
  have HP0 := Lib.hid (show piecesS n c l 0 = (piecesS n c (l.drop 0) 0).map ([] ++ ·) by simp)
  rw [← hq]
  clear hq
  have hll : l.length = c := by rw [HL.out]; simp; omega
  have HLL := Lib.hid hll
  clear hll
  go_loopw [48] (fun i wr => ∃ (j : Nat) (acc : Bytes), j ≤ c ∧ i = .int .i64 j ∧ IsB q q acc wr ∧ Below q w2 wr ∧ q ≤ wr.heap.size ∧ Hid (piecesS n c l 0 = (piecesS n c (l.drop j) j).map (acc ++ ·)) ∧ acc.length = j * 244)
    (fun i _ => c - (intOf i).toNat)
  case atStart => exact ⟨0, [], Nat.zero_le _, rfl, HI0, HB0, HZ0, HP0, rfl⟩
  case round =>
    clear HI0 HB0 HZ0 HP0
    obtain ⟨j, acc, hj, rfl, hI, hBr, hqr, HP, hal⟩ := hrel
    have hBw : Below w.heap.size w wr := hB2.trans (hBr.mono hqw)
    by_cases hlt : j < c
    · obtain ⟨s, hs⟩ : ∃ s, s = ss.getD j ByteArray.empty := ⟨_, rfl⟩
      have cj : wr.cell? ⟨g, off + j, none⟩ = some (.string s) := by rw [hs]; exact (HS.out.below hBw).2 j (by omega)
      have cx : wr.cell? ⟨g, off, none⟩ = some (.string x) := by rw [HX.out]; exact (HS.out.below hBw).2 0 H0.out
      have hdrop := Lib.hid (show l.drop j = byt s :: l.drop (j + 1) by
        have hjl : j < l.length := by rw [HLL.out]; exact hlt
        rw [List.drop_eq_getElem_cons hjl]
        congr 1
        have : l[j]? = some (byt s) := by
          rw [HL.out, List.getElem?_take, if_pos hlt, List.getElem?_map, List.getElem?_eq_getElem (by omega), hs]
          simp [List.getD, List.getElem?_eq_getElem (show j < ss.length by omega)]
        rw [List.getElem?_eq_getElem hjl] at this
        exact Option.some.inj this)
      clear hs
      go_wp2_with fail
      refine (HN _).mono ?_; rintro e w3 ⟨rfl, m3, rfl⟩
      obtain ⟨w3, hw3⟩ : ∃ w3, w3 = wr.drewN m3 := ⟨_, rfl⟩
      rw [← hw3]
      have hB3 : Below wr.heap.size wr w3 := by rw [hw3]; exact below_drewN _ _
      have hI3 : IsB q q acc w3 := by rw [hw3]; exact hI
      clear hw3 hI
      go_wp2_with fail
      refine (piece_any E B s n j c _ (HE.out.grew (hBw.trans (hB3.mono hBw.size))) hnl (by omega) hc2).mono ?_
      rintro e w4 ⟨he, hb4⟩
      have hB4 : Below wr.heap.size wr w4 := hB3.trans (hb4.mono hB3.size)
      have hI4 : IsB q q acc w4 := isB_below hI3 hb4
      have hBr4 : Below q w2 w4 := hBr.trans (hB4.mono hqr)
      have hq4 : q ≤ w4.heap.size := Nat.le_trans hqr hB4.size
      have hBw4 : Below w.heap.size w w4 := hB2.trans (hBr4.mono hqw)
      clear hI3 hB3 hb4 hB4 hBr hqr hBw
      cases hpc : pieceS (byt s) n j c with
      | none =>
        rw [hpc] at he
        have HR := Lib.hid (show readRes n c l = none by rw [readRes, HP.out, hdrop.out, piecesS, hpc]; rfl)
        rcases he with rfl | rfl
        · go_wp2_with fail
          go_ret3
          exact ⟨by rw [HR.out]; exact ⟨_, 0, _, .inl rfl, rfl⟩, hBw4⟩
        · go_wp2_with fail
          go_ret3
          exact ⟨by rw [HR.out]; exact ⟨_, 0, _, .inr (.inl rfl), rfl⟩, hBw4⟩
      | some p =>
        rw [hpc] at he
        subst he
        have hpl : p.length = 244 := by
          unfold pieceS at hpc
          split at hpc
          · rename_i hh
            have := numS_size (b := s) (by rw [hh.2.1]; exact hh.1)
            cases hpc
            simp; omega
          · cases hpc
        have HE' := Lib.hid (show piecesS n c l 0 = (piecesS n c (l.drop (j + 1)) (j + 1)).map ((acc ++ p) ++ ·) by
          rw [HP.out, hdrop.out, piecesS, hpc]
          simp only [Option.map_map]
          congr 1
          funext z
          simp)
        clear hpc
        have HPL := Lib.hid hpl
        clear hpl
        go_wp2_with fail
        refine (writeString q q acc (bs p) _ hI4 (by rw [bs_size, HPL.out, hal]; omega) hq4).mono ?_
        rintro e w5 ⟨rfl, hI5, hb5⟩
        have hBr5 : Below q w2 w5 := hBr4.trans hb5
        have hq5 : q ≤ w5.heap.size := Nat.le_trans hq4 hb5.size
        rw [bs_data] at hI5
        clear hI4 hBr4 hq4
        go_wp2_with fail
        go_roundw
        case rel => exact ⟨j + 1, acc ++ p, by omega, by go_num, hI5, hBr5, hq5, HE', by rw [List.length_append, HPL.out, hal]; omega⟩
        case measure => simp [intOf]; omega
    · obtain rfl : j = c := by omega
      have HE' := Lib.hid (show piecesS n j l 0 = some acc by
        rw [HP.out, List.drop_eq_nil_of_le (by rw [HLL.out]; omega), piecesS]; simp)
      clear HP
      go_wp2_with fail
      refine (builderString q q acc _ hI hqr).mono ?_
      rintro e w5 ⟨rfl, hb5⟩
      have hBr5 : Below q w2 w5 := hBr.trans hb5
      have hBw5 : Below w.heap.size w w5 := hB2.trans (hBr5.mono hqw)
      go_wp2_with fail
      refine (text_any E B (bs acc) j _ (HE.out.grew hBw5) hc0 (by omega) (by rw [bs_size, hal])).mono ?_
      rintro e w6 ⟨he, hb6⟩
      have hBw6 := hBw5.trans (hb6.mono hBw5.size)
      rw [bs_data] at he
      cases ht : textS acc j with
      | none =>
        rw [ht] at he
        have HR := Lib.hid (show readRes n j l = none by rw [readRes, HE'.out]; simp only [ht]; rfl)
        clear ht
        rcases he with rfl | rfl
        · go_wp2_with fail
          go_ret3
          exact ⟨by rw [HR.out]; exact ⟨_, j, _, .inr (.inl rfl), rfl⟩, hBw6⟩
        · go_wp2_with fail
          go_ret3
          exact ⟨by rw [HR.out]; exact ⟨_, j, _, .inr (.inr rfl), rfl⟩, hBw6⟩
      | some p =>
        rw [ht] at he
        have HR := Lib.hid (show readRes n j l = some (p, n, j) by rw [readRes, HE'.out]; simp only [ht]; rfl)
        clear ht
        subst he
        go_wp2_with fail
        go_ret3
        exact ⟨by rw [HR.out]; rfl, hBw6⟩
end Go.Proofs.YtfijhffhlklddaaGreatDoor
