/-
  Contracts of package head: whether a head can be, its sector, and the head of a sector.
-/
import Derived.Test.YtmpipcmdkjfmfaaGreatDoorLay
import Derived.Test.YtmpipcmdkjfmfaaGreatDoorHPl
namespace Go.Proofs.YtmpipcmdkjfmfaaGreatDoor
open Go.RowKit

abbrev hv (h : Hd) : Value := .agg #[.int .u32 h.e, .int .i64 h.r, .int .u32 h.f]
abbrev hcells (h : Hd) : Obj := .cells #[.int .u32 h.e, .int .i64 h.r, .int .u32 h.f] 24

set_option maxRecDepth 100000 in
set_option maxHeartbeats 1000000 in
theorem good_any (h : Hd) (w : World) :
    Calls Tryz.prog 66 #[hv h] w fun e w' => e = .returned (.bool h.good) ∧ Below w.heap.size w w' := by
  obtain ⟨e, r, f⟩ := h
  have hg : Hd.good ⟨e, r, f⟩ = decide (1 ≤ e ∧ e ≤ most ∧ 1 ≤ f ∧ f ≤ most ∧ -1 ≤ r ∧ r ≤ 4096) := rfl
  unfold most at hg
  by_cases h1 : e < 1
  · rw [hg, decide_eq_false (by omega)]
    clear hg
    have q1 : decide ((e : Int) < 1) = true := by rw [decide_eq_true_iff]; omega
    go_enter Tryz.func66, Tryz.ntmps66
    go_wp2_with fail
    go_ret
    exact ⟨rfl, (Below.refl _ _).alloc (Nat.le_refl _) _⟩
  have q1 : decide ((e : Int) < 1) = false := by rw [decide_eq_false_iff_not]; omega
  by_cases h2 : 2147483648 < e
  · rw [hg, decide_eq_false (by omega)]
    clear hg
    have q2 : decide ((2147483648 : Int) < e) = true := by rw [decide_eq_true_iff]; omega
    go_enter Tryz.func66, Tryz.ntmps66
    go_wp2_with fail
    go_ret
    exact ⟨rfl, (Below.refl _ _).alloc (Nat.le_refl _) _⟩
  have q2 : decide ((2147483648 : Int) < e) = false := by rw [decide_eq_false_iff_not]; omega
  by_cases h3 : f < 1
  · rw [hg, decide_eq_false (by omega)]
    clear hg
    have q3 : decide ((f : Int) < 1) = true := by rw [decide_eq_true_iff]; omega
    go_enter Tryz.func66, Tryz.ntmps66
    go_wp2_with fail
    go_ret
    exact ⟨rfl, (Below.refl _ _).alloc (Nat.le_refl _) _⟩
  have q3 : decide ((f : Int) < 1) = false := by rw [decide_eq_false_iff_not]; omega
  by_cases h4 : 2147483648 < f
  · rw [hg, decide_eq_false (by omega)]
    clear hg
    have q4 : decide ((2147483648 : Int) < f) = true := by rw [decide_eq_true_iff]; omega
    go_enter Tryz.func66, Tryz.ntmps66
    go_wp2_with fail
    go_ret
    exact ⟨rfl, (Below.refl _ _).alloc (Nat.le_refl _) _⟩
  have q4 : decide ((2147483648 : Int) < f) = false := by rw [decide_eq_false_iff_not]; omega
  by_cases h5 : r < -1
  · rw [hg, decide_eq_false (by omega)]
    clear hg
    have q5 : decide (r < -1) = true := by rw [decide_eq_true_iff]; omega
    go_enter Tryz.func66, Tryz.ntmps66
    go_wp2_with fail
    go_ret
    exact ⟨rfl, (Below.refl _ _).alloc (Nat.le_refl _) _⟩
  have q5 : decide (r < -1) = false := by rw [decide_eq_false_iff_not]; omega
  by_cases h6 : 4096 < r
  · rw [hg, decide_eq_false (by omega)]
    clear hg
    have q6 : decide (4096 < r) = true := by rw [decide_eq_true_iff]; omega
    go_enter Tryz.func66, Tryz.ntmps66
    go_wp2_with fail
    go_ret
    exact ⟨rfl, (Below.refl _ _).alloc (Nat.le_refl _) _⟩
  have q6 : decide (4096 < r) = false := by rw [decide_eq_false_iff_not]; omega
  rw [hg, decide_eq_true (by omega)]
  clear hg
  go_enter Tryz.func66, Tryz.ntmps66
  go_wp2_with fail
  go_ret
  exact ⟨rfl, (Below.refl _ _).alloc (Nat.le_refl _) _⟩

/-- The cells of a head that was boxed, in every later world. -/
theorem boxed {w w1 : World} (h : Hd) (hb : Below (w.alloc (hcells h)).heap.size (w.alloc (hcells h)) w1) :
    w1.cell? ⟨w.heap.size, 0, none⟩ = some (.int .u32 h.e) ∧ w1.cell? ⟨w.heap.size, 1, none⟩ = some (.int .i64 h.r) ∧ w1.cell? ⟨w.heap.size, 2, none⟩ = some (.int .u32 h.f) := by
  have hlt : w.heap.size < (w.alloc (hcells h)).heap.size := by simp
  refine ⟨(hb.cell (p := ⟨w.heap.size, 0, none⟩) hlt).trans ?_, (hb.cell (p := ⟨w.heap.size, 1, none⟩) hlt).trans ?_, (hb.cell (p := ⟨w.heap.size, 2, none⟩) hlt).trans ?_⟩ <;>
  · rw [Lib.cell_of_heap (heap_alloc_new w _)]; rfl

set_option maxRecDepth 100000 in
set_option maxHeartbeats 1000000 in
theorem Encode_bad (h : Hd) (hg : h.good = false) (w : World) :
    Calls Tryz.prog 17 #[hv h] w fun e w' => e = .returned (.tuple #[.string ⟨#[]⟩, .int .i64 1]) ∧ Below w.heap.size w w' := by
  have HG := good_any h
  rw [hg] at HG
  clear hg
  go_enter Tryz.func17, Tryz.ntmps17
  go_wp2_with fail
  refine (HG _).mono ?_; rintro e w1 ⟨rfl, hb⟩
  have hb1 := ((Below.refl w.heap.size w).alloc (Nat.le_refl _) (hcells h)).trans (hb.mono (by simp))
  go_wp2_with fail
  go_ret2
  exact ⟨rfl, hb1⟩

set_option maxRecDepth 100000 in
set_option maxHeartbeats 2000000 in
theorem Encode_ok {E : Errs} {B : Nat} (h : Hd) (hg : h.good = true) (w : World) (henv : Env E B w) :
    Calls Tryz.prog 17 #[hv h] w fun e w' => e = .returned (.tuple #[.string (bs h.sector), .int .i64 0]) ∧ Below w.heap.size w w' := by
  have HG := good_any h
  rw [hg] at HG
  have hg' := hg
  unfold Hd.good at hg'
  simp only [decide_eq_true_eq] at hg'
  unfold most at hg'
  obtain ⟨g1, g2, g3, g4, g5, g6⟩ := hg'
  clear hg
  have HN2 := Num2 (h.r + 1) (by omega) (by omega)
  have HN4 := Num4 (h.f : Int) (by omega) (by omega)
  rw [Int.toNat_natCast] at HN4
  have q1 : IntKind.u64.wrap (h.r + 1) = h.r + 1 := by rw [IntKind.wrap_u64]; omega
  have q2 : IntKind.u64.wrap (h.f : Int) = h.f := by rw [IntKind.wrap_u64]; omega
  have q3 : IntKind.i64.wrap (h.r + 1) = h.r + 1 := IntWalk.i64_in _ (by omega)
  have e1 : (⟨#[112, 97, 110, 110, 105, 101, 114]⟩ : ByteArray) ++ bs (be 2 (h.r + 1).toNat) = bs (nameB ++ be 2 (h.r + 1).toNat) := bs_append nameB _
  have e2 : bs (nameB ++ be 2 (h.r + 1).toNat) ++ bs (be 4 h.f) = bs h.text := by rw [bs_append]; rfl
  have z1 : (bs (be 2 (h.r + 1).toNat)).size = 2 := by rw [bs_size, be_length]
  have z2 : (bs (nameB ++ be 2 (h.r + 1).toNat)).size = 9 := by rw [bs_size, List.length_append, be_length]; rfl
  have z3 : (bs (be 4 h.f)).size = 4 := by rw [bs_size, be_length]
  have HE := Lib.hid henv
  clear henv
  go_enter Tryz.func17, Tryz.ntmps17
  go_wp2_with fail
  refine (HG _).mono ?_; rintro e w1 ⟨rfl, hb1⟩
  obtain ⟨c0, c1, c2⟩ := boxed h hb1
  clear HG
  go_wp2_with fail
  refine (HN2 _).mono ?_; rintro e w2 ⟨rfl, hb2⟩
  have hB2 := hb1.trans (hb2.mono hb1.size)
  clear c0 c1 c2 hb1 hb2 HN2
  obtain ⟨c0, c1, c2⟩ := boxed h hB2
  go_wp2_with fail
  refine (HN4 _).mono ?_; rintro e w3 ⟨rfl, hb3⟩
  have hB3 := hB2.trans (hb3.mono hB2.size)
  clear c0 c1 c2 hB2 hb3 HN4
  obtain ⟨c0, c1, c2⟩ := boxed h hB3
  have hB := ((Below.refl w.heap.size w).alloc (Nat.le_refl _) (hcells h)).trans (hB3.mono (by simp))
  have HM := Make_any E B h.e h.text w3 (HE.out.grew hB) (by omega) (by omega) (by rw [h.text_length]; omega)
  rw [h.text_length, h.make] at HM
  go_wp2_with fail
  refine HM.mono ?_; rintro e w4 ⟨v, rfl, hrow, hb4⟩
  obtain ⟨g, cap, rfl, _, k⟩ := row_one (show w4.ownsRow w3.heap.size 9 1 v 1 [.string (bs h.sector)] from hrow)
  have hBf := hB.trans (hb4.mono hB.size)
  clear hrow HM hB hB3 c0 c1 c2 hb4
  go_wp2_with fail
  go_ret2
  exact ⟨rfl, hBf⟩

/-- What is said of a sector's head. -/
def DecEnd (r : Option Hd) (e : Ending) : Prop :=
  match r with
  | some h => e = .returned (.tuple #[hv h, .int .i64 0])
  | none => e = .returned (.tuple #[.agg #[.int .u32 0, .int .i64 0, .int .u32 0], .int .i64 11])

theorem stored3 {w : World} {k : Nat} {x0 x1 x2 : Value} (y0 y1 y2 : Value) {T : TypeId} (hk : w.heap[k]? = some (.cells #[x0, x1, x2] T (0, 0))) :
    (((w.setCell ⟨k, 0, none⟩ y0).setCell ⟨k, 1, none⟩ y1).setCell ⟨k, 2, none⟩ y2).heap[k]? = some (.cells #[y0, y1, y2] T (0, 0)) := by
  simp [World.setCell, Array.getElem?_modify, hk]
theorem below3 {B : Nat} {w0 w : World} (hb : Below B w0 w) {k : Nat} (hk : B ≤ k) (y0 y1 y2 : Value) : Below B w0 (((w.setCell ⟨k, 0, none⟩ y0).setCell ⟨k, 1, none⟩ y1).setCell ⟨k, 2, none⟩ y2) :=
  ((hb.setCell (p := ⟨k, 0, none⟩) hk _).setCell (p := ⟨k, 1, none⟩) hk _).setCell (p := ⟨k, 2, none⟩) hk _

/-- The two blocks that Decode makes. -/
abbrev decW (w : World) (b : ByteArray) : World := (w.alloc (.cells #[.int .u32 0, .int .i64 0, .int .u32 0] 24)).alloc (.cells #[.string b] 9)
theorem decW_below (w : World) (b : ByteArray) : Below w.heap.size w (decW w b) := ((Below.refl _ _).alloc (Nat.le_refl _) _).alloc (by simp) _
theorem dec_read {E : Errs} {B : Nat} (b : ByteArray) (w : World) (henv : Env E B w) :
    Calls Tryz.prog 72 #[.slice (some ⟨w.heap.size + 1, 0, none⟩) 1 1] (decW w b) fun e w' => RdEnd (readS [byt b]) e ∧ Below (decW w b).heap.size (decW w b) w' := by
  have hs : StrsAt (decW w b) (w.heap.size + 1) 0 [b] := by
    refine ⟨by simp, fun j hj => ?_⟩
    have hj0 : j = 0 := by simp at hj; omega
    subst hj0
    simp
  exact Read_any E B [b] (w.heap.size + 1) 0 1 _ (henv.grew (decW_below w b)) (by simp) hs (by simp) (by simp)
theorem dec_cells {w w2 : World} {b : ByteArray} (hb2 : Below (decW w b).heap.size (decW w b) w2) : w2.heap[w.heap.size]? = some (.cells #[.int .u32 0, .int .i64 0, .int .u32 0] 24 (0, 0)) := by
  rw [hb2.block _ (by simp; omega), Lib.alloc_old _ _ _ (by simp)]; exact heap_alloc_new w _

set_option maxRecDepth 100000 in
set_option maxHeartbeats 2000000 in
theorem Decode_none {E : Errs} {B : Nat} (b : ByteArray) (w : World) (henv : Env E B w) (hr : readS [byt b] = none) :
    Calls Tryz.prog 20 #[.string b] w fun e w' => DecEnd none e ∧ Below w.heap.size w w' := by
  have HR := dec_read b w henv
  rw [hr] at HR
  clear henv hr
  go_enter Tryz.func20, Tryz.ntmps20
  go_wp2_with fail
  refine HR.mono ?_; rintro e w2 ⟨he, hb2⟩
  obtain rfl : e = .returned (.tuple #[.string ⟨#[]⟩, .int .u32 0, .int .i64 0, .bool false]) := he
  have hk := dec_cells hb2
  have f0 := Lib.frozen_of_heap hk 0
  have f1 := Lib.frozen_of_heap hk 1
  have f2 := Lib.frozen_of_heap hk 2
  have c0 : w2.cell? ⟨w.heap.size, 0, none⟩ = some (.int .u32 0) := by rw [Lib.cell_of_heap hk]; rfl
  have c1 : w2.cell? ⟨w.heap.size, 1, none⟩ = some (.int .i64 0) := by rw [Lib.cell_of_heap hk]; rfl
  have c2 : w2.cell? ⟨w.heap.size, 2, none⟩ = some (.int .u32 0) := by rw [Lib.cell_of_heap hk]; rfl
  have HK := Lib.hid hk
  clear HR hk
  go_wp2_with fail
  (try simp only [Exit.inBlock, Exit.then])
  refine bodyPost_ret (v := .tuple #[.agg #[.int .u32 0, .int .i64 0, .int .u32 0], .int .i64 11]) ?_ rfl ⟨rfl, below3 ((decW_below w b).trans (hb2.mono (decW_below w b).size)) (Nat.le_refl _) _ _ _⟩
  have hl := run_loadVar_row (P := Tryz.prog) _ w.heap.size 24 24 _ (0, 0) _ (stored3 (.int .u32 0) (.int .i64 0) (.int .u32 0) HK.out) Tryz.underlying24 rfl (by kernel_rfl)
  rw [results_cell_tmp rfl]
  simp [asAddr, Result.andThen, hl]

/-- The end of a decoding that found no head. -/
theorem dec_bad {w w2 : World} {b : ByteArray} (hb2 : Below (decW w b).heap.size (decW w b) w2) : ∀ (y0 y1 y2 : Value), (((w2.setCell ⟨w.heap.size, 0, none⟩ y0).setCell ⟨w.heap.size, 1, none⟩ y1).setCell ⟨w.heap.size, 2, none⟩ y2).heap[w.heap.size]? = some (.cells #[y0, y1, y2] 24 (0, 0)) ∧
    Below w.heap.size w (((w2.setCell ⟨w.heap.size, 0, none⟩ y0).setCell ⟨w.heap.size, 1, none⟩ y1).setCell ⟨w.heap.size, 2, none⟩ y2) :=
  fun y0 y1 y2 => ⟨stored3 y0 y1 y2 (dec_cells hb2), below3 ((decW_below w b).trans (hb2.mono (decW_below w b).size)) (Nat.le_refl _) _ _ _⟩

set_option maxRecDepth 100000 in
set_option maxHeartbeats 2000000 in
/-- A record that is no head. -/
theorem Decode_other {E : Errs} {B : Nat} (b : ByteArray) (w : World) (henv : Env E B w) {s : Bytes} {num n : Nat} (hr : readS [byt b] = some (s, num, n)) (h : s.length ≠ 13 ∨ s.take 7 ≠ nameB) :
    Calls Tryz.prog 20 #[.string b] w fun e w' => DecEnd none e ∧ Below w.heap.size w w' := by
  have HR := dec_read b w henv
  rw [hr] at HR
  clear henv hr
  have hz : (bs s).size = s.length := bs_size s
  by_cases h13 : s.length = 13
  · have h7 : s.take 7 ≠ nameB := by rcases h with h | h; exact absurd h13 h; exact h
    have hq : (((bs s).extract 0 7).toList == ([112, 97, 110, 110, 105, 101, 114] : List UInt8)) = false := by
      rw [Lib.toList_data, extract_toList, bs_data, beq_eq_false_iff_ne]
      exact h7
    have q1 : ((s.length : Int) != 13) = false := by rw [bne_eq_false_iff_eq]; omega
    have q2 : (7 : Int) ≤ s.length := by omega
    clear h h7 h13
    go_enter Tryz.func20, Tryz.ntmps20
    go_wp2_with fail
    refine HR.mono ?_; rintro e w2 ⟨he, hb2⟩
    obtain rfl : e = .returned (.tuple #[.string (bs s), .int .u32 num, .int .i64 n, .bool true]) := he
    have hk := dec_cells hb2
    have f0 := Lib.frozen_of_heap hk 0
    have f1 := Lib.frozen_of_heap hk 1
    have f2 := Lib.frozen_of_heap hk 2
    have c0 : w2.cell? ⟨w.heap.size, 0, none⟩ = some (.int .u32 0) := by rw [Lib.cell_of_heap hk]; rfl
    have c1 : w2.cell? ⟨w.heap.size, 1, none⟩ = some (.int .i64 0) := by rw [Lib.cell_of_heap hk]; rfl
    have c2 : w2.cell? ⟨w.heap.size, 2, none⟩ = some (.int .u32 0) := by rw [Lib.cell_of_heap hk]; rfl
    clear HR hk
    go_wp2_with fail
    (try simp only [Exit.inBlock, Exit.then])
    refine bodyPost_ret (v := .tuple #[.agg #[.int .u32 0, .int .i64 0, .int .u32 0], .int .i64 11]) ?_ rfl ⟨rfl, (dec_bad hb2 _ _ _).2⟩
    have hl := run_loadVar_row (P := Tryz.prog) _ w.heap.size 24 24 _ (0, 0) _ (dec_bad hb2 (.int .u32 0) (.int .i64 0) (.int .u32 0)).1 Tryz.underlying24 rfl (by kernel_rfl)
    rw [results_cell_tmp rfl]
    simp [asAddr, Result.andThen, hl]
  · have q1 : ((s.length : Int) != 13) = true := by rw [bne_iff_ne]; omega
    clear h h13
    go_enter Tryz.func20, Tryz.ntmps20
    go_wp2_with fail
    refine HR.mono ?_; rintro e w2 ⟨he, hb2⟩
    obtain rfl : e = .returned (.tuple #[.string (bs s), .int .u32 num, .int .i64 n, .bool true]) := he
    have hk := dec_cells hb2
    have f0 := Lib.frozen_of_heap hk 0
    have f1 := Lib.frozen_of_heap hk 1
    have f2 := Lib.frozen_of_heap hk 2
    have c0 : w2.cell? ⟨w.heap.size, 0, none⟩ = some (.int .u32 0) := by rw [Lib.cell_of_heap hk]; rfl
    have c1 : w2.cell? ⟨w.heap.size, 1, none⟩ = some (.int .i64 0) := by rw [Lib.cell_of_heap hk]; rfl
    have c2 : w2.cell? ⟨w.heap.size, 2, none⟩ = some (.int .u32 0) := by rw [Lib.cell_of_heap hk]; rfl
    clear HR hk
    go_wp2_with fail
    (try simp only [Exit.inBlock, Exit.then])
    refine bodyPost_ret (v := .tuple #[.agg #[.int .u32 0, .int .i64 0, .int .u32 0], .int .i64 11]) ?_ rfl ⟨rfl, (dec_bad hb2 _ _ _).2⟩
    have hl := run_loadVar_row (P := Tryz.prog) _ w.heap.size 24 24 _ (0, 0) _ (dec_bad hb2 (.int .u32 0) (.int .i64 0) (.int .u32 0)).1 Tryz.underlying24 rfl (by kernel_rfl)
    rw [results_cell_tmp rfl]
    simp [asAddr, Result.andThen, hl]

/-- A head, if it can be. -/
def decIf (h : Hd) : Option Hd := if h.good = true then some h else none
theorem decIf_yes {h : Hd} (hg : h.good = true) : decIf h = some h := if_pos hg
theorem decIf_no {h : Hd} (hg : h.good = false) : decIf h = none := if_neg (by rw [hg]; decide)
set_option maxRecDepth 100000 in
set_option maxHeartbeats 4000000 in
/-- A record that looks like a head. -/
theorem Decode_some {E : Errs} {B : Nat} (b : ByteArray) (w : World) (henv : Env E B w) {s : Bytes} {num n : Nat} (hr : readS [byt b] = some (s, num, n)) (h13 : s.length = 13) (h7 : s.take 7 = nameB) :
    Calls Tryz.prog 20 #[.string b] w fun e w' => DecEnd (decIf (hdOf num s)) e ∧ Below w.heap.size w w' := by
  have HR := dec_read b w henv
  rw [hr] at HR
  clear henv hr
  have hz : (bs s).size = s.length := bs_size s
  have hq : (((bs s).extract 0 7).toList == ([112, 97, 110, 110, 105, 101, 114] : List UInt8)) = true := by
    rw [Lib.toList_data, extract_toList, bs_data, beq_iff_eq]
    exact h7
  have q1 : ((s.length : Int) != 13) = false := by rw [bne_eq_false_iff_eq]; omega
  have q2 : (7 : Int) ≤ s.length := by omega
  have HT1 := take_size 2 (.inr (.inl rfl)) (bs s) (by rw [hz]; omega) 7 (by rw [hz]; omega)
  have HT2 := take_size 4 (.inr (.inr rfl)) (bs s) (by rw [hz]; omega) 9 (by rw [hz]; omega)
  rw [bs_data] at HT1 HT2
  obtain ⟨r2, hr2⟩ : ∃ r2, r2 = beNum ((s.drop 7).take 2) := ⟨_, rfl⟩
  obtain ⟨f4, hf4⟩ : ∃ f4, f4 = beNum ((s.drop 9).take 4) := ⟨_, rfl⟩
  have hh : hdOf num s = ⟨num, (r2 : Int) - 1, f4⟩ := by unfold hdOf; rw [← hr2, ← hf4]
  have b1 : r2 < 65536 := by rw [hr2]; exact beNum2 _
  have b2 : f4 < 4294967296 := by rw [hf4]; exact beNum4 _
  rw [← hr2] at HT1
  rw [← hf4] at HT2
  rw [hh]
  have w1 : IntKind.i64.wrap (r2 : Int) = r2 := IntWalk.i64_in _ (by omega)
  have w2 : IntKind.i64.wrap ((r2 : Int) - 1) = (r2 : Int) - 1 := IntWalk.i64_in _ (by omega)
  have w3 : IntKind.u32.wrap (f4 : Int) = f4 := by rw [IntKind.wrap_u32]; omega
  obtain ⟨xh, hhd⟩ : ∃ xh : Hd, xh = ⟨num, (r2 : Int) - 1, f4⟩ := ⟨_, rfl⟩
  rw [← hhd]
  have HG := good_any xh
  have hv0 : hv xh = .agg #[.int .u32 num, .int .i64 ((r2 : Int) - 1), .int .u32 f4] := by rw [hhd]
  rw [hv0] at HG
  have HV := Lib.hid hv0
  have HC := Lib.hid (show hcells xh = .cells #[.int .u32 num, .int .i64 ((r2 : Int) - 1), .int .u32 f4] 24 by rw [hhd])
  clear hh hhd hr2 hf4 hv0 h7
  go_enter Tryz.func20, Tryz.ntmps20
  go_wp2_with fail
  refine HR.mono ?_; rintro e w4 ⟨he, hb4⟩
  obtain rfl : e = .returned (.tuple #[.string (bs s), .int .u32 num, .int .i64 n, .bool true]) := he
  clear HR
  go_wp2_with fail
  refine (HT1 _).mono ?_; rintro e w5 ⟨rfl, hb5⟩
  go_wp2_with fail
  refine (HT2 _).mono ?_; rintro e w6 ⟨rfl, hb6⟩
  have hB6 := hb4.trans ((hb5.trans (hb6.mono hb5.size)).mono hb4.size)
  clear hb4 hb5 hb6 HT1 HT2
  go_wp2_with fail
  refine (HG _).mono ?_; rintro e w7 ⟨rfl, hb7⟩
  have hlt : w.heap.size < w6.heap.size := Nat.lt_of_lt_of_le (by simp; omega) hB6.size
  have hk : w7.heap[w.heap.size]? = some (.cells #[.int .u32 0, .int .i64 0, .int .u32 0] 24 (0, 0)) := by
    rw [hb7.block _ (by simp; omega), Lib.alloc_old _ _ _ hlt]; exact dec_cells hB6
  have hh : w7.heap[w6.heap.size]? = some (.cells #[.int .u32 num, .int .i64 ((r2 : Int) - 1), .int .u32 f4] 24 (0, 0)) := by
    rw [hb7.block _ (by simp)]; exact heap_alloc_new w6 _
  have f0 := Lib.frozen_of_heap hk 0
  have f1 := Lib.frozen_of_heap hk 1
  have f2 := Lib.frozen_of_heap hk 2
  have c0 : w7.cell? ⟨w.heap.size, 0, none⟩ = some (.int .u32 0) := by rw [Lib.cell_of_heap hk]; rfl
  have c1 : w7.cell? ⟨w.heap.size, 1, none⟩ = some (.int .i64 0) := by rw [Lib.cell_of_heap hk]; rfl
  have c2 : w7.cell? ⟨w.heap.size, 2, none⟩ = some (.int .u32 0) := by rw [Lib.cell_of_heap hk]; rfl
  have d0 : w7.cell? ⟨w6.heap.size, 0, none⟩ = some (.int .u32 num) := by rw [Lib.cell_of_heap hh]; rfl
  have d1 : w7.cell? ⟨w6.heap.size, 1, none⟩ = some (.int .i64 ((r2 : Int) - 1)) := by rw [Lib.cell_of_heap hh]; rfl
  have d2 : w7.cell? ⟨w6.heap.size, 2, none⟩ = some (.int .u32 f4) := by rw [Lib.cell_of_heap hh]; rfl
  have hB7 : Below w.heap.size w w7 := ((decW_below w b).trans (hB6.mono (decW_below w b).size)).trans ((((Below.refl w6.heap.size w6).alloc (Nat.le_refl _) _).trans (hb7.mono (by simp))).mono (Nat.le_of_lt hlt))
  have HK := Lib.hid hk
  clear HG hk hh hb7 hB6
  cases hgd : xh.good with
  | true =>
    have HGD := Lib.hid hgd
    go_wp2_with fail
    (try simp only [Exit.inBlock, Exit.then])
    refine bodyPost_ret (v := .tuple #[.agg #[.int .u32 num, .int .i64 ((r2 : Int) - 1), .int .u32 f4], .int .i64 0]) ?_ rfl ⟨?_, below3 hB7 (Nat.le_refl _) _ _ _⟩
    · have hl := run_loadVar_row (P := Tryz.prog) _ w.heap.size 24 24 _ (0, 0) _ (stored3 (.int .u32 num) (.int .i64 ((r2 : Int) - 1)) (.int .u32 f4) HK.out) Tryz.underlying24 rfl (by kernel_rfl)
      rw [results_cell_tmp rfl]
      simp [asAddr, Result.andThen, hl]
    · rw [decIf_yes HGD.out]
      show Ending.returned (.tuple #[.agg #[.int .u32 num, .int .i64 ((r2 : Int) - 1), .int .u32 f4], .int .i64 0]) = .returned (.tuple #[hv xh, .int .i64 0])
      rw [HV.out]
  | false =>
    have HGD := Lib.hid hgd
    go_wp2_with fail
    (try simp only [Exit.inBlock, Exit.then])
    refine bodyPost_ret (v := .tuple #[.agg #[.int .u32 0, .int .i64 0, .int .u32 0], .int .i64 11]) ?_ rfl ⟨by rw [decIf_no HGD.out]; rfl, below3 hB7 (Nat.le_refl _) _ _ _⟩
    have hl := run_loadVar_row (P := Tryz.prog) _ w.heap.size 24 24 _ (0, 0) _ (stored3 (.int .u32 0) (.int .i64 0) (.int .u32 0) HK.out) Tryz.underlying24 rfl (by kernel_rfl)
    rw [results_cell_tmp rfl]
    simp [asAddr, Result.andThen, hl]

/-- Decode: the head of a sector, or that there is none. -/
theorem Decode_any {E : Errs} {B : Nat} (b : ByteArray) (w : World) (henv : Env E B w) :
    Calls Tryz.prog 20 #[.string b] w fun e w' => DecEnd (decH (byt b)) e ∧ Below w.heap.size w w' := by
  unfold decH
  cases hr : readS [byt b] with
  | none => exact Decode_none b w henv hr
  | some x =>
    obtain ⟨s, num, n⟩ := x
    simp only
    by_cases h : s.length = 13 ∧ s.take 7 = nameB
    · rw [if_pos h]
      exact Decode_some b w henv hr h.1 h.2
    · rw [if_neg h]
      exact Decode_other b w henv hr (by
        by_cases h1 : s.length = 13
        · exact .inr (fun h2 => h ⟨h1, h2⟩)
        · exact .inl h1)
end Go.Proofs.YtmpipcmdkjfmfaaGreatDoor
