/-
  Heads on a disk: what is written, and what is read.
-/
import Derived.Test.YtmpipcmdkjfmfaaGreatDoorSort
import Derived.Test.YtmpipcmdkjfmfaaGreatDoorApd
namespace Go.Proofs.YtmpipcmdkjfmfaaGreatDoor
open Go.RowKit

theorem stored4 {w : World} {k : Nat} {x0 x1 x2 x3 : Value} (y0 y1 y2 y3 : Value) {T : TypeId} (hk : w.heap[k]? = some (.cells #[x0, x1, x2, x3] T (0, 0))) :
    ((((w.setCell ⟨k, 0, none⟩ y0).setCell ⟨k, 1, none⟩ y1).setCell ⟨k, 2, none⟩ y2).setCell ⟨k, 3, none⟩ y3).heap[k]? = some (.cells #[y0, y1, y2, y3] T (0, 0)) := by
  simp [World.setCell, Array.getElem?_modify, hk]
theorem below4 {B : Nat} {w0 w : World} (hb : Below B w0 w) {k : Nat} (hk : B ≤ k) (y0 y1 y2 y3 : Value) : Below B w0 ((((w.setCell ⟨k, 0, none⟩ y0).setCell ⟨k, 1, none⟩ y1).setCell ⟨k, 2, none⟩ y2).setCell ⟨k, 3, none⟩ y3) :=
  (((hb.setCell (p := ⟨k, 0, none⟩) hk _).setCell (p := ⟨k, 1, none⟩) hk _).setCell (p := ⟨k, 2, none⟩) hk _).setCell (p := ⟨k, 3, none⟩) hk _

set_option maxRecDepth 100000 in
theorem hlay_nil (w : World) : Calls Tryz.prog 76 #[.pointer none] w fun e w' => e = .returned (.tuple #[noLay, .int .i64 1]) ∧ Below w.heap.size w w' := by
  have hl := run_loadVar_row (P := Tryz.prog) _ w.heap.size 27 27 _ (0, 0) _ (heap_alloc_new w (.cells #[.int .i64 0, .int .i64 0, .int .i64 0, .int .i64 0] 27)) Tryz.underlying27 rfl (by kernel_rfl)
  go_enter Tryz.func76, Tryz.ntmps76
  go_wp2_with fail
  (try simp only [Exit.inBlock, Exit.then])
  refine bodyPost_ret (v := .tuple #[noLay, .int .i64 1]) ?_ rfl ⟨rfl, (Below.refl w.heap.size w).alloc (Nat.le_refl _) _⟩
  rw [results_cell_tmp rfl]
  simp [asAddr, Result.andThen, hl]

/-- What lay says of a disk's size. -/
def layV (n : Nat) : Value := if n < 32 then noLay else .agg #[.int .i64 2, .int .i64 (logsOf n : Nat), .int .i64 (2 + logsOf n : Nat), .int .i64 (n - 2 - logsOf n : Nat)]
theorem layV_small {n : Nat} (h : n < 32) : layV n = noLay := if_pos h
theorem layV_ok {n : Nat} (h : 32 ≤ n) : layV n = .agg #[.int .i64 2, .int .i64 (logsOf n : Nat), .int .i64 (2 + logsOf n : Nat), .int .i64 (n - 2 - logsOf n : Nat)] := if_neg (by omega)
set_option maxRecDepth 100000 in
set_option maxHeartbeats 1000000 in
theorem hlay_small {B : Nat} {d : Dk} {D : DiskS} (w : World) (h : DiskAt B w d D) (hn : D.n < 32) :
    Calls Tryz.prog 76 #[d.p] w fun e w' => e = .returned (.tuple #[noLay, .int .i64 75]) ∧ Below w.heap.size w w' := by
  have hb1 : Below w.heap.size w (w.alloc (.cells #[.int .i64 0, .int .i64 0, .int .i64 0, .int .i64 0] 27)) := (Below.refl _ _).alloc (Nat.le_refl _) _
  have HS := Size_ok _ (h.below hb1)
  have HL := Lay_none (D.n : Int) (.inl (by omega))
  rw [if_pos (by omega)] at HL
  clear h hn hb1
  go_enter Tryz.func76, Tryz.ntmps76
  go_wp2_with fail
  refine HS.mono ?_; rintro e w1 ⟨rfl, rfl⟩
  go_wp2_with fail
  refine (HL _).mono ?_; rintro e w2 ⟨rfl, hb⟩
  have hk : w2.heap[w.heap.size]? = some (.cells #[.int .i64 0, .int .i64 0, .int .i64 0, .int .i64 0] 27 (0, 0)) := by
    rw [hb.block _ (by simp)]; exact heap_alloc_new w _
  have f0 := Lib.frozen_of_heap hk 0
  have f1 := Lib.frozen_of_heap hk 1
  have f2 := Lib.frozen_of_heap hk 2
  have f3 := Lib.frozen_of_heap hk 3
  have c0 : w2.cell? ⟨w.heap.size, 0, none⟩ = some (.int .i64 0) := by rw [Lib.cell_of_heap hk]; rfl
  have c1 : w2.cell? ⟨w.heap.size, 1, none⟩ = some (.int .i64 0) := by rw [Lib.cell_of_heap hk]; rfl
  have c2 : w2.cell? ⟨w.heap.size, 2, none⟩ = some (.int .i64 0) := by rw [Lib.cell_of_heap hk]; rfl
  have c3 : w2.cell? ⟨w.heap.size, 3, none⟩ = some (.int .i64 0) := by rw [Lib.cell_of_heap hk]; rfl
  have HK := Lib.hid hk
  clear hk HL HS
  go_wp2_with fail
  (try simp only [Exit.inBlock, Exit.then])
  refine bodyPost_ret (v := .tuple #[noLay, .int .i64 75]) ?_ rfl ⟨rfl, below4 (((Below.refl w.heap.size w).alloc (Nat.le_refl _) _).trans (hb.mono (by simp))) (Nat.le_refl _) _ _ _ _⟩
  have hl := run_loadVar_row (P := Tryz.prog) _ w.heap.size 27 27 _ (0, 0) _ (stored4 (.int .i64 0) (.int .i64 0) (.int .i64 0) (.int .i64 0) HK.out) Tryz.underlying27 rfl (by kernel_rfl)
  rw [results_cell_tmp rfl]
  simp [asAddr, Result.andThen, hl]
set_option maxRecDepth 100000 in
set_option maxHeartbeats 1000000 in
theorem hlay_ok {B : Nat} {d : Dk} {D : DiskS} (w : World) (h : DiskAt B w d D) (hn : 32 ≤ D.n) :
    Calls Tryz.prog 76 #[d.p] w fun e w' => e = .returned (.tuple #[.agg #[.int .i64 2, .int .i64 (logsOf D.n : Nat), .int .i64 (2 + logsOf D.n : Nat), .int .i64 (D.n - 2 - logsOf D.n : Nat)], .int .i64 0]) ∧ Below w.heap.size w w' := by
  have hb1 : Below w.heap.size w (w.alloc (.cells #[.int .i64 0, .int .i64 0, .int .i64 0, .int .i64 0] 27)) := (Below.refl _ _).alloc (Nat.le_refl _) _
  have HS := Size_ok _ (h.below hb1)
  have HL := Lay_ok D.n hn h.n2
  obtain ⟨x, hx⟩ : ∃ x : Int, x = (logsOf D.n : Nat) := ⟨_, rfl⟩
  obtain ⟨y, hy⟩ : ∃ y : Int, y = (2 + logsOf D.n : Nat) := ⟨_, rfl⟩
  obtain ⟨z, hz⟩ : ∃ z : Int, z = (D.n - 2 - logsOf D.n : Nat) := ⟨_, rfl⟩
  rw [← hx, ← hy, ← hz] at HL ⊢
  clear h hn hb1 hx hy hz
  go_enter Tryz.func76, Tryz.ntmps76
  go_wp2_with fail
  refine HS.mono ?_; rintro e w1 ⟨rfl, rfl⟩
  go_wp2_with fail
  refine (HL _).mono ?_; rintro e w2 ⟨rfl, hb⟩
  have hk : w2.heap[w.heap.size]? = some (.cells #[.int .i64 0, .int .i64 0, .int .i64 0, .int .i64 0] 27 (0, 0)) := by
    rw [hb.block _ (by simp)]; exact heap_alloc_new w _
  have f0 := Lib.frozen_of_heap hk 0
  have f1 := Lib.frozen_of_heap hk 1
  have f2 := Lib.frozen_of_heap hk 2
  have f3 := Lib.frozen_of_heap hk 3
  have c0 : w2.cell? ⟨w.heap.size, 0, none⟩ = some (.int .i64 0) := by rw [Lib.cell_of_heap hk]; rfl
  have c1 : w2.cell? ⟨w.heap.size, 1, none⟩ = some (.int .i64 0) := by rw [Lib.cell_of_heap hk]; rfl
  have c2 : w2.cell? ⟨w.heap.size, 2, none⟩ = some (.int .i64 0) := by rw [Lib.cell_of_heap hk]; rfl
  have c3 : w2.cell? ⟨w.heap.size, 3, none⟩ = some (.int .i64 0) := by rw [Lib.cell_of_heap hk]; rfl
  have HK := Lib.hid hk
  clear hk HL HS
  go_wp2_with fail
  (try simp only [Exit.inBlock, Exit.then])
  refine bodyPost_ret (v := .tuple #[.agg #[.int .i64 2, .int .i64 x, .int .i64 y, .int .i64 z], .int .i64 0]) ?_ rfl ⟨rfl, below4 (((Below.refl w.heap.size w).alloc (Nat.le_refl _) _).trans (hb.mono (by simp))) (Nat.le_refl _) _ _ _ _⟩
  have hl := run_loadVar_row (P := Tryz.prog) _ w.heap.size 27 27 _ (0, 0) _ (stored4 (.int .i64 2) (.int .i64 x) (.int .i64 y) (.int .i64 z) HK.out) Tryz.underlying27 rfl (by kernel_rfl)
  rw [results_cell_tmp rfl]
  simp [asAddr, Result.andThen, hl]

/-- How many pages. -/
def pagesOf (n : Nat) : Nat := n - 2 - logsOf n
set_option maxRecDepth 100000 in
set_option maxHeartbeats 1000000 in
theorem hwrite_nil (h : Hd) (w : World) : Calls Tryz.prog 23 #[.pointer none, hv h] w fun e w' => e = .returned (.int .i64 1) ∧ Below w.heap.size w w' := by
  have HL := hlay_nil
  go_enter Tryz.func23, Tryz.ntmps23
  go_wp2_with fail
  refine (HL _).mono ?_; rintro e w1 ⟨rfl, hb⟩
  go_wp2_with fail
  go_ret
  exact ⟨rfl, ((((Below.refl w.heap.size w).alloc (Nat.le_refl _) (hcells h)).trans (hb.mono (by simp))).alloc (by have := hb.size; simp at this; omega) _)⟩
set_option maxRecDepth 100000 in
set_option maxHeartbeats 1000000 in
theorem hwrite_small {B : Nat} {d : Dk} {D : DiskS} (h : Hd) (w : World) (hk : DiskAt B w d D) (hn : D.n < 32) : Calls Tryz.prog 23 #[d.p, hv h] w fun e w' => e = .returned (.int .i64 75) ∧ Below w.heap.size w w' := by
  have hb1 : Below w.heap.size w (w.alloc (hcells h)) := (Below.refl _ _).alloc (Nat.le_refl _) _
  have HL := hlay_small _ (hk.below hb1) hn
  clear hk hn hb1
  go_enter Tryz.func23, Tryz.ntmps23
  go_wp2_with fail
  refine HL.mono ?_; rintro e w1 ⟨rfl, hb⟩
  go_wp2_with fail
  go_ret
  exact ⟨rfl, ((((Below.refl w.heap.size w).alloc (Nat.le_refl _) (hcells h)).trans (hb.mono (by simp))).alloc (by have := hb.size; simp at this; omega) _)⟩
set_option maxRecDepth 100000 in
set_option maxHeartbeats 1000000 in
theorem hwrite_bad {B : Nat} {d : Dk} {D : DiskS} (h : Hd) (w : World) (hk : DiskAt B w d D) (hn : 32 ≤ D.n) (hg : h.good = false) : Calls Tryz.prog 23 #[d.p, hv h] w fun e w' => e = .returned (.int .i64 1) ∧ Below w.heap.size w w' := by
  have hb1 : Below w.heap.size w (w.alloc (hcells h)) := (Below.refl _ _).alloc (Nat.le_refl _) _
  have HL := hlay_ok _ (hk.below hb1) hn
  have HE := Encode_bad h hg
  clear hk hn hb1 hg
  go_enter Tryz.func23, Tryz.ntmps23
  go_wp2_with fail
  refine HL.mono ?_; rintro e w1 ⟨rfl, hb⟩
  obtain ⟨c0, c1, c2⟩ := boxed h hb
  have hlt : w.heap.size < w1.heap.size := Nat.lt_of_lt_of_le (by simp) hb.size
  have hB1 := ((Below.refl w.heap.size w).alloc (Nat.le_refl _) (hcells h)).trans (hb.mono (by simp))
  go_wp2_with fail
  refine (HE _).mono ?_; rintro e w2 ⟨rfl, hb2⟩
  go_wp2_with fail
  go_ret
  exact ⟨rfl, (hB1.alloc (Nat.le_of_lt hlt) _).trans (hb2.mono (by simp; omega))⟩

/-- What a write leaves of a disk. -/
def DiskS.put (D : DiskS) (i : Int) (s : ByteArray) : DiskS := { D with c := upd D.c i s }
theorem read_put_same (D : DiskS) (i : Int) (s : ByteArray) : (D.put i s).read i = s := by simp [DiskS.put, DiskS.read, upd]
theorem read_put_other (D : DiskS) (i k : Int) (s : ByteArray) (h : k ≠ i) : (D.put i s).read k = D.read k := by simp [DiskS.put, DiskS.read, upd, h, DiskS.at]
/-- The cells of a layout in a later world. -/
theorem laid4 {w w2 : World} {x y z u : Value} (hb : Below (w.alloc (.cells #[x, y, z, u] 27)).heap.size (w.alloc (.cells #[x, y, z, u] 27)) w2) : w2.cell? ⟨w.heap.size, 3, none⟩ = some u := by
  rw [hb.cell (p := ⟨w.heap.size, 3, none⟩) (by simp), Lib.cell_of_heap (heap_alloc_new w _)]; rfl
theorem good_bounds {h : Hd} (hg : h.good = true) : 1 ≤ h.e ∧ h.e ≤ 2147483648 ∧ 1 ≤ h.f ∧ h.f ≤ 2147483648 ∧ -1 ≤ h.r ∧ h.r ≤ 4096 := by
  unfold Hd.good at hg
  simp only [decide_eq_true_eq] at hg
  unfold most at hg
  exact hg
set_option maxRecDepth 100000 in
set_option maxHeartbeats 1000000 in
theorem hwrite_root {E : Errs} {B : Nat} {d : Dk} {D : DiskS} (h : Hd) (w : World) (henv : Env E B w) (hk : DiskAt B w d D) (hn : 32 ≤ D.n) (hg : h.good = true) (hr : (pagesOf D.n : Int) ≤ h.r) :
    Calls Tryz.prog 23 #[d.p, hv h] w fun e w' => e = .returned (.int .i64 1) ∧ Below w.heap.size w w' := by
  have hb1 : Below w.heap.size w (w.alloc (hcells h)) := (Below.refl _ _).alloc (Nat.le_refl _) _
  have HL := hlay_ok _ (hk.below hb1) hn
  obtain ⟨pg, hpg⟩ : ∃ pg : Nat, pg = D.n - 2 - logsOf D.n := ⟨_, rfl⟩
  rw [← hpg] at HL
  have q1 : decide ((pg : Int) ≤ h.r) = true := by rw [decide_eq_true_iff, hpg]; exact hr
  have HE := fun w' (he : Env E B w') => Encode_ok h hg w' he
  have HENV := Lib.hid henv
  clear hk hn hb1 hg hr hpg henv
  go_enter Tryz.func23, Tryz.ntmps23
  go_wp2_with fail
  refine HL.mono ?_; rintro e w1 ⟨rfl, hb⟩
  obtain ⟨c0, c1, c2⟩ := boxed h hb
  have hlt : w.heap.size < w1.heap.size := Nat.lt_of_lt_of_le (by simp) hb.size
  have hB1 := ((Below.refl w.heap.size w).alloc (Nat.le_refl _) (hcells h)).trans (hb.mono (by simp))
  go_wp2_with fail
  refine (HE _ (HENV.out.grew (hB1.alloc (Nat.le_of_lt hlt) _))).mono ?_; rintro e w2 ⟨rfl, hb2⟩
  have d1 : w2.cell? ⟨w.heap.size, 1, none⟩ = some (.int .i64 h.r) := by
    rw [hb2.cell (p := ⟨w.heap.size, 1, none⟩) (by simp; omega), World.cell?_alloc_past _ _ _ hlt]; exact c1
  have l3 := laid4 hb2
  have hB2 := (hB1.alloc (Nat.le_of_lt hlt) _).trans (hb2.mono (by simp; omega))
  clear c0 c1 c2 hb hb2 hB1
  go_wp2_with fail
  go_ret
  exact ⟨rfl, hB2⟩
set_option maxRecDepth 100000 in
set_option maxHeartbeats 1000000 in
theorem hwrite_ok {E : Errs} {B : Nat} {d : Dk} {D : DiskS} (h : Hd) (w : World) (henv : Env E B w) (hk : DiskAt B w d D) (hdd : D.dead = false) (ha : D.armed = false) (hn : 32 ≤ D.n) (hg : h.good = true) (hr : h.r < (pagesOf D.n : Int)) :
    Calls Tryz.prog 23 #[d.p, hv h] w fun e w' => e = .returned (.int .i64 0) ∧ DiskAt B w' d (D.put ((h.e : Int) % 2) (bs h.sector)) ∧ Chg [d.bc] w w' := by
  have hb1 : Below w.heap.size w (w.alloc (hcells h)) := (Below.refl _ _).alloc (Nat.le_refl _) _
  have HL := hlay_ok _ (hk.below hb1) hn
  obtain ⟨pg, hpg⟩ : ∃ pg : Nat, pg = D.n - 2 - logsOf D.n := ⟨_, rfl⟩
  rw [← hpg] at HL
  have q1 : decide ((pg : Int) ≤ h.r) = false := by rw [decide_eq_false_iff_not, hpg]; unfold pagesOf at hr; omega
  have HE := fun w' (he : Env E B w') => Encode_ok h hg w' he
  have HW := fun w' (hb : Below w.heap.size w w') => Write_ok ((h.e : Int) % 2) (bs h.sector) w' (hk.below hb) hdd ha (by omega) (by omega) (by rw [bs_size, h.sector_length])
  have HENV := Lib.hid henv
  clear hk hn hb1 hg hr hpg henv hdd ha
  go_enter Tryz.func23, Tryz.ntmps23
  go_wp2_with fail
  refine HL.mono ?_; rintro e w1 ⟨rfl, hb⟩
  obtain ⟨c0, c1, c2⟩ := boxed h hb
  have hlt : w.heap.size < w1.heap.size := Nat.lt_of_lt_of_le (by simp) hb.size
  have hB1 := ((Below.refl w.heap.size w).alloc (Nat.le_refl _) (hcells h)).trans (hb.mono (by simp))
  go_wp2_with fail
  refine (HE _ (HENV.out.grew (hB1.alloc (Nat.le_of_lt hlt) _))).mono ?_; rintro e w2 ⟨rfl, hb2⟩
  have d0 : w2.cell? ⟨w.heap.size, 0, none⟩ = some (.int .u32 h.e) := by
    rw [hb2.cell (p := ⟨w.heap.size, 0, none⟩) (by simp; omega), World.cell?_alloc_past _ _ _ hlt]; exact c0
  have d1 : w2.cell? ⟨w.heap.size, 1, none⟩ = some (.int .i64 h.r) := by
    rw [hb2.cell (p := ⟨w.heap.size, 1, none⟩) (by simp; omega), World.cell?_alloc_past _ _ _ hlt]; exact c1
  have l3 := laid4 hb2
  have hB2 := (hB1.alloc (Nat.le_of_lt hlt) _).trans (hb2.mono (by simp; omega))
  have HW2 := HW w2 hB2
  clear c0 c1 c2 hb hb2 hB1 HW
  go_wp2_with fail
  refine HW2.mono ?_; rintro e w3 ⟨rfl, h3, hc3⟩
  go_wp2_with fail
  go_ret
  exact ⟨rfl, h3, (Below.chg hB2 [d.bc]).trans hc3⟩

theorem infoHead : (Tryz.prog.info? 24).map (fun i => (i.zero.map (fun z => z.cells.size), i.size, i.bytes)) = some (some 3, 3, 24) := by kernel_rfl
theorem info_head : ∃ i z, Tryz.prog.info? 24 = some i ∧ i.zero = some z ∧ i.size = 3 ∧ i.bytes = 24 ∧ z.cells.size = 3 := by
  obtain ⟨i, hi, h⟩ := Option.map_eq_some_iff.1 infoHead
  simp only [Prod.mk.injEq] at h
  obtain ⟨h1, h2, h3⟩ := h
  obtain ⟨z, hz, h4⟩ := Option.map_eq_some_iff.1 h1
  exact ⟨i, z, hi, hz, h2, h3, h4⟩
set_option maxRecDepth 100000 in
theorem hread_nil (w : World) : Calls Tryz.prog 27 #[.pointer none] w fun e w' => e = .returned (.tuple #[.slice none 0 0, .int .i64 1]) ∧ Below w.heap.size w w' := by
  have HL := hlay_nil
  go_enter Tryz.func27, Tryz.ntmps27
  go_wp2_with fail
  refine (HL _).mono ?_; rintro e w1 ⟨rfl, hb⟩
  go_wp2_with fail
  go_ret2
  exact ⟨rfl, hb.alloc hb.size _⟩
set_option maxRecDepth 100000 in
theorem hread_small {B : Nat} {d : Dk} {D : DiskS} (w : World) (hk : DiskAt B w d D) (hn : D.n < 32) : Calls Tryz.prog 27 #[d.p] w fun e w' => e = .returned (.tuple #[.slice none 0 0, .int .i64 75]) ∧ Below w.heap.size w w' := by
  have HL := hlay_small _ hk hn
  clear hk hn
  go_enter Tryz.func27, Tryz.ntmps27
  go_wp2_with fail
  refine HL.mono ?_; rintro e w1 ⟨rfl, hb⟩
  go_wp2_with fail
  go_ret2
  exact ⟨rfl, hb.alloc hb.size _⟩

/-- The heads of the first sectors. -/
def headsTo (pg : Int) (D : DiskS) : Nat → List Hd
  | 0 => []
  | i + 1 => headsTo pg D i ++ (pickH pg i (byt (D.read (i : Int)))).toList
theorem headsTo_le (pg : Int) (D : DiskS) : ∀ i, (headsTo pg D i).length ≤ i
  | 0 => Nat.le_refl _
  | i + 1 => by
    have := headsTo_le pg D i
    unfold headsTo
    rw [List.length_append]
    have : (pickH pg i (byt (D.read (i : Int)))).toList.length ≤ 1 := by cases pickH pg i (byt (D.read (i : Int))) <;> simp
    omega
/-- A row's block is not one of other cells. -/
theorem own_ne {w : World} {B : Nat} {T U : TypeId} {z : Nat} {v : Value} {n : Nat} {xs : List Value} {k : Nat} {cs : Array Value} {fr : Nat × Nat} (h : w.ownsRow B T z v n xs) (hk : w.heap[k]? = some (.cells cs U fr)) (hne : U ≠ T) : v.ownBlock ≠ some k := by
  intro e
  rcases h.2 with ⟨rfl, _⟩ | ⟨g, cap, cur, rfl, _, hg, _⟩
  · cases e
  · simp [Value.ownBlock] at e
    subst e
    rw [hg] at hk
    injection hk with hk
    injection hk with _ h2
    exact hne h2.symm
/-- While the sectors are read. -/
structure HReading (B : Nat) (w : World) (d : Dk) (D : DiskS) (pg : Nat) (kl : Nat) (i : Nat) (v : Value) (W : World) : Prop where
  row : W.ownsRow w.heap.size 24 3 v (headsTo pg D i).length (hcell (headsTo pg D i))
  blk : W.heap[kl]? = some (.cells #[.int .i64 2, .int .i64 (logsOf D.n : Nat), .int .i64 (2 + logsOf D.n : Nat), .int .i64 pg] 27 (0, 0))
  below : Below w.heap.size w W
theorem HReading.lay {B : Nat} {w : World} {d : Dk} {D : DiskS} {pg kl i : Nat} {v : Value} {W : World} (h : HReading B w d D pg kl i v W) : W.cell? ⟨kl, 3, none⟩ = some (.int .i64 pg) := by rw [Lib.cell_of_heap h.blk]; rfl
theorem HReading.lt {B : Nat} {w : World} {d : Dk} {D : DiskS} {pg kl i : Nat} {v : Value} {W : World} (h : HReading B w d D pg kl i v W) : kl < W.heap.size := (Array.getElem?_eq_some_iff.1 h.blk).1
theorem HReading.grow {B : Nat} {w : World} {d : Dk} {D : DiskS} {pg kl i : Nat} {v : Value} {W W' : World} (h : HReading B w d D pg kl i v W) (hb : Below W.heap.size W W') : HReading B w d D pg kl i v W' :=
  { row := h.row.kept (row := none) ⟨hb.os, hb.tape, hb.output, hb.size, fun k hk _ => hb.block k hk⟩ (by cases v.ownBlock <;> simp), blk := (hb.block _ h.lt).trans h.blk, below := h.below.trans (hb.mono h.below.size) }
theorem HReading.skip {B : Nat} {w : World} {d : Dk} {D : DiskS} {pg kl i : Nat} {v : Value} {W : World} (h : HReading B w d D pg kl i v W) (hp : pickH pg i (byt (D.read (i : Int))) = none) : HReading B w d D pg kl (i + 1) v W := by
  have e : headsTo pg D (i + 1) = headsTo pg D i := by
    show headsTo pg D i ++ _ = _
    rw [hp]; simp
  exact { row := by rw [e]; exact h.row, blk := h.blk, below := h.below }
theorem HReading.pick {B : Nat} {w : World} {d : Dk} {D : DiskS} {pg kl i : Nat} {v : Value} {W : World} (h : HReading B w d D pg kl i v W) {x : Hd} (hp : pickH pg i (byt (D.read (i : Int))) = some x) {o : Obj} {v' : Value} {W' : World}
    (hown : W'.ownsRow w.heap.size 24 3 v' ((headsTo pg D i).length + 1) (hcell (headsTo pg D i) ++ [.int .u32 x.e, .int .i64 x.r, .int .u32 x.f])) (hgrow : (W.alloc o).grownBy W' v.ownBlock) : HReading B w d D pg kl (i + 1) v' W' := by
  have e : headsTo pg D (i + 1) = headsTo pg D i ++ [x] := by
    show headsTo pg D i ++ _ = _
    rw [hp]; rfl
  refine { row := ?_, blk := ?_, below := ?_ }
  · rw [e]
    have e2 : hcell (headsTo pg D i ++ [x]) = hcell (headsTo pg D i) ++ [.int .u32 x.e, .int .i64 x.r, .int .u32 x.f] := by simp
    rw [e2, List.length_append]
    exact hown
  · have hne : v.ownBlock ≠ some kl := own_ne h.row h.blk (by decide)
    rw [hgrow.block kl (by simp; have := h.lt; omega) (fun e => hne e.symm), Lib.alloc_old _ _ _ h.lt]
    exact h.blk
  · exact (h.below.alloc h.below.size o).grown hgrow (by simp; have := h.below.size; omega) (fun k hk => (h.row.lt k hk).1)

set_option maxRecDepth 100000 in
set_option maxHeartbeats 8000000 in
theorem hread_ok {E : Errs} {B : Nat} {d : Dk} {D : DiskS} (w : World) (henv : Env E B w) (hk : DiskAt B w d D) (hdd : D.dead = false) (hn : 32 ≤ D.n) :
    Calls Tryz.prog 27 #[d.p] w fun e w' => ∃ v, e = .returned (.tuple #[v, .int .i64 0]) ∧ w'.ownsRow w.heap.size 24 3 v (headsTo (pagesOf D.n) D 2).length (hcell (sortH (headsTo (pagesOf D.n) D 2))) ∧ Below w.heap.size w w' := by
  have HL := hlay_ok _ hk hn
  obtain ⟨pg, hpg⟩ : ∃ pg : Nat, pg = D.n - 2 - logsOf D.n := ⟨_, rfl⟩
  rw [← hpg] at HL
  rw [show pagesOf D.n = pg from hpg.symm]
  have HENV := Lib.hid henv
  have HK := Lib.hid hk
  have HR := fun (i : Nat) (hi : i < 2) w' (hb : Below w.heap.size w w') => Read_ok (i : Int) w' (hk.below hb) hdd (by omega) (by omega)
  have HRR := Lib.hid HR
  clear hk hn henv hdd HR hpg
  go_enter Tryz.func27, Tryz.ntmps27
  go_wp2_with fail
  refine HL.mono ?_; rintro e w1 ⟨rfl, hb⟩
  have hR0 : HReading B w d D pg w1.heap.size 0 (.slice none 0 0) (w1.alloc (.cells #[.int .i64 2, .int .i64 (logsOf D.n : Nat), .int .i64 (2 + logsOf D.n : Nat), .int .i64 pg] 27)) :=
    { row := World.ownsRow_nil _ _ _ _, blk := heap_alloc_new w1 _, below := hb.alloc hb.size _ }
  have HR0 := Lib.hid hR0
  clear hR0 HL hb
  go_wp2_with fail
  go_loopw [6, 20] (fun v i wr => ∃ j : Nat, j ≤ 2 ∧ i = .int .i64 j ∧ HReading B w d D pg w1.heap.size j v wr) (fun _ i _ => 2 - (intOf i).toNat)
  case atStart => exact ⟨0, by omega, rfl, HR0.out⟩
  case round =>
    obtain ⟨j, hj, rfl, hR⟩ := hrel
    clear HR0
    by_cases hlt : j < 2
    · have q1 : decide ((j : Int) < 2) = true := by rw [decide_eq_true_iff]; omega
      have HRD := HRR.out j hlt wr hR.below
      have HRl := Lib.hid hR
      obtain ⟨s, hs⟩ : ∃ s, s = D.read (j : Int) := ⟨_, rfl⟩
      rw [← hs] at HRD
      have hl0 := hR.lay
      clear hR
      go_wp2_with fail
      refine HRD.mono ?_; rintro e w2 ⟨rfl, hb2⟩
      have hR2 := HRl.out.grow hb2
      have HD := Decode_any s w2 (HENV.out.grew hR2.below)
      have hpk : pickH pg j (byt (D.read (j : Int))) = match decH (byt s) with | none => none | some h => if h.e % 2 = j ∧ h.r < (pg : Int) then some h else none := by rw [hs]; rfl
      have HPK := Lib.hid hpk
      have HR2 := Lib.hid hR2
      clear hb2 hR2 HRD hpk hl0 hs
      go_wp2_with fail
      refine HD.mono ?_; rintro e w3 ⟨he, hb3⟩
      have hR3 := HR2.out.grow hb3
      have hpk := HPK.out
      clear HD hb3
      cases hx : decH (byt s) with
      | none =>
        rw [hx] at he hpk
        obtain rfl : e = .returned (.tuple #[.agg #[.int .u32 0, .int .i64 0, .int .u32 0], .int .i64 11]) := he
        have hR4 := (hR3.grow (((Below.refl w3.heap.size w3).alloc (Nat.le_refl _) (.cells #[.int .u32 0, .int .i64 0, .int .u32 0] 24)))).skip hpk
        have HR4 := Lib.hid hR4
        clear hR3 hR4 hpk hx
        go_wp2_with fail
        exact ⟨⟨j + 1, by omega, by simp, HR4.out⟩, by simp [intOf]; omega⟩
      | some x =>
        rw [hx] at he hpk
        obtain rfl : e = .returned (.tuple #[hv x, .int .i64 0]) := he
        simp only at hpk
        have hR4 := hR3.grow ((Below.refl w3.heap.size w3).alloc (Nat.le_refl _) (hcells x))
        have hl4 := hR4.lay
        have HR4 := Lib.hid hR4
        have hkl : w1.heap.size < w3.heap.size := hR3.lt
        have hbase : w.heap.size ≤ w3.heap.size := hR3.below.size
        have hl3 := hR3.lay
        clear hx hR4 hR3 HR2
        by_cases h1 : x.e % 2 = j
        · have q2 : (((x.e : Int) % 2) == (j : Int)) = true := by rw [beq_iff_eq]; omega
          by_cases h2 : x.r < (pg : Int)
          · have q3 : decide (x.r < (pg : Int)) = true := by rw [decide_eq_true_iff]; exact h2
            rw [if_pos ⟨h1, h2⟩] at hpk
            obtain ⟨n, hn⟩ : ∃ n, n = (headsTo pg D j).length := ⟨_, rfl⟩
            have hnl : n ≤ 2 := by have := headsTo_le pg D j; omega
            have hrow := HR4.out.row
            rw [← hn] at hrow
            obtain ⟨i0, z0, hi0, hz0, hi1, hi2, hi3⟩ := info_head
            have HROW := Lib.hid hrow
            have HPK2 := Lib.hid hpk
            have HN := Lib.hid hn
            clear hpk hn h1 h2
            go_wp2_with (at_builtin; refine wpList_append_any _ rfl _ _ 58 rfl w.heap.size 24 i0 z0 3 24 Tryz.underlying58 hi0 hz0 hi1 hi2 hi3 (by decide) _ n _ rfl (HROW.out.alloc _) (some ⟨w3.heap.size + 1, 0, none⟩) 1 1 [.int .u32 x.e, .int .i64 x.r, .int .u32 x.f] rfl rfl (.inr ⟨_, rfl, World.news_of_block (cs := #[.int .u32 x.e, .int .i64 x.r, .int .u32 x.f]) (t := 24) (fr := (0, 0)) (heap_one (w3.alloc _) _ (by simp))⟩) (by simp [Value.oneCell']) (by unfold maxLen; omega) (by omega) (by simp; omega) ?_)
            intro v' w5 hown5 hgrow5 hat5
            have hR6 := HR4.out.pick HPK2.out (by rw [← HN.out]; exact hown5) hgrow5
            have HR6 := Lib.hid hR6
            clear hR6 hown5 hgrow5 hat5
            go_wp2_with fail
            exact ⟨⟨j + 1, by omega, by simp, HR6.out⟩, by simp [intOf]; omega⟩
          · have q3 : decide (x.r < (pg : Int)) = false := by rw [decide_eq_false_iff_not]; exact h2
            rw [if_neg (fun h => h2 h.2)] at hpk
            have HR6 := Lib.hid (HR4.out.skip hpk)
            clear hpk h1 h2
            go_wp2_with fail
            exact ⟨⟨j + 1, by omega, by simp, HR6.out⟩, by simp [intOf]; omega⟩
        · have q2 : (((x.e : Int) % 2) == (j : Int)) = false := by rw [beq_eq_false_iff_ne]; omega
          rw [if_neg (fun h => h1 h.1)] at hpk
          have HR6 := Lib.hid (HR4.out.skip hpk)
          clear hpk h1
          go_wp2_with fail
          exact ⟨⟨j + 1, by omega, by simp, HR6.out⟩, by simp [intOf]; omega⟩
    · obtain rfl : j = 2 := by omega
      have q1 : decide ((2 : Int) < 2) = false := by decide
      have HS := SortFunc_any (headsTo pg D 2) (headsTo_le _ _ 2) _ wr w.heap.size hR.row
      have HRl := Lib.hid hR
      clear hR
      go_wp2_with fail
      refine HS.mono ?_; rintro e w4 ⟨rfl, hrow4, hc4⟩
      have hB4 : Below w.heap.size w w4 := HRl.out.below.trans (hc4.below HRl.out.below.size (fun k hk => (HRl.out.row.lt k (by simpa using hk)).1))
      have HROW4 := Lib.hid hrow4
      clear hrow4 hc4 HS
      go_wp2_with fail
      go_ret2
      exact ⟨_, rfl, HROW4.out, hB4⟩
end Go.Proofs.YtmpipcmdkjfmfaaGreatDoor
