/-
  Contracts of package disk: writes, flushes, starts.
-/
import Derived.Test.YtfijhffhlklddaaGreatDoorDisk
namespace Go.Proofs.YtfijhffhlklddaaGreatDoor
open Go.RowKit

theorem DiskAt.put_c {B : Nat} {w w' : World} {d : Dk} {D : DiskS} (h : DiskAt B w d D) {c : Sectors} (hm : MapAt w' d.bc D.n c) (hg : w.grownBy w' (some d.bc)) : DiskAt B w' d { D with c := c } :=
  { cells := (hg.block _ h.lt (fun e => h.ne2 (by injection e))).trans h.cells, hm := h.hm.kept hg (fun e => h.ne (by injection e)), hc := hm, ne := h.ne, n1 := h.n1, n2 := h.n2, b1 := h.b1, b2 := h.b2, b3 := h.b3 }
theorem DiskAt.put_m {B : Nat} {w w' : World} {d : Dk} {D : DiskS} (h : DiskAt B w d D) {m : Sectors} (hm : MapAt w' d.bm D.n m) (hg : w.grownBy w' (some d.bm)) : DiskAt B w' d { D with m := m } :=
  { cells := (hg.block _ h.lt (fun e => h.ne1 (by injection e))).trans h.cells, hm := hm, hc := h.hc.kept hg (fun e => h.ne (by injection e; exact Eq.symm ‹_›)), ne := h.ne, n1 := h.n1, n2 := h.n2, b1 := h.b1, b2 := h.b2, b3 := h.b3 }

set_option maxRecDepth 100000 in
set_option maxHeartbeats 1000000 in
theorem Write_ok {B : Nat} {d : Dk} {D : DiskS} (i : Int) (s : ByteArray) (w : World) (h : DiskAt B w d D) (hd : D.dead = false) (ha : D.armed = false) (h0 : 0 ≤ i) (h1 : i < D.n) (hs : s.size = 256) :
    Calls Tryz.prog 36 #[d.p, .int .i64 i, .string s] w fun e w' => e = .returned (.int .i64 0) ∧ DiskAt B w' d { D with c := upd D.c i s } ∧ Chg [d.bc] w w' := by
  have c2 : w.cell? ⟨d.b, 2, none⟩ = some (.map (some d.bc)) := by rw [Lib.cell_of_heap h.cells]; rfl
  have hn := h.n2
  have HM := may_ok i w h hd h0 h1
  have hsz : (s.size : Int) = 256 := by omega
  have HH := Lib.hid h
  have HS := Lib.hid hs
  have hmc := h.hc
  clear h hs
  go_enter Tryz.func36, Tryz.ntmps36
  go_wp2_with fail
  refine HM.mono ?_; rintro e w1 ⟨rfl, rfl⟩
  go_wp2_with (at_mapUpdate; refine wp_store _ rfl _ _ _ rfl d.bc D.n D.c (by omega) rfl hmc i s rfl rfl h0 h1 HS.out ?_)
  intro w1 hm1 hg1
  have h1' := HH.out.put_c hm1 hg1
  have HC := crashes_no w1 h1' ha
  have HH1 := Lib.hid h1'
  have HG := Lib.hid hg1
  clear h1' hm1 hg1 hmc
  go_wp2_with fail
  refine HC.mono ?_; rintro e w2 ⟨rfl, rfl⟩
  go_wp2_with fail
  go_ret
  exact ⟨rfl, HH1.out, grown_chg HG.out (by simp)⟩

set_option maxRecDepth 100000 in
set_option maxHeartbeats 1000000 in
theorem Start_ok {B : Nat} {d : Dk} {D : DiskS} (w : World) (h : DiskAt B w d D) :
    Calls Tryz.prog 16 #[d.p] w fun e w' => e = .returned (.tuple #[]) ∧ DiskAt B w' d { D with dead := false, armed := false } ∧ Chg [d.b] w w' := by
  have f3 : w.frozen? ⟨d.b, 3, none⟩ = false := Lib.frozen_of_heap h.cells 3
  have f6 : w.frozen? ⟨d.b, 6, none⟩ = false := Lib.frozen_of_heap h.cells 6
  have c3 : w.cell? ⟨d.b, 3, none⟩ = some (.bool D.armed) := by rw [Lib.cell_of_heap h.cells]; rfl
  have c6 : w.cell? ⟨d.b, 6, none⟩ = some (.bool D.dead) := by rw [Lib.cell_of_heap h.cells]; rfl
  have HH := Lib.hid h
  clear h
  go_enter Tryz.func16, Tryz.ntmps16
  go_wp2_with fail
  go_end0
  have h := HH.out
  refine ⟨rfl, ?_, (setCell_chg w ⟨d.b, 6, none⟩ _ (by simp)).trans (setCell_chg _ ⟨d.b, 3, none⟩ _ (by simp))⟩
  have hc : Chg [d.b] w ((w.setCell ⟨d.b, 6, none⟩ (.bool false)).setCell ⟨d.b, 3, none⟩ (.bool false)) := (setCell_chg w ⟨d.b, 6, none⟩ _ (by simp)).trans (setCell_chg _ ⟨d.b, 3, none⟩ _ (by simp))
  exact { cells := by simp [World.setCell, Array.getElem?_modify, h.cells], hm := h.hm.of_block (hc.block _ h.hm.lt (by simpa using Ne.symm h.ne1)), hc := h.hc.of_block (hc.block _ h.hc.lt (by simpa using Ne.symm h.ne2)), ne := h.ne, n1 := h.n1, n2 := h.n2, b1 := h.b1, b2 := h.b2, b3 := h.b3 }
end Go.Proofs.YtfijhffhlklddaaGreatDoor
