/-
  Contracts: Flush.
-/
import Derived.Test.YtfijhffhlklddaaGreatDoorCopy
namespace Go.Proofs.YtfijhffhlklddaaGreatDoor
open Go.RowKit

theorem Chg.cell {F : List Nat} {w w' : World} (h : Chg F w w') {a : Addr} {v : Value} (hv : w.cell? a = some v) (hF : a.block ∉ F) : w'.cell? a = some v :=
  (World.cell?_of_block (h.block a.block (World.block_lt_of_cell? w a hv) hF)).trans hv

theorem DiskAt.set_m {B : Nat} {w w' : World} {d : Dk} {D : DiskS} (h : DiskAt B w d D) (hc : Chg [d.bm] w w') {m : Sectors} (hm : MapAt w' d.bm D.n m) : DiskAt B w' d { D with m := m } :=
  { cells := (hc.block _ h.lt (by simpa using h.ne1)).trans h.cells, hm := hm, hc := h.hc.of_block (hc.block _ h.hc.lt (by simpa using Ne.symm h.ne)), ne := h.ne, n1 := h.n1, n2 := h.n2, b1 := h.b1, b2 := h.b2, b3 := h.b3 }
/-- What a flush leaves. -/
def DiskS.flushed (D : DiskS) : DiskS := { D with m := over D.c D.m, c := fun _ => none }

set_option maxRecDepth 100000 in
set_option maxHeartbeats 1000000 in
theorem Flush_ok {B : Nat} {d : Dk} {D : DiskS} (w : World) (h : DiskAt B w d D) (hd : D.dead = false) (ha : D.armed = false) :
    Calls Tryz.prog 48 #[d.p] w fun e w' => e = .returned (.int .i64 0) ∧ DiskAt B w' d D.flushed ∧ Chg [d.bm, d.bc] w w' := by
  have c1 : w.drew.cell? ⟨d.b, 1, none⟩ = some (.map (some d.bm)) := by show w.cell? _ = _; rw [Lib.cell_of_heap h.cells]; rfl
  have c2 : w.drew.cell? ⟨d.b, 2, none⟩ = some (.map (some d.bc)) := by show w.cell? _ = _; rw [Lib.cell_of_heap h.cells]; rfl
  have hn := h.n2
  have HM := may_ok 0 w h hd (by omega) (by have := h.n1; omega)
  have HC := crashes_no w h ha
  have hm : MapAt w.drew d.bm D.n D.m := h.hm
  have hc : MapAt w.drew d.bc D.n D.c := h.hc
  have HCP := Copy_ok d.bm d.bc D.n D.m D.c w.drew (by omega) hm hc h.ne
  have HH := Lib.hid h
  have n1 : d.b ∉ [d.bm] := by simpa using h.ne1
  clear h hm hc
  go_enter Tryz.func48, Tryz.ntmps48
  go_wp2_with fail
  refine HM.mono ?_; rintro e w1 ⟨rfl, rfl⟩
  go_wp2_with fail
  refine HC.mono ?_; rintro e w1 ⟨rfl, rfl⟩
  go_wp2_with fail
  go_region_held3 (fun w' => w'.cell? ⟨d.b, 1, none⟩ = some (.map (some d.bm)) ∧ w'.cell? ⟨d.b, 2, none⟩ = some (.map (some d.bc)))
    (first
      | (refine ⟨?_, ?_⟩ <;> assumption)
      | go_keep)
    (first
      | (go_at_call 83; refine HCP.mono ?_; rintro e w1 ⟨rfl, hm1, hch⟩; replace c1 := hch.cell c1 n1; replace c2 := hch.cell c2 n1))
  have hch' : Chg [d.bm] w w1 := ⟨hch.os, hch.tape, hch.output, hch.size, hch.block⟩
  have h1 := HH.out.set_m hch' hm1
  obtain ⟨w2, hcl, hm2, hg2⟩ := h1.hc.clear
  have h2 := h1.put_c hm2 hg2
  have H2 := Lib.hid h2
  have HG := Lib.hid hg2
  clear h1 h2 hm1 hm2 hg2 hch HCP
  go_wp2_with fail
  go_ret
  exact ⟨rfl, H2.out, (hch'.mono (by simp)).trans (grown_chg HG.out (by simp))⟩
end Go.Proofs.YtfijhffhlklddaaGreatDoor
