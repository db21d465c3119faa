/-
  Contracts: Crash.
-/
import Derived.Test.YtfijhffhlklddaaGreatDoorIdx
namespace Go.Proofs.YtfijhffhlklddaaGreatDoor
open Go.RowKit
open Go.Maps (Keyed)

/-- m[i] = sector{s}: the run. -/
theorem store_run (w : World) (b N : Nat) (f : Sectors) (hN : N ≤ 5000) (h : MapAt w b N f) (i : Int) (s : ByteArray) (h0 : 0 ≤ i) (h1 : i < N) (hs : s.size = 256) :
    ∃ w', (Instr.mapUpdate 74 (.map (some b)) (.int .i64 i) (.agg #[.string s])).run Tryz.prog w = .ok () w' ∧ MapAt w' b N (upd f i s) ∧ w.grownBy w' (some b) := by
  obtain ⟨D, ho, hh, hw⟩ := h
  obtain ⟨w', hrun, ho', hg⟩ := ho.update keyI Tryz.underlying74 (by unfold maxLen; omega) (keyI_mk h0 (by omega)) (sec_mk s)
  have hh' := hh.put (ho.isMap) h0 (by omega : i < 100000) s
  exact ⟨w', hrun, ⟨_, bound_of ho' hh' (hw.upd h0 h1 hs), hh', hw.upd h0 h1 hs⟩, hg⟩
/-- .. as a function of the world. -/
theorem store_fn (b N : Nat) (f : Sectors) (hN : N ≤ 5000) (i : Int) (s : ByteArray) (h0 : 0 ≤ i) (h1 : i < N) (hs : s.size = 256) :
    ∃ st : World → World, ∀ w, MapAt w b N f → (Instr.mapUpdate 74 (.map (some b)) (.int .i64 i) (.agg #[.string s])).run Tryz.prog w = .ok () (st w) ∧ MapAt (st w) b N (upd f i s) ∧ w.grownBy (st w) (some b) := by
  classical
  refine ⟨fun w => if h : MapAt w b N f then Classical.choose (store_run w b N f hN h i s h0 h1 hs) else w, fun w h => ?_⟩
  simp only [dif_pos h]
  exact Classical.choose_spec (store_run w b N f hN h i s h0 h1 hs)

/-- So many bytes. -/
def clampB (n : Int) : Nat := (min (max n 0) 256).toNat
theorem clampB_le (n : Int) : clampB n ≤ 256 := by unfold clampB; omega
/-- How many bytes are kept of a sector. -/
def keptB (ks : KL) (i : Int) : Option Nat := (ks.find? (fun p => p.1 == i)).map fun p => clampB p.2
def mixB (k : Nat) (x old : ByteArray) : ByteArray := x.extract 0 k ++ old.extract k old.size
/-- What is left of the durable sectors. -/
def crashM (D : DiskS) (ks : KL) : Sectors := fun i =>
  match D.c i with
  | none => D.m i
  | some x => match keptB ks i with
    | none => D.m i
    | some k => some (mixB k x (D.at i))
def DiskS.crashed (D : DiskS) (ks : KL) : DiskS := { D with m := crashM D ks, c := fun _ => none, dead := true, armed := false }
/-- .. as far as it is done. -/
def crashAt (D : DiskS) (ks : KL) (left : Lit → Bool) : Sectors := fun i => if left (.int .i64 i) = true then D.m i else crashM D ks i
theorem crashAt_start {Dt : DataW Unit} {D : DiskS} {ks : KL} (h : Holds Dt D.c) : crashAt D ks (Maps.has Dt) = D.m := by
  funext i
  unfold crashAt crashM
  rw [(h i).1]
  cases D.c i <;> simp
theorem crashAt_end {D : DiskS} {ks : KL} {left : Lit → Bool} (h : ∀ k, left k = false) : crashAt D ks left = crashM D ks := by
  funext i; unfold crashAt; rw [h]; simp
theorem crashAt_left {D : DiskS} {ks : KL} {left : Lit → Bool} {x : Int} (h : left (.int .i64 x) = true) : crashAt D ks left x = D.m x := by unfold crashAt; rw [if_pos h]
theorem crashAt_skip {D : DiskS} {ks : KL} {left : Lit → Bool} {x : Int} (h : keptB ks x = none) : crashAt D ks (fun z => left z && !z.sameKey (.int .i64 x)) = crashAt D ks left := by
  funext i
  show (if (left (.int .i64 i) && !(Lit.int .i64 i).sameKey (.int .i64 x)) = true then D.m i else crashM D ks i) = if left (.int .i64 i) = true then D.m i else crashM D ks i
  rw [sameKey_int]
  by_cases e : i = x
  · subst e
    have : crashM D ks i = D.m i := by unfold crashM; rw [h]; cases D.c i <;> rfl
    rw [this]; simp
  · simp [e]
theorem crashAt_put {D : DiskS} {ks : KL} {left : Lit → Bool} {x : Int} {s : ByteArray} {k : Nat} (hc : D.c x = some s) (h : keptB ks x = some k) : crashAt D ks (fun z => left z && !z.sameKey (.int .i64 x)) = upd (crashAt D ks left) x (mixB k s (D.at x)) := by
  funext i
  show (if (left (.int .i64 i) && !(Lit.int .i64 i).sameKey (.int .i64 x)) = true then D.m i else crashM D ks i) = if i = x then some (mixB k s (D.at x)) else if left (.int .i64 i) = true then D.m i else crashM D ks i
  rw [sameKey_int]
  by_cases e : i = x
  · subst e
    have : crashM D ks i = some (mixB k s (D.at i)) := by unfold crashM; rw [h, hc]
    rw [this]; simp
  · simp [e]
theorem mixB_size {k : Nat} {x old : ByteArray} (hk : k ≤ 256) (hx : x.size = 256) (ho : old.size = 256) : (mixB k x old).size = 256 := by
  unfold mixB
  rw [ByteArray.size_append, ByteArray.size_extract, ByteArray.size_extract]; omega
theorem at_size {B : Nat} {w : World} {d : Dk} {D : DiskS} (h : DiskAt B w d D) (i : Int) : (D.at i).size = 256 := by
  obtain ⟨_, _, _, hw⟩ := h.hm
  unfold DiskS.at
  cases hi : D.m i with
  | none => exact zeroSector_size
  | some s => exact (hw i s hi).2.2
theorem keptB_none {ks : KL} {x : Int} (h : ∀ j, j < ks.length → (ks.getD j (0, 0)).1 ≠ x) : keptB ks x = none := by
  unfold keptB
  rw [Option.map_eq_none_iff, List.find?_eq_none]
  intro p hp
  obtain ⟨j, hj, rfl⟩ := List.mem_iff_getElem.1 hp
  have := h j hj
  simp only [List.getD, List.getElem?_eq_getElem hj, Option.getD_some] at this
  simpa using this
theorem keptB_some {ks : KL} {x : Int} {k : Nat} (hk : k < ks.length) (he : (ks.getD k (0, 0)).1 = x) (h : ∀ j, j < k → (ks.getD j (0, 0)).1 ≠ x) : keptB ks x = some (clampB (ks.getD k (0, 0)).2) := by
  unfold keptB
  have : ks.find? (fun p => p.1 == x) = some (ks.getD k (0, 0)) := by
    rw [List.find?_eq_some_iff_getElem]
    have e : ks.getD k (0, 0) = ks[k] := by simp [List.getD, List.getElem?_eq_getElem hk]
    refine ⟨by simpa using he, k, hk, e.symm, fun j hj => ?_⟩
    have := h j hj
    simp only [List.getD, List.getElem?_eq_getElem (show j < ks.length by omega), Option.getD_some] at this
    simpa using this
  rw [this]; rfl

set_option maxRecDepth 100000 in
set_option maxHeartbeats 8000000 in
theorem Crash_ok {B : Nat} {d : Dk} {D : DiskS} (ks : KL) (v : Value) (w : World) (h : DiskAt B w d D) (hd : D.dead = false) (hk : KeptAt w v ks) (hm : ks.length ≤ 100000) (hv : ks = [] ∨ ∀ k, v.ownBlock = some k → k ∉ d.F) :
    Calls Tryz.prog 15 #[d.p, v] w fun e w' => e = .returned (.tuple #[]) ∧ DiskAt B w' d (D.crashed ks) ∧ Chg d.F w w' := by
  have c2 : w.cell? ⟨d.b, 2, none⟩ = some (.map (some d.bc)) := by rw [Lib.cell_of_heap h.cells]; rfl
  have c6 : w.cell? ⟨d.b, 6, none⟩ = some (.bool false) := by rw [Lib.cell_of_heap h.cells, hd]; rfl
  have hn := h.n2
  have hblt := h.lt
  have hmlt := h.hm.lt
  have hclt := h.hc.lt
  have HD := Lib.hid h
  have HK := Lib.hid hk
  have HV := Lib.hid hv
  obtain ⟨Dt, hown, hh, hw⟩ := h.hc
  have HH := Lib.hid hh
  have HW := Lib.hid hw
  have hne := h.ne
  have hne1 := h.ne1
  have hne2 := h.ne2
  clear h hh hw hk hv
  go_enter Tryz.func15, Tryz.ntmps15
  go_wp2_with (at_range; refine wpList_range_own _ rfl _ 74 rfl 3 95 keyI Tryz.underlying74 sec d.bc D.n Dt rfl hown ?_; intro w0 hrg0 hg0 hs0)
  go_frame
  have HG0 := Lib.hid hg0
  clear hg0
  go_loopw [4, 5] (fun _ _ wr => ∃ (left : Lit → Bool) (cnt : Nat), wr.ranges Tryz.prog 3 sec d.bc w.heap.size D.n Dt left cnt ∧ MapAt wr d.bm D.n (crashAt D ks left) ∧ Chg [d.bm] w wr ∧ w.heap.size + 1 ≤ wr.heap.size)
    (fun _ _ wr => wr.rangeLeft d.bc w.heap.size)
  case atStart =>
    refine ⟨_, _, hrg0, ?_, ?_, by omega⟩
    · rw [crashAt_start HH.out]; exact HD.out.hm.kept HG0.out (by simp)
    · exact ⟨HG0.out.os, HG0.out.tape, HG0.out.output, HG0.out.size, fun k hk _ => HG0.out.block k hk (by simp)⟩
  case round =>
    obtain ⟨left, cnt, hrg, hmr, hch, hsz⟩ := hrel
    clear hrg0 hs0
    go_wp2_with (at_next; refine wpList_next_ranges _ rfl _ rfl 3 keyI sec (fun x : Int => Value.int .i64 x) (fun s : ByteArray => Value.agg #[.string s]) (fun key kl hk => by obtain ⟨x, e, _⟩ := Maps.keyOf_int_inv Tryz.underlying3 hk; exact ⟨x, e⟩) (fun v y hv => by obtain ⟨s, e, _⟩ := sec_inv hv; exact ⟨s, e⟩) d.bc w.heap.size D.n Dt left cnt rfl hrg ?_ ?_)
    · intro hc0 hl0
      have hmE : MapAt wr d.bm D.n (crashM D ks) := by rw [← crashAt_end (D := D) (ks := ks) hl0]; exact hmr
      have h1 := HD.out.set_m hch hmE
      obtain ⟨w2, hcl, hm2, hg2⟩ := h1.hc.clear
      have h2 := h1.put_c hm2 hg2
      have cc2 : wr.cell? ⟨d.b, 2, none⟩ = some (.map (some d.bc)) := by rw [Lib.cell_of_heap h1.cells]; rfl
      have f3 : w2.frozen? ⟨d.b, 3, none⟩ = false := Lib.frozen_of_heap h2.cells 3
      have f6 : w2.frozen? ⟨d.b, 6, none⟩ = false := Lib.frozen_of_heap h2.cells 6
      have k3 : w2.cell? ⟨d.b, 3, none⟩ = some (.bool D.armed) := by rw [Lib.cell_of_heap h2.cells]; rfl
      have k6 : w2.cell? ⟨d.b, 6, none⟩ = some (.bool D.dead) := by rw [Lib.cell_of_heap h2.cells]; rfl
      have hch2 : Chg d.F w w2 := (hch.mono (by simp)).grow hg2 (fun r e => by cases e; exact .inr (by simp))
      have H2 := Lib.hid h2
      clear hl0 hmE h1 hm2 hg2 h2 hrg hmr hch
      go_wp2_with fail
      go_end0
      have h := H2.out
      have hc : Chg [d.b] w2 ((w2.setCell ⟨d.b, 6, none⟩ (.bool true)).setCell ⟨d.b, 3, none⟩ (.bool false)) := (setCell_chg w2 ⟨d.b, 6, none⟩ _ (by simp)).trans (setCell_chg _ ⟨d.b, 3, none⟩ _ (by simp))
      refine ⟨rfl, ?_, hch2.trans (hc.mono (by simp))⟩
      exact { cells := by simp [World.setCell, Array.getElem?_modify, h.cells, DiskS.crashed], hm := h.hm.of_block (hc.block _ h.hm.lt (by simpa using Ne.symm h.ne1)), hc := h.hc.of_block (hc.block _ h.hc.lt (by simpa using Ne.symm h.ne2)), ne := h.ne, n1 := h.n1, n2 := h.n2, b1 := h.b1, b2 := h.b2, b3 := h.b3 }
    · intro x s kl dd ps w1 cnt1 hkey hlx hv hat hrg1 hlt hg1 hs1 hen
      obtain ⟨x', e1, e2, hwx⟩ := Maps.keyOf_int_inv Tryz.underlying3 hkey
      cases e1
      subst e2
      obtain ⟨s', e3, e4⟩ := sec_inv hv
      cases e3
      have ed : dd = .agg [.lit (.string s.data.toList)] := congrArg Prod.fst e4
      subst ed
      have hcx := found HH.out hat
      have hin := HW.out x s hcx
      have hx1 := hin.1
      have hx2 := hin.2.1
      have hx3 := hin.2.2
      have hm1 : MapAt w1 d.bm D.n (crashAt D ks left) := hmr.kept hg1 (fun e => by injection e; omega)
      have hch1 : Chg [d.bm] w w1 := hch.grow hg1 (fun r e => by cases e; exact .inl (Nat.le_refl _))
      have HRG := Lib.hid hrg
      have HLX := Lib.hid hlx
      have HCX := Lib.hid hcx
      clear hin hmr hg1 hch hv e4 hkey hwx hat hcx hlx hrg
      obtain ⟨q, hq⟩ : ∃ q, wr.heap.size = q := ⟨_, rfl⟩
      rw [hq] at hs1
      have HQ := Lib.hid hq
      obtain ⟨wa, hwa⟩ : ∃ wa, wa = (w1.alloc (.cells #[.int .i64 x] 3)).alloc (.cells #[.string s] 95) := ⟨_, rfl⟩
      have hchA : Chg [d.bm] w wa := by rw [hwa]; exact (hch1.grow (World.grownBy_alloc _ _ none) (fun r e => by cases e)).grow (World.grownBy_alloc _ _ none) (fun r e => by cases e)
      have hmA : MapAt wa d.bm D.n (crashAt D ks left) := by rw [hwa]; exact (hm1.kept (World.grownBy_alloc _ _ none) (by simp)).kept (World.grownBy_alloc _ _ none) (by simp)
      have hrgA := hrg1.alloc (.cells #[.int .i64 x] 3)
      have hrgA := hrgA.alloc (.cells #[.string s] 95)
      rw [← hwa] at hrgA
      have kq : wa.cell? ⟨q, 0, none⟩ = some (.int .i64 x) := by rw [hwa, ← hs1]; simp
      have kq1 : wa.cell? ⟨q + 1, 0, none⟩ = some (.string s) := by rw [hwa, ← hs1]; simp
      have hsA : wa.heap.size = q + 2 := by rw [hwa]; simp [hs1]
      have hKA : KeptAt wa v ks := HV.out.elim (fun h0 => by obtain ⟨ao, cap, e, _⟩ := HK.out; exact ⟨ao, cap, e, .inl h0⟩) (fun h0 => HK.out.chg (fun k hk hv => hchA.block k hk (fun e => h0 k hv (by simp at e; simp [e]))) hchA.size)
      have HI := idx_any ks v q x wa hKA hm kq
      have hqw : w.heap.size + 1 ≤ q := by omega
      have HWA := Lib.hid hwa
      go_wp2_with fail
      rw [← hwa]
      clear hwa hm1 hch1 hrg1 hen hs1 hq
      refine HI.mono ?_; rintro e wb ⟨⟨r, rfl, hr⟩, hbb⟩
      have hchB : Chg [d.bm] w wb := hchA.trans (Below.chg hbb _)
      have hmB : MapAt wb d.bm D.n (crashAt D ks left) := hmA.of_block (hbb.block _ hmA.lt)
      have hrgB := hrgA.kept (row := none) ⟨hbb.os, hbb.tape, hbb.output, hbb.size, fun k hk _ => hbb.block k hk⟩ (by simp) (by simp)
      have kq := (hbb.cell (p := ⟨q, 0, none⟩) (by show q < _; omega)).trans kq
      have kq1 := (hbb.cell (p := ⟨q + 1, 0, none⟩) (by show q + 1 < _; omega)).trans kq1
      have hKB : KeptAt wb v ks := hKA.chg (fun k hk _ => hbb.block k hk) hbb.size
      have hsB : w.heap.size + 1 ≤ wb.heap.size := by have := hbb.size; omega
      clear hchA hmA hrgA hKA HI hbb hsA
      rcases hr with ⟨rfl, hno⟩ | ⟨k, rfl, hkl, hke, hkb⟩
      · have hskip := Lib.hid (crashAt_skip (D := D) (left := left) (keptB_none hno))
        clear hno
        go_wp2_with fail
        go_roundw
        case rel => exact ⟨_, cnt1, hrgB, by rw [hskip.out]; exact hmB, hchB, hsB⟩
        case measure => rw [hrgB.left_eq, HRG.out.left_eq]; exact hlt
      · have hkept := keptB_some hkl hke hkb
        clear hke hkb
        obtain ⟨y, hy⟩ : ∃ y, y = (ks.getD k (0, 0)).2 := ⟨_, rfl⟩
        rw [← hy] at hkept
        obtain ⟨g, off, cap, rfl, hg, kb⟩ : ∃ g off cap, v = .slice (some ⟨g, off, none⟩) ks.length cap ∧ g < wb.heap.size ∧ wb.cell? ⟨g, off + k * 2 + 1, none⟩ = some (.int .i64 y) := by
          obtain ⟨ao, cap, e, h⟩ := hKB
          rcases h with h | ⟨g, off, rfl, hg, h⟩
          · rw [h] at hkl; simp at hkl
          · exact ⟨g, off, cap, e, hg, by rw [hy]; exact (h k hkl).2⟩
        clear hy hKB
        obtain ⟨kk, hkk⟩ : ∃ kk, kk = clampB y := ⟨_, rfl⟩
        have hmm : min (max y 0) 256 = (kk : Int) := by rw [hkk]; unfold clampB; omega
        have hkl2 : kk ≤ 256 := by rw [hkk]; exact clampB_le y
        rw [← hkk] at hkept
        have hput := Lib.hid (crashAt_put (D := D) (left := left) HCX.out hkept)
        clear hkk hkept
        obtain ⟨old, hold⟩ : ∃ old, old = D.at x := ⟨_, rfl⟩
        have hos : old.size = 256 := by rw [hold]; exact at_size HD.out x
        obtain ⟨mx, hmx⟩ : ∃ mx, mx = mixB kk s old := ⟨_, rfl⟩
        have hms : mx.size = 256 := by rw [hmx]; exact mixB_size hkl2 hx3 hos
        have e1 : s.extract 0 kk ++ old.extract kk 256 = mx := by rw [hmx, mixB, hos]
        have z1 : (s.extract 0 kk).size = kk := by rw [ByteArray.size_extract]; omega
        have z2 : (old.extract kk 256).size = 256 - kk := by rw [ByteArray.size_extract]; omega
        have z3 : kk + (256 - kk) = 256 := by omega
        rw [← hold, ← hmx] at hput
        obtain ⟨st, hst⟩ := store_fn d.bm D.n (crashAt D ks left) (by omega) x mx hx1 hx2 hms
        have hst1 := fun (W : World) (hW : MapAt W d.bm D.n (crashAt D ks left)) => (hst W hW).1
        have HST := Lib.hid hst
        have hDB : DiskAt B wb.drew d { D with m := crashAt D ks left } := HD.out.set_m (w' := wb.drew) ⟨hchB.os, hchB.tape, hchB.output, hchB.size, hchB.block⟩ hmB
        have hAT := at_ok x wb.drew hDB hx1 hx2
        have hat : DiskS.at { D with m := crashAt D ks left } x = old := by
          rw [hold]; unfold DiskS.at; show (crashAt D ks left x).getD _ = _; rw [crashAt_left HLX.out]
        rw [hat] at hAT
        have cb : wb.drew.cell? ⟨d.b, 1, none⟩ = some (.map (some d.bm)) := by rw [Lib.cell_of_heap hDB.cells]; rfl
        have hblB : d.b < wb.drew.heap.size := hDB.lt
        have hblM : d.bm < wb.drew.heap.size := hDB.hm.lt
        have g1 : (kk : Int) ≤ 256 := by omega
        have g2 : (0 : Int) ≤ (kk : Int) := by omega
        have hmD : MapAt wb.drew d.bm D.n (crashAt D ks left) := hmB
        have hqB : q + 1 < wb.drew.heap.size := World.block_lt_of_cell? wb _ kq1
        have kq : wb.drew.cell? ⟨q, 0, none⟩ = some (.int .i64 x) := kq
        have kq1 : wb.drew.cell? ⟨q + 1, 0, none⟩ = some (.string s) := kq1
        have hcs : ∀ (W : World) (b o : Nat) (u : Value), MapAt W d.bm D.n (crashAt D ks left) → b ≠ d.bm → W.cell? ⟨b, o, none⟩ = some u → (st W).cell? ⟨b, o, none⟩ = some u := fun W b o u h1 h2 h3 =>
          (hst W h1).2.2.cell h3 (fun e => h2 (by injection e))
        have hqm : q ≠ d.bm := by omega
        have hqm1 : q + 1 ≠ d.bm := by omega
        clear hst hDB hat hold hmx
        go_wp2_with fail
        go_region_held3 (fun w' => w'.cell? ⟨d.b, 1, none⟩ = some (.map (some d.bm)) ∧ w'.cell? ⟨q, 0, none⟩ = some (.int .i64 x) ∧ w'.cell? ⟨q + 1, 0, none⟩ = some (.string s))
          (first
            | (refine ⟨?_, ?_, ?_⟩ <;> assumption)
            | (refine ⟨hcs _ _ _ _ ?_ ?_ ?_, hcs _ _ _ _ ?_ ?_ ?_, hcs _ _ _ _ ?_ ?_ ?_⟩ <;> assumption)
            | go_keep)
          (first
            | (go_at_call 51; refine hAT.mono ?_; rintro e wc ⟨rfl, hbc⟩; replace cb := (hbc.cell (p := ⟨d.b, 1, none⟩) hblB).trans cb; replace kq := (hbc.cell (p := ⟨q, 0, none⟩) (Nat.lt_of_succ_lt hqB)).trans kq; replace kq1 := (hbc.cell (p := ⟨q + 1, 0, none⟩) hqB).trans kq1; replace hmD := hmD.of_block (hbc.block _ hblM)))
        have hmC : MapAt (st wc) d.bm D.n (upd (crashAt D ks left) x mx) := (HST.out wc hmD).2.1
        have hgC := (HST.out wc hmD).2.2
        have hchC : Chg [d.bm] w (st wc) := (hchB.trans ⟨hbc.os, hbc.tape, hbc.output, hbc.size, fun k hk _ => hbc.block k hk⟩).grow hgC (fun r e => by cases e; exact .inr (by simp))
        have hrgC := (hrgB.kept (w' := wc) (row := none) ⟨hbc.os, hbc.tape, hbc.output, hbc.size, fun k hk _ => hbc.block k hk⟩ (by simp) (by simp)).kept hgC (fun e => by injection e; exact hne (Eq.symm ‹_›)) (fun e => by injection e; omega)
        have hsC : w.heap.size + 1 ≤ (st wc).heap.size := Nat.le_trans (Nat.le_trans hsB hbc.size) hgC.size
        clear hst1 hcs cb kq kq1 hmD hAT hmm e1 z1 z2
        go_wp2_with fail
        go_roundw
        case rel => exact ⟨_, cnt1, hrgC, by rw [hput.out]; exact hmC, hchC, hsC⟩
        case measure => rw [hrgC.left_eq, HRG.out.left_eq]; exact hlt
end Go.Proofs.YtfijhffhlklddaaGreatDoor
