/-
  Contracts of package wal: Append, where there is room.
-/
import Derived.Test.YtfijhffhlklddaaGreatDoorApp
import Derived.Maps.AppendAt
namespace Go.Proofs.YtfijhffhlklddaaGreatDoor
open Go.RowKit

/-- Sectors are written one behind the other. -/
def writeFrom (c : Sectors) : Nat → List ByteArray → Sectors
  | _, [] => c
  | i, s :: r => writeFrom (upd c i s) (i + 1) r
theorem writeFrom_snoc (l : List ByteArray) (s : ByteArray) : ∀ (c : Sectors) (i : Nat), writeFrom c i (l ++ [s]) = upd (writeFrom c i l) (i + l.length : Nat) s := by
  induction l with
  | nil => intro c i; simp [writeFrom]
  | cons a l ih =>
    intro c i
    rw [List.cons_append, writeFrom, ih, writeFrom, List.length_cons, show i + 1 + l.length = i + (l.length + 1) by omega]

theorem strsAt_chg {w w' : World} {g off : Nat} {ss : List ByteArray} (h : StrsAt w g off ss) {F : List Nat} (hc : Chg F w w') (hg : g ∉ F) : StrsAt w' g off ss :=
  ⟨Nat.lt_of_lt_of_le h.1 hc.size, fun j hj => hc.cell (h.2 j hj) hg⟩

/-- A row of strings that is not empty. -/
theorem row_strs {B : Nat} {w : World} {v : Value} {ss : List Bytes} (h : w.ownsRow B 9 1 v ss.length (strs ss)) (h0 : 0 < ss.length) :
    ∃ g cap, v = .slice (some ⟨g, 0, none⟩) ss.length cap ∧ B ≤ g ∧ ss.length ≤ cap ∧ StrsAt w g 0 (ss.map bs) ∧ ∃ cur, w.heap[g]? = some (.cells cur 9 (0, 0)) := by
  rcases h.2 with ⟨_, e0⟩ | ⟨g, cap, cur, e, hb, hg, hnc, hcm, hcs, ht⟩
  · omega
  · refine ⟨g, cap, e, hb, hnc, ⟨(Array.getElem?_eq_some_iff.1 hg).1, fun j hj => ?_⟩, cur, hg⟩
    rw [List.length_map] at hj
    have h1 := h.cells (g := g) (by rw [e]; rfl) j (.string (bs (ss.getD j []))) (by
      rw [List.getElem?_map, List.getElem?_eq_getElem hj]
      simp [List.getD, List.getElem?_eq_getElem hj])
    have hadd : (⟨g, 0, none⟩ : Addr).add j = ⟨g, j, none⟩ := by unfold Addr.add; split <;> simp_all
    rw [hadd] at h1
    rw [Nat.zero_add, h1]
    simp [List.getD, List.getElem?_eq_getElem hj]

/-- What an append leaves of the disk. -/
def DiskS.wrote (D : DiskS) (i : Nat) (ss : List Bytes) : DiskS := { D with c := writeFrom D.c i (ss.map bs) }

set_option maxRecDepth 100000 in
set_option maxHeartbeats 8000000 in
theorem Append_ok {E : Errs} {B : Nat} {l : Nat} {d : Dk} {S : LogS} {D : DiskS} (r : Bytes) (w : World) (henv : Env E B w) (h : LogAt B w l d S) (hk : DiskAt B w d D) (hd : S.dead = false) (hdd : D.dead = false) (ha : D.armed = false)
    (h1 : r.length ≤ 2000) (h2 : S.used + cntS r.length ≤ S.logs) (h3 : S.next ≤ most) (hn0 : S.next ≠ 0) (hlog : 2 + S.logs ≤ D.n) (hrl : S.recs.length < 100000) :
    Calls Tryz.prog 12 #[lp l, .string (bs r)] w fun e w' => e = .returned (.int .i64 0) ∧
      (∃ rv', (rv'.ownBlock = S.rv.ownBlock ∨ ∃ q, rv'.ownBlock = some q ∧ w.heap.size ≤ q) ∧ LogAt B w' l d { S with rv := rv', recs := S.recs ++ [r], used := S.used + cntS r.length, next := S.next + 1 }) ∧
      DiskAt B w' d (D.wrote (2 + S.used) (makeS S.next r)) ∧ Chg (l :: d.bc :: S.rv.ownBlock.toList) w w' := by
  have HM := lmay_ok r w h hd h1 h2 h3
  have HE := Lib.hid henv
  have HH := Lib.hid h
  have HK := Lib.hid hk
  have HD := Lib.hid hd
  have HND := Lib.hid (h.not_disk hk)
  have HRD := Lib.hid (h.rv_disk hk)
  have hn32 : S.next < 4294967296 := by unfold most at h3; omega
  have HMK := fun n => Make_any E B S.next r (w.drewN n) (henv.drewN n) hn0 hn32 h1
  have c6 : ∀ n, (w.drewN n).cell? ⟨l, 6, none⟩ = some (.int .u64 S.next) := fun n => by rw [Lib.cell_of_heap (w := w.drewN n) (b := l) h.cells]; rfl
  have q1 : IntKind.u32.wrap (S.next : Int) = S.next := by rw [IntKind.wrap_u32]; omega
  have hmax := h3
  have H3 := Lib.hid h3
  have hlb := hk.n2
  have hrn := Lib.hid hrl
  obtain ⟨cc, hcc⟩ : ∃ cc, cc = cntS r.length := ⟨_, rfl⟩
  have hc1 : 1 ≤ cc := by rw [hcc]; exact cntS_pos _
  have hc9 : cc ≤ 9 := by rw [hcc]; exact cntS_le _ h1
  rw [← hcc] at h2 HMK ⊢
  have HCC := Lib.hid hcc
  clear henv h hk hd hcc hmax h3 hrl
  go_enter Tryz.func12, Tryz.ntmps12
  go_wp2_with fail
  refine HM.mono ?_; rintro e w1 ⟨rfl, m, rfl⟩
  have c6 := c6 m
  have HMK := HMK m
  obtain ⟨w1, hw1⟩ : ∃ w1, w1 = w.drewN m := ⟨_, rfl⟩
  have hsz1 : w1.heap.size = w.heap.size := by rw [hw1]; rfl
  have hB1 : Below w.heap.size w w1 := by rw [hw1]; exact below_drewN _ _
  rw [← hw1] at c6 HMK ⊢
  clear hw1
  go_wp2_with fail
  refine HMK.mono ?_; rintro e w2 ⟨v, rfl, hv, hb2⟩
  have hB2 : Below w.heap.size w w2 := hB1.trans (hb2.mono (by omega))
  have hwl : (makeS S.next r).length = cc := by rw [makeS_length, HCC.out]
  rw [← hwl] at hv
  obtain ⟨g, cap, rfl, hg, hcap, hss, hxx⟩ := row_strs hv (by omega)
  rw [hwl] at hcap ⊢
  have HSS := Lib.hid hss
  have HWL := Lib.hid hwl
  have HG := Lib.hid (show g ∉ [d.bc] by
    have := HK.out.hc.lt
    simp; omega)
  clear hv hss hwl HMK HM c6 hxx
  have hk2 : DiskAt B w2 d D := HK.out.below hB2
  have hh2 : LogAt B w2 l d S := HH.out.below hB2
  have hD0 : D.wrote (2 + S.used) ((makeS S.next r).take 0) = D := rfl
  have HK2 := Lib.hid hk2
  have HH2 := Lib.hid hh2
  have hs2 := Lib.hid (show 2 + S.used + cc ≤ D.n by omega)
  clear hk2 hh2
  go_wp2_with fail
  go_loopw [35] (fun i wr => ∃ j : Nat, j ≤ cc ∧ i = .int .i64 j ∧ DiskAt B wr d (D.wrote (2 + S.used) ((makeS S.next r).take j)) ∧ Chg [d.bc] w2 wr)
    (fun i _ => cc - (intOf i).toNat)
  case atStart => exact ⟨0, Nat.zero_le _, rfl, by rw [hD0]; exact HK2.out, Chg.refl _ _⟩
  case round =>
    obtain ⟨j, hj, rfl, hkr, hch⟩ := hrel
    by_cases hlt : j < cc
    · have hhr : LogAt B wr l d S := HH2.out.chg hch (fun e => HND.out (by simp at e; simp [e])) (fun k hk e => HRD.out k hk (by simp at e; simp [e]))
      obtain ⟨s, hs⟩ : ∃ s, s = (makeS S.next r).getD j [] := ⟨_, rfl⟩
      have hjl : j < (makeS S.next r).length := by rw [HWL.out]; exact hlt
      have hbs : (bs s).size = 256 := by
        rw [bs_size, hs]
        exact (makeS_bears S.next r j (by rw [← HCC.out]; exact hlt)).1
      have cj : wr.cell? ⟨g, j, none⟩ = some (.string (bs s)) := by
        have := (strsAt_chg HSS.out hch HG.out).2 j (by simpa using hjl)
        rw [Nat.zero_add] at this
        rw [this, hs]
        simp [List.getD, List.getElem?_eq_getElem hjl]
      have hst := Lib.hid (show { D.wrote (2 + S.used) ((makeS S.next r).take j) with c := upd (D.wrote (2 + S.used) ((makeS S.next r).take j)).c ((2 : Int) + S.used + j) (bs s) } = D.wrote (2 + S.used) ((makeS S.next r).take (j + 1)) by
        have e1 : (makeS S.next r).take (j + 1) = (makeS S.next r).take j ++ [s] := by
          rw [List.take_succ_eq_append_getElem hjl, hs]; simp [List.getD, List.getElem?_eq_getElem hjl]
        have e2 : ((2 + S.used + ((makeS S.next r).take j).length : Nat) : Int) = (2 : Int) + S.used + j := by rw [List.length_take]; omega
        unfold DiskS.wrote
        rw [e1, List.map_append, List.map_cons, List.map_nil, writeFrom_snoc, List.length_map, e2])
      have c0 : wr.drew.cell? ⟨l, 0, none⟩ = some d.p := by rw [Lib.cell_of_heap (w := wr.drew) (b := l) hhr.cells]; rfl
      have c1 : wr.drew.cell? ⟨l, 1, none⟩ = some (.int .i64 2) := by rw [Lib.cell_of_heap (w := wr.drew) (b := l) hhr.cells]; rfl
      have c7 : wr.drew.cell? ⟨l, 7, none⟩ = some (.int .i64 S.used) := by rw [Lib.cell_of_heap (w := wr.drew) (b := l) hhr.cells]; rfl
      have hkd : DiskAt B wr.drew d (D.wrote (2 + S.used) ((makeS S.next r).take j)) := hkr.chg (F := []) ⟨rfl, rfl, rfl, Nat.le_refl _, fun _ _ _ => rfl⟩ (by simp) (by simp) (by simp)
      have HW := Write_ok ((2 : Int) + S.used + j) (bs s) wr.drew hkd hdd ha (by omega) (by have := hs2.out; show (2 : Int) + S.used + j < (D.n : Int); omega) hbs
      rw [hst.out] at HW
      have x1 : IntKind.i64.wrap ((2 : Int) + S.used) = 2 + S.used := IntWalk.i64_in _ (by omega)
      have x2 : IntKind.i64.wrap ((2 : Int) + S.used + j) = 2 + S.used + j := IntWalk.i64_in _ (by omega)
      have nl : l ∉ [d.bc] := fun e => HND.out (by simp at e; simp [e])
      clear hhr hs hbs hkr hkd hst
      go_wp2_with fail
      go_region_held3 (fun w' => w'.cell? ⟨l, 0, none⟩ = some d.p ∧ w'.cell? ⟨l, 1, none⟩ = some (.int .i64 2) ∧ w'.cell? ⟨l, 7, none⟩ = some (.int .i64 S.used))
        (first
          | (refine ⟨?_, ?_, ?_⟩ <;> assumption)
          | go_keep)
        (first
          | (go_at_call 36; refine HW.mono ?_; rintro e w3 ⟨rfl, hk3, hc3⟩; replace c0 := hc3.cell c0 nl; replace c1 := hc3.cell c1 nl; replace c7 := hc3.cell c7 nl))
      have hch3 : Chg [d.bc] w2 w3 := hch.trans ⟨hc3.os, hc3.tape, hc3.output, hc3.size, hc3.block⟩
      have HK3 := Lib.hid hk3
      clear hk3 hc3 HW c0 c1 c7 x1 x2 hch
      go_wp2_with fail
      go_roundw
      case rel => exact ⟨j + 1, by omega, by go_num, HK3.out, hch3⟩
      case measure => simp [intOf]; omega
    · obtain rfl : j = cc := by omega
      have htk : (makeS S.next r).take j = makeS S.next r := by rw [List.take_of_length_le]; rw [HWL.out]; omega
      rw [htk] at hkr
      have hhr : LogAt B wr l d S := HH2.out.chg hch (fun e => HND.out (by simp at e; simp [e])) (fun k hk e => HRD.out k hk (by simp at e; simp [e]))
      have c5 : wr.cell? ⟨l, 5, none⟩ = some S.rv := by rw [Lib.cell_of_heap hhr.cells]; rfl
      obtain ⟨i0, hi, hz0, hz1, hz2⟩ := info_parts infoStr
      have hrow := hhr.row
      have hlt3 := hhr.lt
      have HHR := Lib.hid hhr
      have HKR := Lib.hid hkr
      have hone : ∀ u ∈ [Value.string (bs r)], u.oneCell' = true := by simp [Value.oneCell']
      have hBr : B ≤ wr.heap.size := Nat.le_trans HE.out.le (Nat.le_trans hB2.size hch.size)
      clear htk hhr hkr
      go_wp2_with (at_builtin; refine wpList_append_own_at _ rfl _ _ 34 rfl B 9 i0 (.string ⟨#[]⟩) 1 16 Tryz.underlying34 hi hz0 hz1 hz2 rfl (by decide) _ _ _ rfl (hrow.alloc _) ⟨wr.heap.size, 0, none⟩ 1 1 [.string (bs r)] rfl rfl (World.news_of_block (cs := #[.string (bs r)]) (t := 9) (fr := (0, 0)) (heap_alloc_new wr _)) hone (by have := hrn.out; unfold maxLen; omega) (by have := hrn.out; omega) (by simp; omega) ?_)
      intro v' w5 hown5 hgrow5 hnil5 hat5
      have hna : (wr.alloc (.cells #[.string (bs r)] 9)).heap.size = wr.heap.size + 1 := by simp
      have hl5 : w5.heap[l]? = wr.heap[l]? := (hgrow5.block l (by rw [hna]; omega) (fun e => HHR.out.rv_ne e.symm)).trans (Lib.alloc_old _ _ _ hlt3)
      have hcell5 := hl5.trans HHR.out.cells
      have hch5 : Chg (d.bc :: S.rv.ownBlock.toList) w w5 := by
        have h1 : Chg (d.bc :: S.rv.ownBlock.toList) w wr := ((Below.chg hB2 _).trans (hch.mono (by simp)))
        exact (h1.grow (World.grownBy_alloc _ _ none) (fun r e => by cases e)).grow hgrow5 (fun k e => .inr (by rw [e]; simp))
      have hk5 : DiskAt B w5 d (D.wrote (2 + S.used) (makeS S.next r)) := by
        have ha : DiskAt B (wr.alloc (.cells #[.string (bs r)] 9)) d (D.wrote (2 + S.used) (makeS S.next r)) := HKR.out.chg (F := []) ⟨rfl, rfl, rfl, by simp, fun k hk _ => Lib.alloc_old _ _ _ hk⟩ (by simp) (by simp) (by simp)
        have hg5 : Chg S.rv.ownBlock.toList (wr.alloc (.cells #[.string (bs r)] 9)) w5 := ⟨hgrow5.os, hgrow5.tape, hgrow5.output, hgrow5.size, fun k hk hF => hgrow5.block k hk (fun e => hF (by rw [← e]; simp))⟩
        have hno : ∀ k ∈ d.F, k ∉ S.rv.ownBlock.toList := fun k hk hF => HRD.out k (by simpa using hF) hk
        exact ha.chg hg5 (hno _ (by simp)) (hno _ (by simp)) (hno _ (by simp))
      obtain ⟨ao, n', cap', rfl⟩ : ∃ ao n' cap', v' = .slice ao n' cap' := by
        rcases hown5.2 with ⟨hv, _⟩ | ⟨g, cap, cur, hv, _⟩
        · exact ⟨_, _, _, hv⟩
        · exact ⟨_, _, _, hv⟩
      have k5 : w5.cell? ⟨l, 5, none⟩ = some S.rv := by rw [Lib.cell_of_heap hcell5]; rfl
      have k6 : w5.cell? ⟨l, 6, none⟩ = some (.int .u64 S.next) := by rw [Lib.cell_of_heap hcell5]; rfl
      have k7 : w5.cell? ⟨l, 7, none⟩ = some (.int .i64 S.used) := by rw [Lib.cell_of_heap hcell5]; rfl
      have f5 : w5.frozen? ⟨l, 5, none⟩ = false := Lib.frozen_of_heap hcell5 5
      have f6 : w5.frozen? ⟨l, 6, none⟩ = false := Lib.frozen_of_heap hcell5 6
      have f7 : w5.frozen? ⟨l, 7, none⟩ = false := Lib.frozen_of_heap hcell5 7
      have hlu : S.used + j ≤ 5000 := by have := HHR.out.l2; omega
      have HO5 := Lib.hid hown5
      have HA5 := Lib.hid hat5
      have HC5 := Lib.hid hcell5
      have HK5 := Lib.hid hk5
      have HCH := Lib.hid hch5
      have hs5 : w.heap.size ≤ wr.heap.size := Nat.le_trans hB2.size hch.size
      clear hown5 hgrow5 hnil5 hat5 hl5 hcell5 hk5 hch5
      go_wp2_with fail
      go_ret
      have hc : Chg [l] w5 (((w5.setCell ⟨l, 5, none⟩ (.slice ao n' cap')).setCell ⟨l, 7, none⟩ (.int .i64 ((S.used : Int) + j))).setCell ⟨l, 6, none⟩ (.int .u64 ((S.next : Int) + 1))) :=
        ((setCell_chg w5 ⟨l, 5, none⟩ _ (by simp)).trans (setCell_chg _ ⟨l, 7, none⟩ _ (by simp))).trans (setCell_chg _ ⟨l, 6, none⟩ _ (by simp))
      have hrne := Lib.ownBlock_ne HO5.out HC5.out (by decide)
      refine ⟨rfl, ⟨.slice ao n' cap', ?_, ?_⟩, HK5.out.chg hc (fun e => HND.out (by simp at e; rw [← e]; simp)) (fun e => HND.out (by simp at e; rw [← e]; simp)) (fun e => HND.out (by simp at e; rw [← e]; simp)), (HCH.out.mono (fun k hk => List.mem_cons_of_mem _ hk)).trans (hc.mono (fun k hk => by simp at hk; simp [hk]))⟩
      · rcases HA5.out with h | h
        · exact .inl h
        · exact .inr ⟨_, h, by omega⟩
      · refine { cells := ?_, row := ?_, b1 := HHR.out.b1, n2 := by have := H3.out; show S.next + 1 ≤ most + 1; omega, u2 := hlu, l2 := HHR.out.l2, r2 := by have := hrn.out; simp; omega }
        · simp [World.setCell, Array.getElem?_modify, HC5.out]
        · have h1 := row_chg HO5.out hc (fun k hk e => hrne (by simp at e; rw [← e]; exact hk))
          have e1 : strs (S.recs ++ [r]) = strs S.recs ++ [.string (bs r)] := by simp
          have e2 : (S.recs ++ [r]).length = S.recs.length + 1 := by simp
          show World.ownsRow _ B 9 1 (.slice ao n' cap') (S.recs ++ [r]).length (strs (S.recs ++ [r]))
          rw [e1, e2]
          exact h1
end Go.Proofs.YtfijhffhlklddaaGreatDoor
