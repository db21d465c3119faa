/-
  WalEmpty's walk: behind an emptying, and an opening by the next number, nothing of what was there is read any more.
-/
import Derived.Test.YtfijhffhlklddaaGreatDoorGlue
namespace Go.Proofs.YtfijhffhlklddaaGreatDoor
open Go.RowKit

/-- What holds while texts are appended: those that are there, and how many sectors they take. -/
def Apps (E : Errs) (B : Nat) (w : World) (d : Dk) (l n first N0 : Nat) (b0 : List Bytes) (i : Nat) (k : Nat) (W : World) : Prop :=
  ∃ D S rs, Live E B W d l D S first N0 0 b0 [] rs k ∧ D.n = n ∧ rs.length ≤ i ∧ (∀ r ∈ rs, r.length ≤ 600) ∧ Below B w W

theorem Apps.append {E : Errs} {B : Nat} {w : World} {d : Dk} {l n first N0 : Nat} {b0 : List Bytes} {i k : Nat} {W : World} (h : Apps E B w d l n first N0 b0 i k W) (r : Bytes) (hr : r.length ≤ 600) (hi : i ≤ 1000) (hN : N0 ≤ 1000) :
    Calls Tryz.prog 12 #[lp l, .string (bs r)] W fun e w' => ∃ c : Int, e = .returned (.int .i64 c) ∧ Apps E B w d l n first N0 b0 (i + 1) k w' := by
  obtain ⟨D, S, rs, hL, hn, hrl, h6, hB⟩ := h
  refine (hL.append r (by omega) (by simp; omega)).mono fun e w' hh => ?_
  rcases hh with ⟨he, _, hL', hb⟩ | ⟨he, _, _, hL', hb⟩ | ⟨he, _, D', S', hL', hn', _, hc⟩
  · exact ⟨_, he, D, S, rs, hL', hn, by omega, h6, hB.trans (hb.mono hL.env.le)⟩
  · exact ⟨_, he, D, S, rs, hL', hn, by omega, h6, hB.trans (hb.mono hL.env.le)⟩
  · refine ⟨_, he, D', S', rs ++ [r], hL', hn'.trans hn, by simp; omega, fun x hx => ?_, hB.trans (hc.below hL.env.le hL.base)⟩
    rcases List.mem_append.1 hx with hx | hx
    · exact h6 x hx
    · rw [List.mem_singleton.1 hx]; exact hr

/-- A text of a slice, for the walk. -/
theorem TextsAt.get {w : World} {ao : Option Addr} {n cap : Nat} {ss : List Bytes} (h : TextsAt w (.slice ao n cap) ss) {j : Nat} (hj : j < ss.length) : ∃ g off, ao = some ⟨g, off, none⟩ ∧ w.cell? ⟨g, off + j, none⟩ = some (.string (bs (ss.getD j []))) := by
  obtain ⟨ao', cap', e, h⟩ := h
  cases e
  rcases h with rfl | ⟨g, off, rfl, h⟩
  · simp at hj
  · exact ⟨g, off, rfl, by rw [h.2 j (by simpa using hj), getD_map_bs _ _ hj]⟩

/-- What holds while the second texts are appended, each of them to the caller's own slice too. -/
structure Have (E : Errs) (B : Nat) (w : World) (d : Dk) (l n N1 : Nat) (b0 b : List Bytes) (j : Nat) (D : DiskS) (S : LogS) (v : Value) (W : World) : Prop where
  live : Live E B W d l D S N1 N1 0 b0 [] (b.take j) 0
  n : D.n = n
  row : W.ownsRow B 9 1 v j (strs (b.take j))
  sep : Sep v S
  small : ∀ r ∈ b.take j, r.length ≤ 600
  below : Below B w W
/-- Between the append to the log and the one to the slice. -/
structure Half (E : Errs) (B : Nat) (w : World) (d : Dk) (l n N1 : Nat) (b0 b : List Bytes) (j : Nat) (D : DiskS) (S : LogS) (v : Value) (W : World) : Prop where
  live : Live E B W d l D S N1 N1 0 b0 [] (b.take (j + 1)) 0
  n : D.n = n
  row : W.ownsRow B 9 1 v j (strs (b.take j))
  sep : Sep v S
  small : ∀ r ∈ b.take (j + 1), r.length ≤ 600
  below : Below B w W
  snoc : b.take (j + 1) = b.take j ++ [b.getD j []]
theorem Have.stored {E : Errs} {B : Nat} {w : World} {d : Dk} {l n N1 : Nat} {b0 b : List Bytes} {j : Nat} {D : DiskS} {S : LogS} {v : Value} {W : World} (h : Have E B w d l n N1 b0 b j D S v W) (hj : j < b.length) {D' : DiskS} {S' : LogS} {W' : World}
    (hL : Live E B W' d l D' S' N1 N1 0 b0 [] (b.take j ++ [b.getD j []]) 0) (hn : D'.n = D.n) (hr : S'.rv.ownBlock = S.rv.ownBlock ∨ ∃ q, S'.rv.ownBlock = some q ∧ W.heap.size ≤ q) (hc : Chg (Live.F d l S) W W') (h6 : (b.getD j []).length ≤ 600) :
    Half E B w d l n N1 b0 b j D' S' v W' := by
  have e := take_snoc_l b [] j hj
  refine { live := by rw [e]; exact hL, n := hn.trans h.n, row := row_chg h.row hc (h.live.row_out h.row h.sep), sep := h.sep.step h.row hr, small := fun r hr => ?_, below := h.below.trans (hc.below h.live.env.le h.live.base), snoc := e }
  rw [e] at hr
  rcases List.mem_append.1 hr with hr | hr
  · exact h.small r hr
  · rw [List.mem_singleton.1 hr]; exact h6
theorem Half.next {E : Errs} {B : Nat} {w : World} {d : Dk} {l n N1 : Nat} {b0 b : List Bytes} {j : Nat} {D : DiskS} {S : LogS} {v : Value} {W : World} (h : Half E B w d l n N1 b0 b j D S v W) {s : ByteArray} (hs : s = bs (b.getD j [])) {o : Obj} {v' : Value} {W' : World}
    (hown : W'.ownsRow B 9 1 v' (j + 1) (strs (b.take j) ++ [.string s])) (hgrow : (W.alloc o).grownBy W' v.ownBlock) {H : Nat} (hH : W.heap.size ≤ H) (hat : v'.ownBlock = v.ownBlock ∨ v'.ownBlock = some H) : Have E B w d l n N1 b0 b (j + 1) D S v' W' := by
  have hc : Chg v.ownBlock.toList W W' := ((Chg.refl _ _).grow (World.grownBy_alloc _ _ none) (fun r e => by cases e)).grow hgrow (fun k e => .inr (by rw [e]; simp))
  have hb : ∀ q ∈ v.ownBlock.toList, B ≤ q := fun q hq => (h.row.lt q (by simpa using hq)).1
  have e1 : strs (b.take (j + 1)) = strs (b.take j) ++ [.string s] := by rw [h.snoc, hs]; simp
  exact { live := h.live.chg hc hb (fun q hq => h.live.row_out h.row h.sep q (by simpa using hq)), n := h.n, row := by rw [e1]; exact hown, sep := h.sep.grown h.live hH hat, small := h.small, below := h.below.trans (hc.below h.live.env.le hb) }

set_option maxRecDepth 100000 in
set_option maxHeartbeats 16000000 in
theorem empty_ok {E : Errs} (w : World) (henv : Env E w.heap.size w) (a b : List Bytes) (ks : KL) (va vb vk : Value) (hta : TextsAt w va a) (htb : TextsAt w vb b) (htk : KeptAt w vk ks) :
    Calls Tryz.prog 5 #[va, vb, vk] w fun e w' => e = .returned (.bool true) ∧ Below w.heap.size w w' := by
  have HN := New_ok 200 (by decide) (by decide) w
  obtain ⟨B, hB⟩ : ∃ B, B = w.heap.size := ⟨_, rfl⟩
  have HE := Lib.hid henv
  have HTA := Lib.hid hta
  have HTB := Lib.hid htb
  have HTK := Lib.hid htk
  obtain ⟨ao, ca, rfl, _⟩ := hta
  obtain ⟨bo, cb, rfl, _⟩ := htb
  obtain ⟨ko, ck, rfl, _⟩ := htk
  clear henv
  rw [← hB] at HE ⊢
  have HB := Lib.hid hB
  clear hB
  go_enter Tryz.func5, Tryz.ntmps5
  go_wp2_with fail
  refine HN.mono ?_; rintro e w1 ⟨d, rfl, hd1, hb1⟩
  have hb1' : Below B w w1 := by rw [HB.out]; exact hb1
  have hi1 := fresh_idle HE.out (by decide) hd1 hb1
  have HO := hi1.first 1 (by decide) (by decide)
  have HB1 := Lib.hid hb1'
  clear hd1 hi1 hb1 hb1' HN
  go_wp2_with fail
  refine HO.mono ?_; rintro e w2 ⟨l, S, rfl, _, _, hL2, hb2⟩
  have hB2 : Below B w w2 := HB1.out.trans (hb2.mono (by have := HB1.out.size; rw [← HB.out] at this; exact this))
  have HL2 := Lib.hid hL2
  have HB2 := Lib.hid hB2
  have HL2' := Lib.hid hL2
  have HB2' := Lib.hid hB2
  have HW2 := wakes_ok w2 hL2.env
  have fin : ∀ (w3 : World), Below w2.heap.size w2 w3 → Below B w w3 := fun w3 h => HB2.out.trans (h.mono HL2.out.env.le)
  have HFIN := Lib.hid fin
  clear hb2 hL2 hB2 HO fin
  by_cases h1 : 12 < a.length
  · have q1 : decide ((12 : Int) < a.length) = true := by rw [decide_eq_true_iff]; omega
    go_wp2_with fail
    refine HW2.mono ?_; rintro e w3 ⟨rfl, hb3⟩
    go_wp2_with fail
    go_ret
    exact ⟨rfl, HFIN.out _ hb3⟩
  have q1 : decide ((12 : Int) < a.length) = false := by rw [decide_eq_false_iff_not]; omega
  by_cases h2 : 12 < b.length
  · have q2 : decide ((12 : Int) < b.length) = true := by rw [decide_eq_true_iff]; omega
    go_wp2_with fail
    refine HW2.mono ?_; rintro e w3 ⟨rfl, hb3⟩
    go_wp2_with fail
    go_ret
    exact ⟨rfl, HFIN.out _ hb3⟩
  have q2 : decide ((12 : Int) < b.length) = false := by rw [decide_eq_false_iff_not]; omega
  by_cases h3 : 100 < ks.length
  · have q3 : decide ((100 : Int) < ks.length) = true := by rw [decide_eq_true_iff]; omega
    go_wp2_with fail
    refine HW2.mono ?_; rintro e w3 ⟨rfl, hb3⟩
    go_wp2_with fail
    go_ret
    exact ⟨rfl, HFIN.out _ hb3⟩
  have q3 : decide ((100 : Int) < ks.length) = false := by rw [decide_eq_false_iff_not]; omega
  clear HW2
  go_wp2_with fail
  clear HL2 HB2 HFIN
  have hA0 : Apps E B w d l 200 1 1 (freshD 200).reg 0 0 w2 := ⟨_, _, [], HL2'.out, rfl, Nat.le_refl _, by simp, HB2'.out⟩
  have HA0 := Lib.hid hA0
  clear hA0
  go_loopw [11] (fun i wr => ∃ j : Nat, j ≤ a.length ∧ i = .int .i64 j ∧ Apps E B w d l 200 1 1 (freshD 200).reg j 0 wr) (fun i _ => a.length - (intOf i).toNat)
  case atStart => exact ⟨0, Nat.zero_le _, rfl, HA0.out⟩
  case round =>
    obtain ⟨j, hj, rfl, hA⟩ := hrel
    clear HA0
    by_cases hlt : j < a.length
    · have hBr : Below B w wr := by obtain ⟨_, _, _, _, _, _, _, h⟩ := hA; exact h
      have hEr : Env E B wr := by obtain ⟨_, _, _, h, _⟩ := hA; exact h.env
      have hT : TextsAt wr (.slice ao a.length ca) a := HTA.out.below (by rw [← HB.out]; exact hBr)
      obtain ⟨g, off, rfl, k1⟩ := hT.get hlt
      obtain ⟨s, hs⟩ : ∃ s, s = bs (a.getD j []) := ⟨_, rfl⟩
      rw [← hs] at k1
      have hsz : s.size = (a.getD j []).length := by rw [hs]; rfl
      have y1 : (0 : Int) ≤ (j : Int) := by omega
      have y2 : (j : Int) < (a.length : Int) := by omega
      by_cases h6 : 600 < s.size
      · have q6 : decide ((600 : Int) < s.size) = true := by rw [decide_eq_true_iff]; omega
        have HW3 := wakes_ok wr hEr
        have HBR := Lib.hid hBr
        have HER := Lib.hid hEr
        clear hA hT hBr hEr hs hsz
        go_wp2_with fail
        refine HW3.mono ?_; rintro e w3 ⟨rfl, hb3⟩
        go_wp2_with fail
        go_ret
        exact ⟨rfl, HBR.out.trans (hb3.mono HER.out.le)⟩
      · have q6 : decide ((600 : Int) < s.size) = false := by rw [decide_eq_false_iff_not]; omega
        have HAP := hA.append (a.getD j []) (by omega) (by omega) (by decide)
        rw [← hs] at HAP
        clear hA hT hBr hEr hs hsz
        go_wp2_with fail
        refine HAP.mono ?_; rintro e w3 ⟨c, rfl, hA3⟩
        go_wp2_with fail
        exact ⟨⟨j + 1, by omega, by simp, hA3⟩, by simp [intOf]; omega⟩
    · obtain rfl : j = a.length := by omega
      obtain ⟨D, S2, rs, hL, hn, hrl, hr6, hBr⟩ := hA
      have HSY := hL.sync
      have hbase := hL.base
      have hle := hL.env.le
      clear hL
      go_wp2_with fail
      refine HSY.mono ?_; rintro e w3 ⟨rfl, hL3, hc3⟩
      have hB3 : Below B w w3 := hBr.trans (hc3.below hle hbase)
      have HNX := Next_ok w3 hL3.log
      have hnx := hL3.next
      have HEM := hL3.emptied (by omega) (fun _ => rfl)
      have hlb := hL3.log.b1
      have hle3 := hL3.env.le
      obtain ⟨N1, hN1⟩ : ∃ N1, N1 = 1 + rs.length := ⟨_, rfl⟩
      rw [hnx, ← hN1] at HNX
      rw [← hN1] at HEM
      obtain ⟨b0, hb0⟩ : ∃ b0, b0 = D.flushed.reg := ⟨_, rfl⟩
      rw [← hb0] at HEM
      have hn3 : D.flushed.n = 200 := hn
      obtain ⟨D3, hD3⟩ : ∃ D3, D3 = D.flushed := ⟨_, rfl⟩
      rw [← hD3] at HEM hn3
      have hN2 : N1 ≤ 20 := by omega
      have hN0 : 0 < N1 := by omega
      clear hL3 hc3 hBr hbase hle hnx hb0 hD3 HSY hN1 hr6 hrl hn
      go_wp2_with fail
      refine HNX.mono ?_; rintro e w4 ⟨rfl, rfl⟩
      go_wp2_with fail
      refine HEM.mono ?_; rintro e w4 ⟨rfl, hL4, hc4⟩
      have hB4 : Below B w w4 := hB3.trans (hc4.below hle3 (by simpa using hlb))
      have HL4 := Lib.hid hL4
      have HB4 := Lib.hid hB4
      clear hL4 hB4 hc4 hB3 HEM hlb hle3
      go_wp2_with fail
      go_loopw [13, 14] (fun v i wr => ∃ (j : Nat) (D S : _), j ≤ b.length ∧ i = .int .i64 j ∧ Have E B w d l 200 N1 b0 b j D S v wr) (fun _ i _ => b.length - (intOf i).toNat)
      case atStart => exact ⟨0, _, _, Nat.zero_le _, rfl, HL4.out, hn3, World.ownsRow_nil _ _ _ _, sep_nil _, by simp, HB4.out⟩
      case round =>
        obtain ⟨j, D, S, hj, rfl, hH⟩ := hrel
        have hBr : Below B w wr := hH.below
        have hLr := hH.live
        have hEr : Env E B wr := hLr.env
        clear HL4 HB4
        by_cases hlt : j < b.length
        · have hT : TextsAt wr (.slice bo b.length cb) b := HTB.out.below (by rw [← HB.out]; exact hBr)
          obtain ⟨g, off, rfl, k1⟩ := hT.get hlt
          obtain ⟨s, hs⟩ : ∃ s, s = bs (b.getD j []) := ⟨_, rfl⟩
          rw [← hs] at k1
          have hsz : s.size = (b.getD j []).length := by rw [hs]; rfl
          have y1 : (0 : Int) ≤ (j : Int) := by omega
          have y2 : (j : Int) < (b.length : Int) := by omega
          by_cases h6 : 600 < s.size
          · have q6 : decide ((600 : Int) < s.size) = true := by rw [decide_eq_true_iff]; omega
            have HW3 := wakes_ok wr hEr
            have HBR := Lib.hid hBr
            have HER := Lib.hid hEr
            clear hH hLr hT hBr hEr hs hsz
            go_wp2_with fail
            refine HW3.mono ?_; rintro e w3 ⟨rfl, hb3⟩
            go_wp2_with fail
            go_ret
            exact ⟨rfl, HBR.out.trans (hb3.mono HER.out.le)⟩
          · have q6 : decide ((600 : Int) < s.size) = false := by rw [decide_eq_false_iff_not]; omega
            have h6' : (b.getD j []).length ≤ 600 := by omega
            have HAP := hLr.append (b.getD j []) (by simp; omega) (by simp; omega)
            rw [← hs] at HAP
            have HH := Lib.hid hH
            have HS := Lib.hid hs
            have HLT := Lib.hid hlt
            have HJ := Lib.hid hj
            have hglt : g < wr.heap.size := World.block_lt_of_cell? wr _ k1
            have HK1 := Lib.hid k1
            clear hH hLr hT hBr hEr hs hsz hj
            go_wp2_with fail
            refine HAP.mono ?_
            rintro e w3 (⟨_, h1, _⟩ | ⟨_, _, h2, _⟩ | ⟨rfl, _, D3, S3, hL3, hn3', hrv3, hc3⟩)
            · omega
            · have h3 := HH.out.live.used
              have h4 := wallS_small (b.take j) HH.out.small N1
              have h5 := HH.out.n
              have h7 : logsOf D.n = 49 := by rw [h5]; rfl
              have h8 := cntS_600 h6'
              rw [h7, h3] at h2
              simp at h4
              omega
            · have hst := HH.out.stored HLT.out hL3 hn3' hrv3 hc3 h6'
              have hB3 := HH.out.below.trans (hc3.below HH.out.live.env.le HH.out.live.base)
              have k1 : w3.cell? ⟨g, off + j, none⟩ = some (.string s) := by
                have hT3 : TextsAt w3 (.slice (some ⟨g, off, none⟩) b.length cb) b := HTB.out.below (by rw [← HB.out]; exact hB3)
                obtain ⟨g', off', e', k1'⟩ := hT3.get HLT.out
                cases e'
                rw [HS.out]; exact k1'
              have hrow := hst.row
              obtain ⟨i0, hi, hz0, hz1, hz2⟩ := info_parts infoStr
              have hbase : B ≤ w3.heap.size := hst.live.env.le
              have hone : ∀ u ∈ [Value.string s], u.oneCell' = true := by simp [Value.oneCell']
              have HST := Lib.hid hst
              have HB3 := Lib.hid hB3
              clear hL3 hn3' hrv3 hc3 hst hB3 HAP
              go_wp2_with (at_builtin; refine wpList_append_own_at _ rfl _ _ 34 rfl B 9 i0 (.string ⟨#[]⟩) 1 16 Tryz.underlying34 hi hz0 hz1 hz2 rfl (by decide) _ _ _ rfl (hrow.alloc _) ⟨w3.heap.size, 0, none⟩ 1 1 [.string s] rfl rfl (World.news_of_block (cs := #[.string s]) (t := 9) (fr := (0, 0)) (heap_alloc_new w3 _)) hone (by unfold maxLen; omega) (by omega) (by simp; omega) ?_)
              intro v' w5 hown5 hgrow5 hnil5 hat5
              have hH5 := HST.out.next HS.out (by rw [show strs (b.take j) = (b.map fun r => Value.string (bs r)).take j from List.map_take]; exact hown5) hgrow5 (H := w3.heap.size + 1) (by omega) hat5
              clear hown5 hgrow5 hnil5 hat5 hrow
              go_wp2_with fail
              exact ⟨⟨j + 1, D3, S3, by omega, by simp, hH5⟩, by simp [intOf]; omega⟩
        · obtain rfl : j = b.length := by omega
          have hL := hH.live
          have hrow := hH.row
          have hsep := hH.sep
          have hnD := hH.n
          have hsm := hH.small
          rw [List.take_length] at hL hrow hsm
          have HOP := hL.open_now (by omega) hN0
          have HL := Lib.hid hL
          have HROW := Lib.hid hrow
          have HSEP := Lib.hid hsep
          have HND := Lib.hid hnD
          have HBR := Lib.hid hBr
          obtain ⟨vx, vc, hvs⟩ : ∃ x c, u13 = Value.slice x b.length c := by
            rcases hrow.2 with ⟨hv, h0⟩ | ⟨g, cap, cur, hv, _⟩
            · exact ⟨_, _, by rw [h0]; exact hv⟩
            · exact ⟨_, _, hv⟩
          subst hvs
          clear hH hLr hEr hBr hL hrow hsep hnD hsm
          go_wp2_with fail
          refine HOP.mono ?_; rintro e w5 ⟨m, S', rfl, hlog, hrec, hb5⟩
          have HRC := Records_ok w5 hlog
          rw [hrec, List.nil_append] at HRC
          have HB5 := Lib.hid hb5
          clear hlog hrec hb5 HOP
          go_wp2_with fail
          refine HRC.mono ?_; rintro e w6 ⟨rv, rfl, hv, hb6⟩
          have hb6' : Below wr.heap.size wr w6 := HB5.out.trans (hb6.mono HB5.out.size)
          have hrow6 := row_chg HROW.out (Below.chg hb6' []) (by simp)
          have HTX := Texts_any b b rv _ w6 (texts_row hv) (texts_row hrow6) (by omega)
          rw [decide_eq_true rfl] at HTX
          have HL6 := Lib.hid (HL.out.below hb6')
          have HROW6 := Lib.hid hrow6
          have HBW := Lib.hid (HBR.out.trans (hb6'.mono HL.out.env.le))
          clear hv hb6 hb6' hrow6 HRC
          go_wp2_with fail
          refine HTX.mono ?_; rintro e w7 ⟨rfl, n7, hw7⟩
          have hb7 : Below w6.heap.size w6 w7 := by rw [hw7]; exact below_drewN _ _
          have HL7 := Lib.hid (HL6.out.below hb7)
          have HROW7 := Lib.hid (row_chg HROW6.out (Below.chg hb7 []) (by simp))
          have HB7 := Lib.hid (HBW.out.trans (hb7.mono HL6.out.env.le))
          clear hw7 hb7 HTX
          have hk7 : KeptAt (w7.alloc (.cells #[] 98)) (.slice ko ks.length ck) ks := by
            have hbw : Below B w (w7.alloc (.cells #[] 98)) := HB7.out.alloc HL7.out.env.le _
            exact HTK.out.chg (fun k hk _ => hbw.block k (by rw [HB.out]; exact hk)) hbw.size
          obtain ⟨_, hknews⟩ := kept_news hk7
          obtain ⟨i0, z0, hi0, hz0, hi1, hi2, hi3⟩ := info_kept
          have hrow0 : (w7.alloc (.cells #[] 98)).ownsRow w7.heap.size 98 2 (.slice (some ⟨w7.heap.size, 0, none⟩) 0 0) 0 [] := World.ownsRow_lit w7 #[] 0 (Nat.le_refl _) (Nat.zero_le _) rfl
          clear hk7
          go_wp2_with (at_builtin; refine wpList_append_any _ rfl _ _ 37 rfl w7.heap.size 98 i0 z0 2 16 Tryz.underlying37 hi0 hz0 hi1 hi2 hi3 (by decide) _ 0 [] rfl hrow0 ko ks.length ck (keptCells ks) rfl (keptCells_length ks) hknews (kept_one ks) (by unfold maxLen; omega) (by omega) (by simp) ?_)
          intro v' w8 hown8 hgrow8 hat8
          have hb8 : Below w7.heap.size w7 w8 := ((Below.refl _ _).alloc (Nat.le_refl _) _).grown hgrow8 (by simp) (fun k hk => (hrow0.lt k hk).1)
          have hk8 : KeptAt w8 v' ks := kept_row (by simpa using hown8)
          have hv8 : ∀ q, v'.ownBlock = some q → q ∉ d.F := fun q hq hF => by
            have h1 := (hown8.lt q hq).1
            have h2 := HL7.out.lt q (List.mem_cons_of_mem _ (List.mem_append_left _ hF))
            omega
          have hL8 := HL7.out.below hb8
          have HCR := hL8.crash ks v' hk8 (by omega) hv8
          have HB8 := Lib.hid (HB7.out.trans (hb8.mono HL7.out.env.le))
          have hrow8 := row_chg HROW7.out (Below.chg hb8 []) (by simp)
          have hdb := hL8.disk.F
          have hle8 := hL8.env.le
          obtain ⟨j, j1, _, jscan, jgood, _⟩ := hL8.reopen (by omega) ks
          have hrd := row_not_disk hrow8 hL8.disk
          have hn8 : 32 ≤ D.n := hL8.n32
          clear hown8 hgrow8 hat8 hb8 hk8 hv8 hL8 hrow0 hknews
          go_wp2_with fail
          refine HCR.mono ?_; rintro e w9 ⟨rfl, hd9, he9, hc9⟩
          have hB9 : Below B w w9 := HB8.out.trans (hc9.below hle8 hdb)
          have HST := started hd9 he9 hn8
          have hrow9 := row_chg hrow8 hc9 hrd
          have hle9 := he9.le
          clear hc9 HCR hd9 he9 hrow8
          go_wp2_with fail
          refine HST.mono ?_; rintro e w10 ⟨rfl, hi10, hc10⟩
          have hB10 : Below B w w10 := hB9.trans (hc10.below hle9 hdb)
          have hrow10 := row_chg hrow9 hc10 hrd
          have HOP := hi10.opened N1 (N1 + b.length) (by omega) jgood hN0 (by omega)
          have hle10 := hi10.env.le
          clear hc10 hi10 HST hrow9 hrd hB9 jgood hle9
          go_wp2_with fail
          refine HOP.mono ?_; rintro e w11 ⟨l11, S11, rfl, _, _, hL11, _, hb11⟩
          have hB11 : Below B w w11 := hB10.trans (hb11.mono hle10)
          have hrow11 := row_chg hrow10 (Below.chg hb11 []) (by simp)
          have hrec : S11.recs = b.take j := by
            have := (hL11.scan.det jscan).1
            simpa using this
          have hjl : (b.take j).length = j := by rw [List.length_take]; omega
          have HRC := Records_ok w11 hL11.log
          rw [hrec, hjl] at HRC
          have hE11 := hL11.env
          have HJL := Lib.hid hjl
          have HROW11 := Lib.hid hrow11
          clear hb11 hrow10 hB10 hL11 HOP jscan hrec hjl hrow11 hle10
          go_wp2_with fail
          refine HRC.mono ?_; rintro e w12 ⟨rv, rfl, hv, hb12⟩
          have hB12 : Below B w w12 := hB11.trans (hb12.mono hE11.le)
          have hE12 := hE11.grew hb12
          have HROW12 := Lib.hid (row_chg HROW11.out (Below.chg hb12 []) (by simp))
          have hv' : w12.ownsRow w11.heap.size 9 1 rv (b.take j).length (strs (b.take j)) := by rw [HJL.out]; exact hv
          have HTV := Lib.hid (texts_row hv')
          obtain ⟨rx, rc, hrs⟩ : ∃ x c, rv = Value.slice x j c := by
            rcases hv.2 with ⟨h, h0⟩ | ⟨g, cap, cur, h, _⟩
            · exact ⟨_, _, by rw [h0]; exact h⟩
            · exact ⟨_, _, h⟩
          subst hrs
          have z1 : decide ((j : Int) ≤ b.length) = true := by rw [decide_eq_true_iff]; omega
          have z2 : (0 : Int) ≤ (j : Int) := by omega
          have z3 : (j : Int) ≤ (b.length : Int) := by omega
          clear hv hv' hb12 HRC hB11 hE11
          have hcases := HROW12.out.2
          have hms : ∀ (vx : Option Addr) (vc : Nat), w12.ownsRow B 9 1 (.slice vx b.length vc) b.length (strs b) → TextsAt w12 (.slice vx j vc) (b.take j) := by
            intro vx vc h
            rcases h.2 with ⟨h1, h0⟩ | ⟨g, cap, cur, h1, _, hg, _, _, _, htake⟩
            · have hj0 : j = 0 := by omega
              subst hj0
              exact ⟨vx, vc, rfl, .inl rfl⟩
            · cases h1
              refine ⟨_, _, by rw [HJL.out], .inr ⟨g, 0, rfl, (Array.getElem?_eq_some_iff.1 hg).1, fun i hi => ?_⟩⟩
              rw [List.length_map, HJL.out] at hi
              have hTb := texts_row h
              obtain ⟨g', off', e', k'⟩ := hTb.get (j := i) (by omega)
              cases e'
              rw [k']
              congr 2
              rw [List.getD_eq_getElem?_getD, List.getD_eq_getElem?_getD, List.getElem?_map, List.getElem?_take, if_pos hi, List.getElem?_eq_getElem (show i < b.length by omega)]
              rfl
          have HTX := Texts_any (b.take j) (b.take j) _ _ w12 HTV.out (hms _ _ HROW12.out) (by rw [HJL.out]; omega)
          rw [decide_eq_true rfl] at HTX
          have HEN := Lib.hid hE12
          clear hms hE12
          rcases hcases with ⟨hc1, hc2⟩ | ⟨g, cap, cur, hc1, _, _, hcap, _⟩
          · simp only [Value.slice.injEq] at hc1
            obtain ⟨rfl, hb0, rfl⟩ := hc1
            obtain rfl : j = 0 := by omega
            clear hc2
            go_wp2_with fail
            refine HTX.mono ?_; rintro e w13 ⟨rfl, m2, hw13⟩
            have hb13 : Below w12.heap.size w12 w13 := by rw [hw13]; exact below_drewN _ _
            have HWK := wakes_ok w13 (HEN.out.grew hb13)
            have HB13 := Lib.hid (hB12.trans (hb13.mono HEN.out.le))
            have HE13 := Lib.hid (HEN.out.grew hb13)
            clear hw13 hb13 HTX
            go_wp2_with fail
            refine HWK.mono ?_; rintro e w14 ⟨rfl, hb14⟩
            go_wp2_with fail
            go_ret
            exact ⟨rfl, HB13.out.trans (hb14.mono HE13.out.le)⟩
          · simp only [Value.slice.injEq] at hc1
            obtain ⟨rfl, _, rfl⟩ := hc1
            have z4 : (j : Int) ≤ (vc : Int) := by omega
            go_wp2_with fail
            refine HTX.mono ?_; rintro e w13 ⟨rfl, m2, hw13⟩
            have hb13 : Below w12.heap.size w12 w13 := by rw [hw13]; exact below_drewN _ _
            have HWK := wakes_ok w13 (HEN.out.grew hb13)
            have HB13 := Lib.hid (hB12.trans (hb13.mono HEN.out.le))
            have HE13 := Lib.hid (HEN.out.grew hb13)
            clear hw13 hb13 HTX
            go_wp2_with fail
            refine HWK.mono ?_; rintro e w14 ⟨rfl, hb14⟩
            go_wp2_with fail
            go_ret
            exact ⟨rfl, HB13.out.trans (hb14.mono HE13.out.le)⟩
end Go.Proofs.YtfijhffhlklddaaGreatDoor
