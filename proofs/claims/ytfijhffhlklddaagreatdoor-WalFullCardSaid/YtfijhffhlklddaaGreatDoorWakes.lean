/-
  The closed run that every statement of the log ends with.
-/
import Derived.Test.YtfijhffhlklddaaGreatDoorLive
namespace Go.Proofs.YtfijhffhlklddaaGreatDoor
open Go.RowKit

/-- A new disk, and a log over it. -/
theorem fresh_idle {E : Errs} {B : Nat} {w w' : World} {d : Dk} {n : Nat} (he : Env E B w) (hn : 32 ≤ n) (hd : DiskAt w.heap.size w' d (freshD n)) (hb : Below w.heap.size w w') : Idle E B w' d (freshD n) :=
  { env := he.grew hb, disk := hd.mono he.le, dd := rfl, da := rfl, n32 := hn, none := fun _ => rfl }
theorem Idle.first {E : Errs} {B : Nat} {w : World} {d : Dk} {n : Nat} (h : Idle E B w d (freshD n)) (f : Nat) (hf0 : 0 < f) (hf : f ≤ 256) :
    Calls Tryz.prog 10 #[d.p, .int .u32 f] w fun e w' => ∃ l S, e = .returned (.tuple #[lp l, .int .i64 0]) ∧ w.heap.size ≤ l ∧ (∀ q, S.rv.ownBlock = some q → w.heap.size ≤ q) ∧
      Live E B w' d l (freshD n) S f f 0 (freshD n).reg [] [] 0 ∧ Below w.heap.size w w' := by
  refine (h.opened f f hf (fresh_good n f hf0) hf0 (Nat.le_refl _)).mono fun e w' hh => ?_
  obtain ⟨l, S, he, hl, hq, hL, _, hb⟩ := hh
  have hs := hL.scan
  obtain ⟨e1, e2⟩ := fresh_scan hs
  rw [fresh_next n f hf0, e1, e2] at hL
  exact ⟨l, S, he, hl, hq, hL, hb⟩

theorem F_step {d : Dk} {l b : Nat} {S S' : LogS} {w : World} (h : ∀ q ∈ Live.F d l S, b ≤ q) (hr : S'.rv.ownBlock = S.rv.ownBlock ∨ ∃ q, S'.rv.ownBlock = some q ∧ w.heap.size ≤ q) (hb : b ≤ w.heap.size) : ∀ q ∈ Live.F d l S', b ≤ q := by
  intro q hq
  rcases List.mem_cons.1 hq with rfl | hq
  · exact h _ (by simp)
  · rcases List.mem_append.1 hq with hq | hq
    · exact h q (List.mem_cons_of_mem _ (List.mem_append_left _ hq))
    · rcases hr with e | ⟨q', e, h'⟩
      · rw [e] at hq; exact h q (List.mem_cons_of_mem _ (List.mem_append_right _ hq))
      · rw [e] at hq; simp at hq; omega
/-- One text in a new block. -/
theorem texts_new (w : World) (r : Bytes) : TextsAt (w.alloc (.cells #[.string (bs r)] 9)) (.slice (some ⟨w.heap.size, 0, none⟩) 1 1) [r] := by
  refine ⟨some ⟨w.heap.size, 0, none⟩, 1, rfl, .inr ⟨w.heap.size, 0, rfl, by simp, fun j hj => ?_⟩⟩
  obtain rfl : j = 0 := by simp at hj; omega
  rw [Lib.cell_of_heap (heap_alloc_new w _)]
  rfl
theorem cnt_a : cntS [97].length = 1 := rfl
theorem kept_nil (w : World) : KeptAt w (.slice none 0 0) [] := ⟨none, 0, rfl, .inl rfl⟩

/-- What the closed run finds behind its crash. -/
theorem wakes_found {E : Errs} {B : Nat} {w : World} {d : Dk} {l : Nat} {D : DiskS} {S : LogS} (h : Live E B w d l D S 5 5 0 (freshD 64).reg [] [[97], [98]] 1) {recs : List Bytes} {u : Nat} (hs : Scan (D.again []).reg 5 recs u) :
    recs = [[97]] ∧ u = 1 ∧ nextS 5 (D.again []).reg = 6 ∧ (∀ x ∈ (D.again []).reg, Good 6 x) := by
  obtain ⟨h1, h2, h3, h4, h5⟩ := h.st.crash []
  have h6 := h5 (fun _ => rfl)
  have e1 : (wallS 5 [[97], [98]]).take (wallS 5 (([[97], [98]] : List Bytes).take 1)).length = wallS 5 [[97]] := by
    show (makeS 5 [97] ++ wallS 6 [[98]]).take (makeS 5 [97] ++ wallS 6 []).length = makeS 5 [97] ++ wallS 6 []
    rw [show wallS 6 [] = [] from rfl, List.append_nil, List.take_left' rfl]
  rw [e1] at h6
  obtain ⟨j, j1, j2, j3, j4, j5⟩ := Go.Proofs.YtfijhffhlklddaaGreatDoor.reopen (recs0 := []) (rs := [[97]]) h.good h.pos (by decide) (Nat.le_refl _) h.scan (by simp) h1 h2 h6
  have hj1 : j = 1 := by
    have : 1 ≤ j := j3 1 (Nat.le_refl _) (fun p hp => by
      have e2 : (wallS 5 (([[97]] : List Bytes).take 1)).length = (wallS 5 (([[97], [98]] : List Bytes).take 1)).length := rfl
      rw [h4 p (by rw [← e2]; exact hp)]
      show (makeS 5 [97] ++ wallS 6 [[98]]).getD p [] = (makeS 5 [97] ++ wallS 6 []).getD p []
      have hp' : p < (makeS 5 [97]).length := by
        have e3 : (wallS 5 (([[97]] : List Bytes).take 1)).length = (makeS 5 [97]).length := by
          show (makeS 5 [97] ++ wallS 6 []).length = _
          rw [show wallS 6 [] = [] from rfl, List.append_nil]
        rw [← e3]; exact hp
      rw [getD_app_l _ _ _ hp', getD_app_l _ _ _ hp'])
    simp at j1; omega
  subst hj1
  obtain ⟨e2, e3⟩ := hs.det j2
  have hN : ∀ x ∈ (D.again []).reg, Good 6 x := j4
  have hnx : nextS 5 (D.again []).reg = 6 := Nat.le_antisymm (nextS_le _ 6 hN 5 (by decide)) (j5 rfl (by decide))
  refine ⟨by rw [e2]; rfl, ?_, hnx, hN⟩
  rw [e3]
  show 0 + (makeS 5 [97] ++ wallS 6 []).length = 1
  rw [show wallS 6 [] = [] from rfl, List.append_nil, makeS_length]
  rfl

set_option maxRecDepth 100000 in
set_option maxHeartbeats 8000000 in
theorem wakes_ok {E : Errs} {B : Nat} (w : World) (henv : Env E B w) :
    Calls Tryz.prog 11 #[] w fun e w' => e = .returned (.bool true) ∧ Below w.heap.size w w' := by
  have HN := New_ok 64 (by decide) (by decide) w
  have HE := Lib.hid henv
  clear henv
  have hA : bs [97] = (⟨#[97]⟩ : ByteArray) := rfl
  have hB : bs [98] = (⟨#[98]⟩ : ByteArray) := rfl
  go_enter Tryz.func11, Tryz.ntmps11
  go_wp2_with fail
  refine HN.mono ?_; rintro e w1 ⟨d, rfl, hd1, hb1⟩
  have hi1 := fresh_idle HE.out (by decide) hd1 hb1
  have HO := hi1.first 5 (by decide) (by decide)
  have hdb : ∀ q ∈ d.F, w.heap.size ≤ q := hd1.F
  have HDB := Lib.hid hdb
  clear hd1 hi1 hdb
  go_wp2_with fail
  refine HO.mono ?_; rintro e w2 ⟨l, S, rfl, hl2, hq2, hL2, hb2⟩
  have hB2 : Below w.heap.size w w2 := hb1.trans (hb2.mono hb1.size)
  have hF2 : ∀ q ∈ Live.F d l S, w.heap.size ≤ q := by
    intro q hq
    rcases List.mem_cons.1 hq with rfl | hq
    · exact Nat.le_trans hb1.size hl2
    · rcases List.mem_append.1 hq with hq | hq
      · exact HDB.out q hq
      · exact Nat.le_trans hb1.size (hq2 q (by simpa using hq))
  have HAP := hL2.append [97] (by decide) (by decide)
  rw [hA] at HAP
  have HL2 := Lib.hid hL2
  have HF2 := Lib.hid hF2
  clear hb1 hb2 hl2 hq2 hL2 hF2 HO
  go_wp2_with fail
  refine HAP.mono ?_
  rintro e w3 (⟨_, h1, _⟩ | ⟨_, _, h2, _⟩ | ⟨rfl, _, D3, S3, hL3, hn3, hrv3, hc3⟩)
  · exact absurd h1 (by decide)
  · have := HL2.out.used
    rw [this] at h2
    exact absurd h2 (by decide)
  have hB3 : Below w.heap.size w w3 := hB2.trans (hc3.below hB2.size HF2.out)
  have hF3 := F_step HF2.out hrv3 hB2.size
  have hL3 : Live E B w3 d l D3 S3 5 5 0 (freshD 64).reg [] [[97]] 0 := hL3
  have HSY := hL3.sync
  have HF3 := Lib.hid hF3
  have HN3 := Lib.hid (show D3.n = 64 from hn3)
  clear hc3 hrv3 hL3 hF3 hn3 HAP
  go_wp2_with fail
  refine HSY.mono ?_; rintro e w4 ⟨rfl, hL4, hc4⟩
  have hB4 : Below w.heap.size w w4 := hB3.trans (hc4.below hB3.size HF3.out)
  have hL4 : Live E B w4 d l D3.flushed S3 5 5 0 (freshD 64).reg [] [[97]] 1 := hL4
  have HAP := hL4.append [98] (by decide) (by decide)
  rw [hB] at HAP
  have HL4 := Lib.hid hL4
  clear hc4 hL4 HSY
  go_wp2_with fail
  refine HAP.mono ?_
  rintro e w5 (⟨_, h1, _⟩ | ⟨_, _, h2, _⟩ | ⟨rfl, _, D5, S5, hL5, hn5, hrv5, hc5⟩)
  · exact absurd h1 (by decide)
  · have h3 := HL4.out.used
    have h4 : logsOf D3.flushed.n = 15 := by show logsOf D3.n = 15; rw [HN3.out]; rfl
    rw [h3, h4] at h2
    have h5 : (wallS 5 [[97]]).length = 1 := by
      show (makeS 5 [97] ++ wallS 6 []).length = 1
      rw [show wallS 6 [] = [] from rfl, List.append_nil, makeS_length]; rfl
    rw [h5] at h2
    exact absurd h2 (by decide)
  have hB5 : Below w.heap.size w w5 := hB4.trans (hc5.below hB4.size HF3.out)
  have hL5 : Live E B w5 d l D5 S5 5 5 0 (freshD 64).reg [] [[97], [98]] 1 := hL5
  have hn5 : D5.n = 64 := hn5.trans HN3.out
  have HCR := hL5.crash [] (.slice none 0 0) (kept_nil w5) (by decide) (.inl rfl)
  have HL5 := Lib.hid hL5
  have HN5 := Lib.hid hn5
  clear hc5 hrv5 hL5 hn5 HAP
  go_wp2_with fail
  refine HCR.mono ?_; rintro e w6 ⟨rfl, hd6, he6, hc6⟩
  have hB6 : Below w.heap.size w w6 := hB5.trans (hc6.below hB5.size HDB.out)
  have HST := started hd6 he6 (by rw [HN5.out]; decide)
  clear hc6 HCR hd6 he6
  go_wp2_with fail
  refine HST.mono ?_; rintro e w7 ⟨rfl, hi7, hc7⟩
  have hB7 : Below w.heap.size w w7 := hB6.trans (hc7.below hB6.size HDB.out)
  obtain ⟨_, _, _, _, hg7, _⟩ := HL5.out.reopen (by decide) []
  have HOP := hi7.opened 5 7 (by decide) hg7 (by decide) (by decide)
  clear hc7 hi7 HST hg7
  go_wp2_with fail
  refine HOP.mono ?_; rintro e w8 ⟨l8, S8, rfl, _, _, hL8, _, hb8⟩
  have hB8 : Below w.heap.size w w8 := hB7.trans (hb8.mono hB7.size)
  obtain ⟨f1, f2, f3, f4⟩ := wakes_found HL5.out hL8.scan
  have g1 := hL8.next
  have g2 := hL8.logs
  have HRC := Records_ok w8 hL8.log
  have HLG := Lib.hid hL8.log
  rw [f1] at HRC
  rw [f3] at g1
  have g2' : S8.logs = 15 := by rw [g2]; show logsOf D5.n = 15; rw [HN5.out]; rfl
  have G1 := Lib.hid (show S8.next = 6 from g1)
  have G2 := Lib.hid g2'
  have G3 := Lib.hid f2
  clear f1 f2 f3 f4 g1 g2 g2' hL8 hb8 HOP
  go_wp2_with fail
  refine HRC.mono ?_; rintro e w9 ⟨v, rfl, hv, hb9⟩
  have hB9 : Below w.heap.size w w9 := hB8.trans (hb9.mono hB8.size)
  have hB10 : Below w.heap.size w (w9.alloc (.cells #[.string ⟨#[97]⟩] 9)) := hB9.alloc hB9.size _
  have ht1 : TextsAt (w9.alloc (.cells #[.string ⟨#[97]⟩] 9)) v [[97]] := (texts_row hv).below ((Below.refl _ _).alloc (Nat.le_refl _) _)
  have HTX := Texts_any [[97]] [[97]] v _ _ ht1 (texts_new w9 [97]) (by decide)
  have HLG9 := Lib.hid ((HLG.out.below hb9).below ((Below.refl _ _).alloc (Nat.le_refl _) (.cells #[.string ⟨#[97]⟩] 9)))
  clear hv hb9 ht1 HRC
  go_wp2_with fail
  refine HTX.mono ?_; rintro e w11 ⟨rfl, m, rfl⟩
  obtain ⟨w11, hw11⟩ : ∃ w11, w11 = (w9.alloc (.cells #[.string ⟨#[97]⟩] 9)).drewN m := ⟨_, rfl⟩
  have hB11 : Below w.heap.size w w11 := by rw [hw11]; exact hB10.trans (below_drewN _ _)
  have hl11 : LogAt B w11 l8 d S8 := by rw [hw11]; exact HLG9.out.below (below_drewN _ _)
  rw [← hw11]
  have HNX := Next_ok w11 hl11
  have HLF := Left_ok w11 hl11
  rw [G1.out] at HNX
  rw [G2.out, G3.out] at HLF
  clear hw11 hl11 HTX
  go_wp2_with fail
  refine HNX.mono ?_; rintro e w12 ⟨rfl, rfl⟩
  go_wp2_with fail
  refine HLF.mono ?_; rintro e w12 ⟨rfl, m2, rfl⟩
  go_wp2_with fail
  go_ret
  exact ⟨rfl, hB11.trans (below_drewN _ _)⟩
end Go.Proofs.YtfijhffhlklddaaGreatDoor
