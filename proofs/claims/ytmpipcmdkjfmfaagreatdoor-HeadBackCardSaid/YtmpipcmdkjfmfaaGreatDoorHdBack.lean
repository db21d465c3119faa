/-
  HeadBack's walk: the head of a head's sector is it.
-/
import Derived.Test.YtmpipcmdkjfmfaaGreatDoorHdLaw
namespace Go.Proofs.YtmpipcmdkjfmfaaGreatDoor
open Go.RowKit

set_option maxRecDepth 100000 in
set_option maxHeartbeats 8000000 in
theorem back_ok {E : Errs} {B : Nat} (h : Hd) (b : ByteArray) (hbm : b.size ≤ maxLen) (w : World) (henv : Env E B w) :
    Calls Tryz.prog 4 #[hv h, .string b] w fun e w' => e = .returned (.bool true) ∧ Below w.heap.size w w' := by
  have HENV := Lib.hid henv
  have hb0 : Below w.heap.size w (w.alloc (hcells h)) := (Below.refl _ _).alloc (Nat.le_refl _) _
  unfold maxLen at hbm
  clear henv
  by_cases h2 : 2000 < b.size
  · have q1 : decide ((2000 : Int) < b.size) = true := by rw [decide_eq_true_iff]; omega
    have HW := hwakes_ok _ (HENV.out.grew hb0)
    have HB0 := Lib.hid hb0
    clear hb0
    go_enter Tryz.func4, Tryz.ntmps4
    go_wp2_with fail
    refine HW.mono ?_; rintro e w1 ⟨rfl, hb1⟩
    go_wp2_with fail
    go_ret
    exact ⟨rfl, HB0.out.trans (hb1.mono (by simp))⟩
  have q1 : decide ((2000 : Int) < b.size) = false := by rw [decide_eq_false_iff_not]; omega
  have hend : ∀ wz : World, Below w.heap.size w wz → Calls Tryz.prog 20 #[.string b] wz fun e w' => (∃ x : Hd, x.good = true ∧ bs x.sector = b ∧ e = .returned (.tuple #[hv x, .int .i64 0]) ∧ Below wz.heap.size wz w') ∨ (e = .returned (.tuple #[.agg #[.int .u32 0, .int .i64 0, .int .u32 0], .int .i64 11]) ∧ Below wz.heap.size wz w') := fun wz hz => by
    refine (Decode_any b wz (HENV.out.grew hz)).mono fun e w' hh => ?_
    obtain ⟨he, hb⟩ := hh
    cases hx : decH (byt b) with
    | none => rw [hx] at he; exact .inr ⟨he, hb⟩
    | some x =>
      rw [hx] at he
      obtain ⟨g1, g2⟩ := sector_decH hx
      exact .inl ⟨x, g1, by rw [g2]; exact bs_of b, he, hb⟩
  have HEND := Lib.hid hend
  have HWK := Lib.hid (fun (wz : World) (hz : Below w.heap.size w wz) => hwakes_ok wz (HENV.out.grew hz))
  have HEN := Lib.hid (fun (x : Hd) (hx : x.good = true) (wz : World) (hz : Below w.heap.size w wz) => Encode_ok x hx wz (HENV.out.grew hz))
  have HB0 := Lib.hid hb0
  clear hb0 hend h2
  cases hg : h.good with
  | false =>
    have HE := Encode_bad h hg
    clear hg
    go_enter Tryz.func4, Tryz.ntmps4
    go_wp2_with fail
    refine (HE _).mono ?_; rintro e wz ⟨rfl, hb1⟩
    have hBz := HB0.out.trans (hb1.mono (by simp))
    have HBZ := Lib.hid hBz
    have HD := HEND.out wz hBz
    clear hb1 hBz HE
    go_wp2_with fail
    refine HD.mono ?_; rintro e w2 (⟨x, hxg, hxb, rfl, hb2⟩ | ⟨rfl, hb2⟩)
    · have hB3 := (HBZ.out.trans (hb2.mono HBZ.out.size)).alloc (HBZ.out.trans (hb2.mono HBZ.out.size)).size (hcells x)
      have HE3 := HEN.out x hxg _ hB3
      rw [hxb] at HE3
      have HB3 := Lib.hid hB3
      clear hb2 hB3 hxg hxb HD
      go_wp2_with fail
      refine HE3.mono ?_; rintro e w4 ⟨rfl, hb4⟩
      have hB4 := HB3.out.trans (hb4.mono HB3.out.size)
      have HW4 := HWK.out w4 hB4
      have HB4 := Lib.hid hB4
      clear hb4 hB4 HE3
      go_wp2_with fail
      refine HW4.mono ?_; rintro e w5 ⟨rfl, hb5⟩
      go_wp2_with fail
      go_ret
      exact ⟨rfl, HB4.out.trans (hb5.mono HB4.out.size)⟩
    · have hB3 := (HBZ.out.trans (hb2.mono HBZ.out.size)).alloc (HBZ.out.trans (hb2.mono HBZ.out.size)).size (.cells #[.int .u32 0, .int .i64 0, .int .u32 0] 24)
      have HW3 := HWK.out _ hB3
      have HB3 := Lib.hid hB3
      clear hb2 hB3 HD
      go_wp2_with fail
      refine HW3.mono ?_; rintro e w5 ⟨rfl, hb5⟩
      go_wp2_with fail
      go_ret
      exact ⟨rfl, HB3.out.trans (hb5.mono HB3.out.size)⟩
  | true =>
    have HE := HEN.out h hg _ HB0.out
    have HD0 : ∀ wz : World, Below w.heap.size w wz → Calls Tryz.prog 20 #[.string (bs h.sector)] wz fun e w' => e = .returned (.tuple #[hv h, .int .i64 0]) ∧ Below wz.heap.size wz w' := fun wz hz => by
      refine (Decode_any (bs h.sector) wz (HENV.out.grew hz)).mono fun e w' hh => ?_
      obtain ⟨he, hb⟩ := hh
      rw [byt, bs_data, decH_sector h hg] at he
      exact ⟨he, hb⟩
    have HDD := Lib.hid HD0
    have hz : (bs h.sector).size = 256 := by rw [bs_size, h.sector_length]
    obtain ⟨s, hs⟩ : ∃ s, s = bs h.sector := ⟨_, rfl⟩
    rw [← hs] at HE HDD hz
    clear hg HD0 hs
    go_enter Tryz.func4, Tryz.ntmps4
    go_wp2_with fail
    refine HE.mono ?_; rintro e w1 ⟨rfl, hb1⟩
    have hB1 := HB0.out.trans (hb1.mono (by simp))
    obtain ⟨c0, c1, c2⟩ := boxed h hb1
    have hlt : w.heap.size < w1.heap.size := World.block_lt_of_cell? w1 _ c0
    have HD1 := HDD.out w1 hB1
    have HB1 := Lib.hid hB1
    clear hb1 hB1 HE
    go_wp2_with fail
    refine HD1.mono ?_; rintro e w2 ⟨rfl, hb2⟩
    replace c0 := (hb2.cell (p := ⟨w.heap.size, 0, none⟩) hlt).trans c0
    replace c1 := (hb2.cell (p := ⟨w.heap.size, 1, none⟩) hlt).trans c1
    replace c2 := (hb2.cell (p := ⟨w.heap.size, 2, none⟩) hlt).trans c2
    have hlt2 : w.heap.size < w2.heap.size := World.block_lt_of_cell? w2 _ c0
    have hBz := (HB1.out.trans (hb2.mono HB1.out.size)).alloc (HB1.out.trans (hb2.mono HB1.out.size)).size (hcells h)
    have HBZ := Lib.hid hBz
    have HD := HEND.out _ hBz
    clear hb2 hBz HD1 hlt
    go_wp2_with fail
    refine HD.mono ?_; rintro e w3 (⟨x, hxg, hxb, rfl, hb3x⟩ | ⟨rfl, hb3x⟩)
    · have hB3 := (HBZ.out.trans (hb3x.mono HBZ.out.size)).alloc (HBZ.out.trans (hb3x.mono HBZ.out.size)).size (hcells x)
      have HE3 := HEN.out x hxg _ hB3
      rw [hxb] at HE3
      have HB3 := Lib.hid hB3
      clear hb3x hB3 hxg hxb HD
      go_wp2_with fail
      refine HE3.mono ?_; rintro e w4 ⟨rfl, hb4⟩
      have hB4 := HB3.out.trans (hb4.mono HB3.out.size)
      have HW4 := HWK.out w4 hB4
      have HB4 := Lib.hid hB4
      clear hb4 hB4 HE3
      go_wp2_with fail
      refine HW4.mono ?_; rintro e w5 ⟨rfl, hb5⟩
      go_wp2_with fail
      go_ret
      exact ⟨rfl, HB4.out.trans (hb5.mono HB4.out.size)⟩
    · have hB3 := (HBZ.out.trans (hb3x.mono HBZ.out.size)).alloc (HBZ.out.trans (hb3x.mono HBZ.out.size)).size (.cells #[.int .u32 0, .int .i64 0, .int .u32 0] 24)
      have HW3 := HWK.out _ hB3
      have HB3 := Lib.hid hB3
      clear hb3x hB3 HD
      go_wp2_with fail
      refine HW3.mono ?_; rintro e w5 ⟨rfl, hb5⟩
      go_wp2_with fail
      go_ret
      exact ⟨rfl, HB3.out.trans (hb5.mono HB3.out.size)⟩
end Go.Proofs.YtmpipcmdkjfmfaaGreatDoor
