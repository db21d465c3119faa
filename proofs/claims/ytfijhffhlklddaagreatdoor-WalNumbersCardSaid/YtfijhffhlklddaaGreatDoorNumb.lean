/-
  WalNumbers' walk: numbers only rise, through whatever syncs, crashes and openings: no record ever bears one that stands anywhere in the log already.
-/
import Derived.Test.YtfijhffhlklddaaGreatDoorNum
namespace Go.Proofs.YtfijhffhlklddaaGreatDoor
open Go.RowKit

/-- What holds between two steps: a log at work, and its next number. -/
def Numb (E : Errs) (B : Nat) (w : World) (d : Dk) (l i nx : Nat) (W : World) : Prop :=
  ∃ D S N0 U0 b0 recs0 rs k, Live E B W d l D S 1 N0 U0 b0 recs0 rs k ∧ D.n = 100 ∧ nx = N0 + rs.length ∧ nx ≤ 1 + i ∧ recs0.length ≤ 24 ∧ Below B w W
theorem Numb.below {E : Errs} {B : Nat} {w : World} {d : Dk} {l i nx : Nat} {W W' : World} (h : Numb E B w d l i nx W) (hb : Below W.heap.size W W') : Numb E B w d l i nx W' := by
  obtain ⟨D, S, N0, U0, b0, recs0, rs, k, h1, h2, h3, h4, h5, h6⟩ := h
  exact ⟨D, S, N0, U0, b0, recs0, rs, k, h1.below hb, h2, h3, h4, h5, h6.trans (hb.mono h1.env.le)⟩
theorem Numb.next {E : Errs} {B : Nat} {w : World} {d : Dk} {l i nx : Nat} {W : World} (h : Numb E B w d l i nx W) : Calls Tryz.prog 14 #[lp l] W fun e w' => e = .returned (.int .u32 nx) ∧ W = w' := by
  obtain ⟨D, S, N0, U0, b0, recs0, rs, k, h1, h2, h3, h4, h5, h6⟩ := h
  have := Next_ok W h1.log
  rw [h1.next, ← h3] at this
  exact this
theorem Numb.world {E : Errs} {B : Nat} {w : World} {d : Dk} {l i nx : Nat} {W : World} (h : Numb E B w d l i nx W) : Below B w W ∧ Env E B W ∧ nx ≤ 1 + i := by
  obtain ⟨D, S, N0, U0, b0, recs0, rs, k, h1, h2, h3, h4, h5, h6⟩ := h
  exact ⟨h6, h1.env, h4⟩
theorem Numb.later {E : Errs} {B : Nat} {w : World} {d : Dk} {l i nx : Nat} {W : World} (h : Numb E B w d l i nx W) : Numb E B w d l (i + 1) nx W := by
  obtain ⟨D, S, N0, U0, b0, recs0, rs, k, h1, h2, h3, h4, h5, h6⟩ := h
  exact ⟨D, S, N0, U0, b0, recs0, rs, k, h1, h2, h3, by omega, h5, h6⟩
/-- A step that appends. -/
theorem Numb.append {E : Errs} {B : Nat} {w : World} {d : Dk} {l i nx : Nat} {W : World} (h : Numb E B w d l i nx W) (hi : i ≤ 100) (r : Bytes) :
    Calls Tryz.prog 12 #[lp l, .string (bs r)] W fun e w' => (∃ c : Int, e = .returned (.int .i64 c) ∧ c ≠ 0 ∧ Numb E B w d l i nx w') ∨ (e = .returned (.int .i64 0) ∧ Numb E B w d l (i + 1) (nx + 1) w') := by
  obtain ⟨D, S, N0, U0, b0, recs0, rs, k, hL, h2, h3, h4, h5, hB⟩ := h
  refine (hL.append r (by omega) (by omega)).mono fun e w' hh => ?_
  rcases hh with ⟨he, _, hL', hb⟩ | ⟨he, _, _, hL', hb⟩ | ⟨he, _, D', S', hL', hn', _, hc⟩
  · exact .inl ⟨_, he, by decide, D, S, N0, U0, b0, recs0, rs, k, hL', h2, h3, h4, h5, hB.trans (hb.mono hL.env.le)⟩
  · exact .inl ⟨_, he, by decide, D, S, N0, U0, b0, recs0, rs, k, hL', h2, h3, h4, h5, hB.trans (hb.mono hL.env.le)⟩
  · exact .inr ⟨he, D', S', N0, U0, b0, recs0, rs ++ [r], k, hL', hn'.trans h2, by simp; omega, by omega, h5, hB.trans (hc.below hL.env.le hL.base)⟩
/-- A step that syncs. -/
theorem Numb.sync {E : Errs} {B : Nat} {w : World} {d : Dk} {l i nx : Nat} {W : World} (h : Numb E B w d l i nx W) :
    Calls Tryz.prog 13 #[lp l] W fun e w' => e = .returned (.int .i64 0) ∧ Numb E B w d l i nx w' := by
  obtain ⟨D, S, N0, U0, b0, recs0, rs, k, hL, h2, h3, h4, h5, hB⟩ := h
  refine hL.sync.mono fun e w' hh => ?_
  obtain ⟨he, hL', hc⟩ := hh
  exact ⟨he, _, S, N0, U0, b0, recs0, rs, _, hL', h2, h3, h4, h5, hB.trans (hc.below hL.env.le hL.base)⟩

/-- A step that crashes: what is there is less than the next number. -/
theorem Numb.crash {E : Errs} {B : Nat} {w : World} {d : Dk} {l i nx : Nat} {W : World} (h : Numb E B w d l i nx W) (hi : i ≤ 100) (ks : KL) (v : Value) (hk : KeptAt W v ks) (hm : ks.length ≤ 100000) (hv : ks = [] ∨ ∀ q, v.ownBlock = some q → q < B) :
    Calls Tryz.prog 15 #[d.p, v] W fun e w' => e = .returned (.tuple #[]) ∧ ∃ D : DiskS, DiskAt B w' d (D.crashed ks) ∧ Env E B w' ∧ 32 ≤ D.n ∧ D.n = 100 ∧ (∀ x ∈ (D.again ks).reg, Good nx x) ∧ 0 < nx ∧ Below B w w' := by
  obtain ⟨D, S, N0, U0, b0, recs0, rs, k, hL, h2, h3, h4, h5, hB⟩ := h
  obtain ⟨_, _, _, _, hg, _⟩ := hL.reopen (by omega) ks
  rw [← h3] at hg
  have hpos := hL.pos
  refine (hL.crash ks v hk hm (hv.imp id fun h0 q hq hF => ?_)).mono fun e w' hh => ?_
  · have h1 := hL.disk.F q hF
    have h2 := h0 q hq
    omega
  · obtain ⟨he, hd, hE, hc⟩ := hh
    exact ⟨he, D, hd, hE, hL.n32, h2, hg, by omega, hB.trans (hc.below hL.env.le hL.disk.F)⟩
/-- A disk between a crash and an opening. -/
def Down (E : Errs) (B : Nat) (w : World) (d : Dk) (nx : Nat) (W : World) : Prop :=
  ∃ D, Idle E B W d D ∧ D.n = 100 ∧ (∀ x ∈ D.reg, Good nx x) ∧ 0 < nx ∧ Below B w W
theorem Down.start {E : Errs} {B : Nat} {w : World} {d : Dk} {nx : Nat} {W : World} {D : DiskS} {ks : KL} (hd : DiskAt B W d (D.crashed ks)) (he : Env E B W) (hn : 32 ≤ D.n) (h1 : D.n = 100) (hg : ∀ x ∈ (D.again ks).reg, Good nx x) (hp : 0 < nx) (hB : Below B w W) :
    Calls Tryz.prog 16 #[d.p] W fun e w' => e = .returned (.tuple #[]) ∧ Down E B w d nx w' := by
  refine (started hd he hn).mono fun e w' hh => ?_
  obtain ⟨he', hi, hc⟩ := hh
  exact ⟨he', _, hi, h1, hg, hp, hB.trans (hc.below he.le hd.F)⟩
/-- Opened: the next number is no greater, and greater than all that is there. -/
theorem Down.opened {E : Errs} {B : Nat} {w : World} {d : Dk} {nx i : Nat} {W : World} (h : Down E B w d nx W) (hi : nx ≤ 1 + i) (hi2 : i ≤ 100) :
    Calls Tryz.prog 10 #[d.p, .int .u32 1] W fun e w' => ∃ l nx' D, e = .returned (.tuple #[lp l, .int .i64 0]) ∧ nx' ≤ nx ∧ 0 < nx' ∧ Numb E B w d l i nx' w' ∧ DiskAt B w' d D ∧ D.dead = false ∧ D.n = 100 ∧ (∀ x ∈ D.reg, Good nx' x) := by
  obtain ⟨D, hI, hn, hg, hp, hB⟩ := h
  refine (hI.opened 1 nx (by omega) hg (by decide) hp).mono fun e w' hh => ?_
  obtain ⟨l, S, he, _, _, hL, hr, hb⟩ := hh
  have hle := nextS_le D.reg nx hg 1 hp
  have hpos := hL.pos
  refine ⟨l, nextS 1 D.reg, D, he, hle, hpos, ⟨D, S, _, _, _, _, [], 0, hL, hn, rfl, by omega, by rw [hn] at hr; exact hr, hB.trans (hb.mono hI.env.le)⟩, hL.disk, hL.dd, hn, hL.good⟩

set_option maxRecDepth 100000 in
set_option maxHeartbeats 16000000 in
theorem numbers_ok {E : Errs} (w : World) (henv : Env E w.heap.size w) (ss : List StepS) (v : Value) (hss : StepsAt w v ss) (hm : ss.length ≤ 140737488355328) :
    Calls Tryz.prog 4 #[v] w fun e w' => e = .returned (.bool true) ∧ Below w.heap.size w w' := by
  have HN := New_ok 100 (by decide) (by decide) w
  obtain ⟨B, hB⟩ : ∃ B, B = w.heap.size := ⟨_, rfl⟩
  have HE := Lib.hid henv
  have HSS := Lib.hid hss
  obtain ⟨ao, cap, rfl, _⟩ := hss
  clear henv
  rw [← hB] at HE ⊢
  have HB := Lib.hid hB
  clear hB
  go_enter Tryz.func4, Tryz.ntmps4
  go_wp2_with fail
  refine HN.mono ?_; rintro e w1 ⟨d, rfl, hd1, hb1⟩
  have hb1' : Below B w w1 := by rw [HB.out]; exact hb1
  have hi1 := fresh_idle HE.out (by decide) hd1 hb1
  have HO := hi1.first 1 (by decide) (by decide)
  have HB1 := Lib.hid hb1'
  have hle1 := hi1.env.le
  clear hd1 hi1 hb1 hb1' HN
  go_wp2_with fail
  refine HO.mono ?_; rintro e w2 ⟨l, S, rfl, _, _, hL2, hb2⟩
  have hB2 : Below B w w2 := HB1.out.trans (hb2.mono hle1)
  have hN2 : Numb E B w d l 0 1 w2 := ⟨_, S, 1, 0, _, [], [], 0, hL2, rfl, rfl, Nat.le_refl _, Nat.zero_le _, hB2⟩
  have HF := Fair_ok ss _ w2 (HSS.out.below (by rw [← HB.out]; exact hB2)) hm
  have HN2 := Lib.hid hN2
  clear hL2 hb2 hB2 hN2 HO hle1
  go_wp2_with fail
  refine HF.mono ?_; rintro e w3 ⟨r, rfl, hr, n3, hw3⟩
  have hb3 : Below w2.heap.size w2 w3 := by rw [hw3]; exact below_drewN _ _
  have hN3 := HN2.out.below hb3
  have HN3 := Lib.hid hN3
  have HNX := hN3.next
  have HW3 := wakes_ok w3 hN3.world.2.1
  have HR := Lib.hid hr
  clear hb3 hw3 hN3 hr HF
  cases r with
  | false =>
    go_wp2_with fail
    refine HW3.mono ?_; rintro e w4 ⟨rfl, hb4⟩
    go_wp2_with fail
    go_ret
    exact ⟨rfl, HN3.out.world.1.trans (hb4.mono HN3.out.world.2.1.le)⟩
  | true =>
    obtain ⟨hlen, hks⟩ := HR.out rfl
    have HKS := Lib.hid hks
    clear hks HW3
    go_wp2_with fail
    refine HNX.mono ?_; rintro e w4 ⟨rfl, rfl⟩
    clear HNX
    go_wp2_with fail
    go_loopw [5, 7, 8] (fun x nx i wr => ∃ (j l' n : Nat), j ≤ ss.length ∧ i = .int .i64 j ∧ x = lp l' ∧ nx = .int .u32 n ∧ Numb E B w d l' j n wr) (fun _ _ i _ => ss.length - (intOf i).toNat)
    case atStart => exact ⟨0, l, 1, Nat.zero_le _, rfl, rfl, rfl, HN3.out⟩
    case round =>
      obtain ⟨j, l', n, hj, rfl, rfl, rfl, hN⟩ := hrel
      by_cases hlt : j < ss.length
      · obtain ⟨g, off, rfl, hst⟩ := HSS.out.get hlt
        obtain ⟨st, he⟩ : ∃ st, st = ss.getD j default := ⟨_, rfl⟩
        have hksl : st.ks.length ≤ 60 := HKS.out st (by rw [he, List.getD_eq_getElem?_getD, List.getElem?_eq_getElem hlt]; exact List.getElem_mem hlt)
        rw [← he] at hst
        obtain ⟨k0, k1, k2, k3, hk, _, _⟩ := hst
        obtain ⟨hBr, hEr, hnj⟩ := hN.world
        have hg : g < B := by rw [HB.out]; exact World.block_lt_of_cell? w _ k0
        replace k0 := (hBr.cell (p := ⟨g, _, none⟩) hg).trans k0
        replace k1 := (hBr.cell (p := ⟨g, _, none⟩) hg).trans k1
        replace k2 := (hBr.cell (p := ⟨g, _, none⟩) hg).trans k2
        replace k3 := (hBr.cell (p := ⟨g, _, none⟩) hg).trans k3
        have y1 : (0 : Int) ≤ (j : Int) := by omega
        have y2 : (j : Int) < (ss.length : Int) := by omega
        obtain ⟨kd, hkd⟩ : ∃ kd, kd = st.kind := ⟨_, rfl⟩
        obtain ⟨nm, hnm⟩ : ∃ nm, nm = st.num := ⟨_, rfl⟩
        rw [← hkd] at k0
        rw [← hnm] at k1
        obtain ⟨kl, hkl⟩ : ∃ kl, kl = st.ks.length := ⟨_, rfl⟩
        obtain ⟨x, c, hkv, hkc⟩ := hk
        have hk : KeptAt w (.slice x kl c) st.ks := ⟨x, c, by rw [hkl], hkc⟩
        rw [hkv, ← hkl] at k3
        obtain ⟨s, hs⟩ : ∃ s, s = bs st.txt := ⟨_, rfl⟩
        rw [← hs] at k2
        have hkb : st.ks = [] ∨ ∀ q, (Value.slice x kl c).ownBlock = some q → q < B := by
          rcases hkc with h | ⟨g', off', e, hg', _⟩
          · exact .inl h
          · refine .inr fun q hq => ?_
            subst e
            simp [Value.ownBlock] at hq
            rw [HB.out]; omega
        have hba : Below wr.heap.size wr (wr.alloc (.cells #[.int .i64 kd, .int .i64 nm, .string s, .slice x kl c] 46)) := (Below.refl _ _).alloc (Nat.le_refl _) _
        have hNa := hN.below hba
        have hBa := hBr.trans (hba.mono hEr.le)
        have hka : KeptAt (wr.alloc (.cells #[.int .i64 kd, .int .i64 nm, .string s, .slice x kl c] 46)) (.slice x kl c) st.ks := hk.chg (fun q hq _ => hBa.block q (by rw [HB.out]; exact hq)) hBa.size
        clear he hkd hnm hN hk hkl hkc hba hBa hEr HN3 hkv
        by_cases hd0 : kd = 0
        · subst hd0
          have HAP := hNa.append (by omega) st.txt
          rw [← hs] at HAP
          clear hNa hka hkb hs hBr
          go_wp2_with fail
          refine HAP.mono ?_
          rintro e w4 (⟨cd, rfl, hcd, h4⟩ | ⟨rfl, h4⟩)
          · have z0 : (cd == 0) = false := by rw [beq_eq_false_iff_ne]; exact hcd
            have h5 := h4.later
            have HNX := h4.next
            clear h4 HAP
            go_wp2_with fail
            refine HNX.mono ?_; rintro e w5 ⟨rfl, rfl⟩
            go_wp2_with fail
            exact ⟨⟨j + 1, l', n, by omega, by simp, rfl, rfl, h5⟩, by simp [intOf]; omega⟩
          · have HNX := h4.next
            have H4 := Lib.hid h4
            have q1 : IntKind.u32.wrap ((n : Int) + 1) = ((n + 1 : Nat) : Int) := by rw [IntKind.wrap_u32]; omega
            clear h4 HAP
            go_wp2_with fail
            refine HNX.mono ?_; rintro e w5 ⟨rfl, rfl⟩
            go_wp2_with fail
            exact ⟨⟨j + 1, l', n + 1, by omega, by simp, rfl, by simp, H4.out⟩, by simp [intOf]; omega⟩
        by_cases hd1 : kd = 1
        · subst hd1
          have HSY := hNa.sync
          clear hNa hka hkb hs hBr
          go_wp2_with fail
          refine HSY.mono ?_; rintro e w4 ⟨rfl, h4⟩
          have h5 := h4.later
          have HNX := h4.next
          clear h4 HSY
          go_wp2_with fail
          refine HNX.mono ?_; rintro e w5 ⟨rfl, rfl⟩
          go_wp2_with fail
          exact ⟨⟨j + 1, l', n, by omega, by simp, rfl, rfl, h5⟩, by simp [intOf]; omega⟩
        by_cases hd3 : kd = 3
        · subst hd3
          have HCR := hNa.crash (by omega) st.ks _ hka (by omega) hkb
          clear hNa hka hkb hs hBr
          go_wp2_with fail
          refine HCR.mono ?_; rintro e w4 ⟨rfl, D, hd4, he4, hn4, hn4', hg4, hp4, hB4⟩
          have HST := Down.start hd4 he4 hn4 hn4' hg4 hp4 hB4
          clear hd4 he4 hn4 hn4' hg4 hp4 hB4 HCR
          go_wp2_with fail
          refine HST.mono ?_; rintro e w5 ⟨rfl, h5⟩
          have HOP := h5.opened (i := j) hnj (by omega)
          clear h5 HST
          go_wp2_with fail
          refine HOP.mono ?_; rintro e w6 ⟨l6, n6, D6, rfl, hn6, hp6, h6, hd6, hdd6, hn6', hg6⟩
          have HNX := h6.next
          have H6 := Lib.hid h6
          have HD6 := Lib.hid hd6
          have HG6 := Lib.hid hg6
          have q1 : decide ((n : Int) < n6) = false := by rw [decide_eq_false_iff_not]; omega
          clear h6 hd6 hg6 HOP
          go_wp2_with fail
          refine HNX.mono ?_; rintro e w7 ⟨rfl, rfl⟩
          go_wp2_with fail
          refine HNX.mono ?_; rintro e w7 ⟨rfl, rfl⟩
          go_wp2_with fail
          clear HNX
          go_loopw [12] (fun i wr => ∃ p : Nat, p ≤ 24 ∧ i = .int .i64 ((2 : Int) + p) ∧ Numb E B w d l6 j n6 wr ∧ DiskAt B wr d D6) (fun i _ => 26 - (intOf i).toNat)
          case atStart => exact ⟨0, by omega, rfl, H6.out, HD6.out⟩
          case round =>
            obtain ⟨p, hp, rfl, hN, hD⟩ := hrel
            clear H6 HD6
            by_cases hlt : p < 24
            · have HRD := Read_ok ((2 : Int) + p) wr hD hdd6 (by omega) (by rw [hn6']; omega)
              obtain ⟨b, hb⟩ : ∃ b, b = D6.read ((2 : Int) + p) := ⟨_, rfl⟩
              have hbs : b.size = 256 := by rw [hb]; exact read_size256 hD _
              have hpl : p < logsOf D6.n := by rw [hn6']; exact hlt
              have hgb : Good n6 (byt b) := by
                have h1 := reg_getD D6 p hpl
                have h2 : D6.reg.getD p [] ∈ D6.reg := by
                  rw [List.getD_eq_getElem?_getD, List.getElem?_eq_getElem (by rw [reg_length]; exact hpl)]; exact List.getElem_mem _
                rw [h1] at h2
                rw [hb]; exact HG6.out _ h2
              rw [← hb] at HRD
              have HNM := Num_ok b hgb hp6
              have z1 : decide ((2 : Int) + p < 26) = true := by rw [decide_eq_true_iff]; omega
              have HNr := Lib.hid hN
              have HDr := Lib.hid hD
              clear hb hpl hgb hN hD
              go_wp2_with fail
              refine HRD.mono ?_; rintro e w8 ⟨rfl, hb8⟩
              clear HRD
              have zb : ((b.size : Int) != 256) = false := by rw [bne_eq_false_iff_eq]; omega
              go_wp2_with fail
              refine (HNM _).mono ?_; rintro e w9 ⟨m, rfl, hm9, hb9⟩
              have hb89 : Below wr.heap.size wr w9 := hb8.trans (hb9.mono hb8.size)
              have h9 := HNr.out.below hb89
              have hd9 := HDr.out.below hb89
              have q9 : decide ((n6 : Int) ≤ m) = false := by rw [decide_eq_false_iff_not]; omega
              clear hb8 hb9 hb89 HNM
              go_wp2_with fail
              exact ⟨⟨p + 1, by omega, by simp; omega, h9, hd9⟩, by simp [intOf]; omega⟩
            · obtain rfl : p = 24 := by omega
              have HNX := hN.next
              have h7 := hN.later
              clear hN hD
              go_wp2_with fail
              refine HNX.mono ?_; rintro e w8 ⟨rfl, rfl⟩
              go_wp2_with fail
              exact ⟨⟨j + 1, l6, n6, by omega, by simp, rfl, rfl, h7⟩, by simp [intOf]; omega⟩
        · have z0 : (kd == 0) = false := by rw [beq_eq_false_iff_ne]; exact hd0
          have z1 : (kd == 1) = false := by rw [beq_eq_false_iff_ne]; exact hd1
          have z3 : (kd == 3) = false := by rw [beq_eq_false_iff_ne]; exact hd3
          have h5 := hNa.later
          have HNX := hNa.next
          clear hNa hka hkb hs hBr hd0 hd1 hd3
          go_wp2_with fail
          refine HNX.mono ?_; rintro e w5 ⟨rfl, rfl⟩
          go_wp2_with fail
          exact ⟨⟨j + 1, l', n, by omega, by simp, rfl, rfl, h5⟩, by simp [intOf]; omega⟩
      · have HWK := wakes_ok wr hN.world.2.1
        have HW := Lib.hid hN.world
        clear hN HN3
        go_wp2_with fail
        refine HWK.mono ?_; rintro e w5 ⟨rfl, hb5⟩
        go_wp2_with fail
        go_ret
        exact ⟨rfl, HW.out.1.trans (hb5.mono HW.out.2.1.le)⟩
end Go.Proofs.YtfijhffhlklddaaGreatDoor
