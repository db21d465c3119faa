/-
  WalFull's walk: what does not go into the log's sectors is refused ahead of any write, and all that is there stays.
-/
import Derived.Test.YtfijhffhlklddaaGreatDoorWakes
import Derived.Test.YtfijhffhlklddaaGreatDoorDirty
namespace Go.Proofs.YtfijhffhlklddaaGreatDoor
open Go.RowKit

set_option maxRecDepth 100000 in
theorem refSize_ok (n : Nat) (hn : n ≤ 2000) (w : World) : Calls Tryz.prog 25 #[.int .i64 n] w fun e w' => e = .returned (.int .i64 (cntS n : Nat)) ∧ w = w' := by
  have q1 : decide ((n : Int) < 0) = false := by rw [decide_eq_false_iff_not]; omega
  have q2 : decide ((2000 : Int) < n) = false := by rw [decide_eq_false_iff_not]; omega
  have e1 : ((n : Int) + 8 + 244 - 1) / 244 = (cntS n : Nat) := by unfold cntS; omega
  have E1 := Lib.hid e1
  clear e1
  go_enter Tryz.func25, Tryz.ntmps25
  go_wp2_with fail
  go_ret
  exact ⟨by rw [← E1.out]; rfl, rfl⟩

/-- So many equal records stand there, of c sectors each; u sectors are written, and just they are cached. -/
structure Fulls (E : Errs) (B : Nat) (w : World) (d : Dk) (l N j u : Nat) (D : DiskS) (S : LogS) (W : World) : Prop where
  env : Env E B W
  log : LogAt B W l d S
  disk : DiskAt B W d D
  sd : S.dead = false
  dd : D.dead = false
  da : D.armed = false
  logs : S.logs = logsOf N
  dn : D.n = N
  next : S.next = 1 + j
  used : S.used = u
  recl : S.recs.length = j
  dirty : ∀ i : Int, (D.c i).isSome = true ↔ 2 ≤ i ∧ i < 2 + (u : Int)
  fits : u ≤ logsOf N
  n32 : 32 ≤ N
  below : Below B w W
variable {E : Errs} {B : Nat} {w : World} {d : Dk} {l N j u : Nat} {D : DiskS} {S : LogS} {W : World}
theorem Fulls.grow (h : Fulls E B w d l N j u D S W) {W' : World} (hb : Below W.heap.size W W') : Fulls E B w d l N j u D S W' :=
  { h with env := h.env.grew hb, log := h.log.below hb, disk := h.disk.below hb, below := h.below.trans (hb.mono h.env.le) }
theorem logs_le {N : Nat} (h : N ≤ 4096) : logsOf N ≤ 1024 := by unfold logsOf; omega
theorem Fulls.cnt (h : Fulls E B w d l N j u D S W) : (dirtyL D).length = u := by
  have hn := h.disk.n2
  have h32 := h.n32
  have hf := h.fits
  have hp : (dirtyL D).Perm ((List.range u).map fun i : Nat => (2 : Int) + i) := by
    refine (List.perm_ext_iff_of_nodup (dirtyL_nodup D) ?_).2 fun x => ?_
    · exact List.pairwise_map.2 (List.nodup_range.imp fun h e => h (by omega))
    · obtain ⟨_, _, _, hw⟩ := h.disk.hc
      rw [mem_dirtyL hw, h.dirty x, List.mem_map]
      constructor
      · rintro ⟨h0, h1⟩; exact ⟨(x - 2).toNat, List.mem_range.2 (by omega), by omega⟩
      · rintro ⟨i, hi, rfl⟩; have := List.mem_range.1 hi; omega
  rw [hp.length_eq]; simp
theorem Fulls.dirtyC (h : Fulls E B w d l N j u D S W) : Calls Tryz.prog 24 #[d.p] W fun e w' => ∃ ao cap, e = .returned (.slice ao u cap) ∧ Fulls E B w d l N j u D S w' := by
  refine (Dirty_ok W h.disk).mono fun e w' hh => ?_
  obtain ⟨v, he, hrow, hb⟩ := hh
  rw [h.cnt] at hrow
  have h2 := h.grow hb
  rcases hrow.2 with ⟨hv, h0⟩ | ⟨g, cap, cur, hv, _⟩
  · exact ⟨none, 0, by rw [he, hv, h0], h2⟩
  · exact ⟨_, cap, by rw [he, hv], h2⟩
theorem Fulls.leftC (h : Fulls E B w d l N j u D S W) : Calls Tryz.prog 23 #[lp l] W fun e w' => e = .returned (.int .i64 ((logsOf N : Nat) - (u : Int))) ∧ Fulls E B w d l N j u D S w' := by
  refine (Left_ok W h.log).mono fun e w' hh => ?_
  obtain ⟨he, n, hw⟩ := hh
  rw [h.logs, h.used] at he
  exact ⟨he, by rw [hw]; exact h.grow (below_drewN _ _)⟩
theorem Fulls.nextC (h : Fulls E B w d l N j u D S W) : Calls Tryz.prog 14 #[lp l] W fun e w' => e = .returned (.int .u32 (1 + j : Nat)) ∧ Fulls E B w d l N j u D S w' := by
  refine (Next_ok W h.log).mono fun e w' hh => ?_
  obtain ⟨he, hw⟩ := hh
  rw [h.next] at he
  exact ⟨he, by rw [← hw]; exact h⟩
theorem Fulls.full (h : Fulls E B w d l N j u D S W) (r : Bytes) (hr : r.length ≤ 2000) (hf : logsOf N < u + cntS r.length) : Calls Tryz.prog 12 #[lp l, .string (bs r)] W fun e w' => e = .returned (.int .i64 73) ∧ Fulls E B w d l N j u D S w' := by
  refine (Append_full r W h.env h.log h.sd hr (.inl (by rw [h.logs, h.used]; exact hf))).mono fun e w' hh => ?_
  exact ⟨hh.1, h.grow hh.2⟩
theorem Fulls.append (h : Fulls E B w d l N j u D S W) (r : Bytes) (hr : r.length ≤ 2000) (hf : u + cntS r.length ≤ logsOf N) (hj : j ≤ 1000) : Calls Tryz.prog 12 #[lp l, .string (bs r)] W fun e w' => e = .returned (.int .i64 0) ∧ ∃ D' S', Fulls E B w d l N (j + 1) (u + cntS r.length) D' S' w' := by
  have hn := h.disk.n2
  rw [h.dn] at hn
  have h32 := h.n32
  refine (Append_ok r W h.env h.log h.disk h.sd h.dd h.da hr (by rw [h.logs, h.used]; exact hf) (by rw [h.next]; unfold most; omega) (by rw [h.next]; omega) (by rw [h.logs, h.dn]; unfold logsOf; omega) (by rw [h.recl]; omega)).mono fun e w' hh => ?_
  obtain ⟨he, ⟨rv', _, hl⟩, hd, hc⟩ := hh
  have hF : ∀ q ∈ l :: d.bc :: S.rv.ownBlock.toList, B ≤ q := by
    intro q hq
    rcases List.mem_cons.1 hq with rfl | hq
    · exact h.log.b1
    rcases List.mem_cons.1 hq with rfl | hq
    · exact h.disk.b3
    · exact (h.log.rv_base q (by simpa using hq)).1
  have hb := hc.below h.env.le hF
  refine ⟨he, _, _, { env := h.env.below hb, log := hl, disk := hd, sd := h.sd, dd := h.dd, da := h.da, logs := h.logs, dn := h.dn, next := by simp [h.next]; omega, used := by simp [h.used], recl := by simp [h.recl], dirty := ?_, fits := hf, n32 := h.n32, below := h.below.trans hb }⟩
  intro i
  show ((writeFrom D.c (2 + S.used) ((makeS S.next r).map bs)) i).isSome = true ↔ _
  rw [writeFrom_get, h.used, List.length_map, makeS_length]
  by_cases hi : ((2 + u : Nat) : Int) ≤ i ∧ i < ((2 + u : Nat) : Int) + (cntS r.length : Nat)
  · rw [if_pos hi]
    simp only [Option.isSome_some, true_iff]
    omega
  · rw [if_neg hi, h.dirty i]
    omega
theorem Fulls.empty (h : Fulls E B w d l N j u D S W) : Calls Tryz.prog 22 #[lp l] W fun e w' => e = .returned (.tuple #[]) ∧ LogAt B w' l d { S with rv := .slice none 0 0, recs := [], used := 0 } ∧ Env E B w' ∧ Below B w w' := by
  refine (Empty_ok W h.log).mono fun e w' hh => ?_
  obtain ⟨he, hl, hc⟩ := hh
  have hb := hc.below h.env.le (fun q hq => by simp at hq; rw [hq]; exact h.log.b1)
  exact ⟨he, hl, h.env.below hb, h.below.trans hb⟩
/-- A log over a new disk. -/
theorem Fulls.first {N : Nat} {S : LogS} (h : Live E B W d l (freshD N) S 1 1 0 (freshD N).reg [] [] 0) (hb : Below B w W) : Fulls E B w d l N 0 0 (freshD N) S W :=
  { env := h.env, log := h.log, disk := h.disk, sd := h.sd, dd := h.dd, da := h.da, logs := h.logs, dn := rfl, next := h.next, used := by rw [h.used]; rfl, recl := by rw [h.recs]; rfl,
    dirty := fun i => by
      show (none : Option ByteArray).isSome = true ↔ _
      simp,
    fits := Nat.zero_le _, n32 := h.n32, below := hb }

set_option maxRecDepth 100000 in
set_option maxHeartbeats 16000000 in
theorem full_ok {E : Errs} (n : Nat) (hn8 : n < 256) (r : Bytes) (w : World) (henv : Env E w.heap.size w) (hm : (bs r).size ≤ maxLen) :
    Calls Tryz.prog 7 #[.int .u8 n, .string (bs r)] w fun e w' => e = .returned (.bool true) ∧ Below w.heap.size w w' := by
  obtain ⟨N, hN⟩ : ∃ N, N = 32 + n % 60 := ⟨_, rfl⟩
  have hN1 : 32 ≤ N := by omega
  have hN2 : N ≤ 91 := by omega
  have HN := New_ok N (by omega) (by omega) w
  have hNi : (32 : Int) + (n : Int) % 60 = N := by omega
  obtain ⟨L, hL⟩ : ∃ L, L = logsOf N := ⟨_, rfl⟩
  have hLi : (30 + (n : Int) % 60) / 4 = L := by rw [hL]; unfold logsOf; omega
  have hL2 : L ≤ 30 := by rw [hL]; unfold logsOf; omega
  obtain ⟨s, hs⟩ : ∃ s, s = bs r := ⟨_, rfl⟩
  have hsz : s.size = r.length := by rw [hs]; exact bs_size r
  rw [← hs] at hm ⊢
  unfold maxLen at hm
  obtain ⟨B, hB⟩ : ∃ B, B = w.heap.size := ⟨_, rfl⟩
  have HE := Lib.hid henv
  clear henv
  rw [← hB] at HE ⊢
  have HB := Lib.hid hB
  have HS := Lib.hid hs
  have HL := Lib.hid hL
  have HLI := Lib.hid hLi
  have HSZ0 := Lib.hid hsz
  clear hB hN hs hL hLi hsz
  go_enter Tryz.func7, Tryz.ntmps7
  go_wp2_with fail
  refine HN.mono ?_; rintro e w1 ⟨d, rfl, hd1, hb1⟩
  have hb1' : Below B w w1 := by rw [HB.out]; exact hb1
  have hi1 := fresh_idle HE.out hN1 hd1 hb1
  have HO := hi1.first 1 (by decide) (by decide)
  have HW1 := wakes_ok w1 hi1.env
  have HB1 := Lib.hid hb1'
  have hle1 := hi1.env.le
  have hsl : s.size = r.length := HSZ0.out
  have hr3 : r.length ≤ s.size := by omega
  clear hd1 hi1 hb1 hb1' HN hNi hsl
  by_cases h2 : 2000 < s.size
  · have q1 : decide ((2000 : Int) < s.size) = true := by rw [decide_eq_true_iff]; omega
    go_wp2_with fail
    refine HW1.mono ?_; rintro e w3 ⟨rfl, hb3⟩
    go_wp2_with fail
    go_ret
    exact ⟨rfl, HB1.out.trans (hb3.mono hle1)⟩
  have q1 : decide ((2000 : Int) < s.size) = false := by rw [decide_eq_false_iff_not]; omega
  have hr2 : r.length ≤ 2000 := by omega
  clear h2 HW1
  go_wp2_with fail
  refine HO.mono ?_; rintro e w2 ⟨l, S, rfl, _, _, hL2', hb2⟩
  have hF2 := Fulls.first hL2' (HB1.out.trans (hb2.mono hle1))
  have HF2 := Lib.hid hF2
  obtain ⟨c, hc⟩ : ∃ c, c = cntS r.length := ⟨_, rfl⟩
  have hc9 : c ≤ 9 := by rw [hc]; exact cntS_le _ hr2
  have hc1 : 1 ≤ c := by rw [hc]; exact cntS_pos _
  have HC := Lib.hid hc
  clear hL2' hb2 hF2 HO hle1 hc
  go_wp2_with fail
  go_loopw [9, 10] (fun wa i wr => ∃ (i' j u : Nat) (D : DiskS) (S : LogS), i' ≤ 40 ∧ j ≤ i' ∧ u ≤ L ∧ i = .int .i64 i' ∧ wa = .int .i64 j ∧ Fulls E B w d l N j u D S wr) (fun _ i _ => 40 - (intOf i).toNat)
  case atStart => exact ⟨0, 0, 0, _, _, by omega, by omega, Nat.zero_le _, rfl, rfl, HF2.out⟩
  case round =>
    obtain ⟨i, j, u, D, S2, hi, hj, hu, rfl, rfl, hF⟩ := hrel
    clear HF2
    by_cases hlt : i < 40
    · have q2 : decide ((i : Int) < 40) = true := by rw [decide_eq_true_iff]; omega
      have HLF := hF.leftC
      rw [← HL.out] at HLF
      obtain ⟨nn, hnn⟩ : ∃ nn, nn = 1 + j := ⟨_, rfl⟩
      have HNN := Lib.hid hnn
      clear hF hnn
      go_wp2_with fail
      refine HLF.mono ?_; rintro e w3 ⟨rfl, hF3⟩
      have HDI := hF3.dirtyC
      clear hF3 HLF
      go_wp2_with fail
      refine HDI.mono ?_; rintro e w4 ⟨ao, cap, rfl, hF4⟩
      have HNX := hF4.nextC
      rw [← HNN.out] at HNX
      clear hF4 HDI
      go_wp2_with fail
      refine HNX.mono ?_; rintro e w5 ⟨rfl, hF5⟩
      have HSZ := refSize_ok r.length hr2
      rw [← HC.out, ← HSZ0.out] at HSZ
      by_cases hfit : u + c ≤ L
      · have HAP := hF5.append r hr2 (by rw [← HC.out, ← HL.out]; exact hfit) (by omega)
        rw [← HS.out, ← HC.out] at HAP
        have q3 : decide ((c : Int) ≤ (L : Int) - u) = true := by rw [decide_eq_true_iff]; omega
        clear hF5 HNX
        go_wp2_with fail
        refine HAP.mono ?_; rintro e w6 ⟨rfl, D6, S6, hF6⟩
        have HLF := hF6.leftC
        rw [← HL.out, show ((L : Int) - (u + c : Nat)) = (L : Int) - u - c by omega] at HLF
        obtain ⟨u2, hu2⟩ : ∃ u2, u2 = u + c := ⟨_, rfl⟩
        rw [← hu2] at hF6 HLF
        have q4 : (((u2 : Nat) : Int) != (u : Int) + (c : Int)) = false := by rw [bne_eq_false_iff_eq]; omega
        obtain ⟨n2, hn2⟩ : ∃ n2, n2 = 1 + (j + 1) := ⟨_, rfl⟩
        have q5 : (((n2 : Nat) : Int) != (nn : Int) + 1) = false := by have := HNN.out; rw [bne_eq_false_iff_eq]; omega
        have q6 : IntKind.u32.wrap ((nn : Int) + 1) = (nn : Int) + 1 := by have := HNN.out; rw [IntKind.wrap_u32]; omega
        have hu2L : u2 ≤ L := by omega
        have HN2 := Lib.hid hn2
        clear hF6 HAP hu2 hn2
        go_wp2_with fail
        refine (HSZ _).mono ?_; rintro e w7 ⟨rfl, rfl⟩
        go_wp2_with fail
        refine HLF.mono ?_; rintro e w7 ⟨rfl, hF7⟩
        have HDI := hF7.dirtyC
        clear hF7 HLF
        go_wp2_with fail
        refine HDI.mono ?_; rintro e w8 ⟨ao2, cap2, rfl, hF8⟩
        have HNX := hF8.nextC
        rw [← HN2.out] at HNX
        clear hF8 HDI
        go_wp2_with fail
        refine HNX.mono ?_; rintro e w9 ⟨rfl, hF9⟩
        have HF9 := Lib.hid hF9
        clear hF9 HNX HSZ
        go_wp2_with fail
        exact ⟨⟨i + 1, j + 1, u2, D6, S6, by omega, by omega, hu2L, by simp, by simp, HF9.out⟩, by simp [intOf]; omega⟩
      · have HAP := hF5.full r hr2 (by rw [← HC.out, ← HL.out]; omega)
        rw [← HS.out] at HAP
        have q3 : decide ((c : Int) ≤ (L : Int) - u) = false := by rw [decide_eq_false_iff_not]; omega
        clear hF5 HNX
        go_wp2_with fail
        refine HAP.mono ?_; rintro e w6 ⟨rfl, hF6⟩
        have HDI := hF6.dirtyC
        clear hF6 HAP
        go_wp2_with fail
        refine (HSZ _).mono ?_; rintro e w7 ⟨rfl, rfl⟩
        go_wp2_with fail
        refine HDI.mono ?_; rintro e w8 ⟨ao2, cap2, rfl, hF8⟩
        have HNX := hF8.nextC
        rw [← HNN.out] at HNX
        clear hF8 HDI
        go_wp2_with fail
        refine HNX.mono ?_; rintro e w9 ⟨rfl, hF9⟩
        have HF9 := Lib.hid hF9
        clear hF9 HNX HSZ
        go_wp2_with fail
        exact ⟨⟨i + 1, j, u, D, S2, by omega, by omega, hu, by simp, by simp, HF9.out⟩, by simp [intOf]; omega⟩
    · have hLi := HLI.out
      obtain rfl : i = 40 := by omega
      have HEM := hF.empty
      have hlogs := hF.logs
      rw [← HL.out] at hlogs
      have hnext := hF.next
      clear hF
      go_wp2_with fail
      refine HEM.mono ?_; rintro e w3 ⟨rfl, hl3, he3, hb3⟩
      have HRC := Records_ok w3 hl3
      have HL3 := Lib.hid hl3
      have HE3 := Lib.hid he3
      have HB3 := Lib.hid hb3
      have HLG := Lib.hid hlogs
      have HNT := Lib.hid hnext
      clear hl3 he3 hb3 HEM hlogs hnext
      go_wp2_with fail
      refine HRC.mono ?_; rintro e w4 ⟨v, rfl, hrow, hb4⟩
      obtain ⟨ao, cap, rfl⟩ : ∃ ao cap, v = .slice ao 0 cap := by
        rcases hrow.2 with ⟨hv, h0⟩ | ⟨g, cap, cur, hv, _⟩
        · exact ⟨none, 0, hv⟩
        · exact ⟨_, cap, hv⟩
      have hl4 := HL3.out.below hb4
      have HLF := Left_ok w4 hl4
      have hB4 := HB3.out.trans (hb4.mono HE3.out.le)
      have HE4 := Lib.hid (HE3.out.grew hb4)
      have HL4 := Lib.hid hl4
      have HB4 := Lib.hid hB4
      simp only [HLG.out] at HLF
      have q7 : ((L : Int) - (0 : Nat)) = L := by omega
      rw [q7] at HLF
      clear q7 hrow hb4 hl4 hB4 HRC
      go_wp2_with fail
      refine HLF.mono ?_; rintro e w5 ⟨rfl, m5, hw5⟩
      have hb5 : Below w4.heap.size w4 w5 := by rw [hw5]; exact below_drewN _ _
      have hl5 := HL4.out.below hb5
      have HNX := Next_ok w5 hl5
      have HE5 := Lib.hid (HE4.out.grew hb5)
      have HB5 := Lib.hid (HB4.out.trans (hb5.mono HE4.out.le))
      simp only [HNT.out] at HNX
      obtain ⟨nn, hnn⟩ : ∃ nn, nn = 1 + j := ⟨_, rfl⟩
      rw [← hnn] at HNX
      have q8 : IntKind.u32.wrap ((1 : Int) + j) = nn := by rw [IntKind.wrap_u32]; omega
      clear hw5 hb5 hl5 HLF hnn
      go_wp2_with fail
      refine HNX.mono ?_; rintro e w6 ⟨rfl, rfl⟩
      have HW := wakes_ok w5 HE5.out
      clear HNX
      go_wp2_with fail
      refine HW.mono ?_; rintro e w7 ⟨rfl, hb7⟩
      go_wp2_with fail
      go_ret
      exact ⟨rfl, HB5.out.trans (hb7.mono HE5.out.le)⟩
end Go.Proofs.YtfijhffhlklddaaGreatDoor
