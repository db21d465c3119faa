/-
  WalSafe's walk: whatever crashes, however often, there is a beginning of the records that were appended, with all that were there at the last Sync.
-/
import Derived.Test.YtfijhffhlklddaaGreatDoorGive
import Derived.Deep.DeepCutAuto
namespace Go.Proofs.YtfijhffhlklddaaGreatDoor
open Go.RowKit

theorem own_mono {w : World} {B B' : Nat} {v : Value} {n : Nat} {xs : List Value} (h : w.ownsRow B 9 1 v n xs) (hb : B' ≤ B) : w.ownsRow B' 9 1 v n xs := by
  refine ⟨h.1, ?_⟩
  rcases h.2 with hn | ⟨g, cap, cur, e, hg, r⟩
  · exact .inl hn
  · exact .inr ⟨g, cap, cur, e, Nat.le_trans hb hg, r⟩
theorem row_form {w : World} {B : Nat} {v : Value} {n : Nat} {xs : List Value} (h : w.ownsRow B 9 1 v n xs) : ∃ x c, v = Value.slice x n c := by
  rcases h.2 with ⟨hv, h0⟩ | ⟨g, cap, cur, hv, _⟩
  · exact ⟨_, _, by rw [h0]; exact hv⟩
  · exact ⟨_, _, hv⟩

/-- While texts are appended: the records that the opening found, those that were appended since, of which k are sure; the caller's slice has them all. -/
structure Adds (E : Errs) (B : Nat) (w : World) (d : Dk) (l c : Nat) (recs0 rs : List Bytes) (k : Nat) (v : Value) (D : DiskS) (S : LogS) (N0 U0 : Nat) (b0 : List Bytes) (W : World) : Prop where
  live : Live E B W d l D S 3 N0 U0 b0 recs0 rs k
  nx : N0 ≤ nextS 3 b0
  n0 : N0 ≤ 3 + c
  r0 : recs0.length ≤ c
  row : W.ownsRow B 9 1 v (recs0 ++ rs).length (strs (recs0 ++ rs))
  sep : Sep v S
  below : Below B w W
/-- Between the append to the log and the one to the slice. -/
structure Adds1 (E : Errs) (B : Nat) (w : World) (d : Dk) (l c : Nat) (recs0 rs : List Bytes) (r : Bytes) (k : Nat) (v : Value) (D : DiskS) (S : LogS) (N0 U0 : Nat) (b0 : List Bytes) (W : World) : Prop where
  live : Live E B W d l D S 3 N0 U0 b0 recs0 (rs ++ [r]) k
  nx : N0 ≤ nextS 3 b0
  n0 : N0 ≤ 3 + c
  r0 : recs0.length ≤ c
  row : W.ownsRow B 9 1 v (recs0 ++ rs).length (strs (recs0 ++ rs))
  sep : Sep v S
  below : Below B w W
variable {E : Errs} {B : Nat} {w : World} {d : Dk} {l c : Nat} {recs0 rs : List Bytes} {k : Nat} {v : Value} {D : DiskS} {S : LogS} {N0 U0 : Nat} {b0 : List Bytes} {W : World}
theorem Adds.append (h : Adds E B w d l c recs0 rs k v D S N0 U0 b0 W) (r : Bytes) (hr : r.length ≤ 600) (hc : c ≤ 100) (hrs : rs.length ≤ 20) :
    Calls Tryz.prog 12 #[lp l, .string (bs r)] W fun e w' => (e = .returned (.int .i64 73) ∧ Below B w w' ∧ Env E B w') ∨ (e = .returned (.int .i64 0) ∧ ∃ D' S', Adds1 E B w d l c recs0 rs r k v D' S' N0 U0 b0 w') := by
  have hL := h.live
  have h1 := h.n0
  have h2 := h.r0
  refine (hL.append r (by omega) (by omega)).mono fun e w' hh => ?_
  rcases hh with ⟨_, hl, _⟩ | ⟨he, _, _, hL', hb⟩ | ⟨he, _, D', S', hL', hn', hrv, hc'⟩
  · omega
  · exact .inl ⟨he, h.below.trans (hb.mono hL.env.le), hL'.env⟩
  · exact .inr ⟨he, D', S', { live := hL', nx := h.nx, n0 := h.n0, r0 := h.r0, row := row_chg h.row hc' (hL.row_out h.row h.sep), sep := h.sep.step h.row hrv, below := h.below.trans (hc'.below hL.env.le hL.base) }⟩
theorem Adds1.stored {r : Bytes} (h : Adds1 E B w d l c recs0 rs r k v D S N0 U0 b0 W) {v' : Value} {W' : World} (hown : W'.ownsRow W.heap.size 9 1 v' ((recs0 ++ rs).length + 1) (strs (recs0 ++ rs) ++ [.string (bs r)])) (hb : Below W.heap.size W W') :
    Adds E B w d l c recs0 (rs ++ [r]) k v' D S N0 U0 b0 W' := by
  refine { live := h.live.below hb, nx := h.nx, n0 := h.n0, r0 := h.r0, row := ?_, sep := ?_, below := h.below.trans (hb.mono h.live.env.le) }
  · have e1 : (recs0 ++ (rs ++ [r])).length = (recs0 ++ rs).length + 1 := by simp; omega
    have e2 : strs (recs0 ++ (rs ++ [r])) = strs (recs0 ++ rs) ++ [.string (bs r)] := by simp
    rw [e1, e2]
    exact own_mono hown h.live.env.le
  · intro q hq e
    have h1 := (hown.lt q hq).1
    have h2 := (h.live.log.rv_base q e).2
    omega
theorem Adds.sync (h : Adds E B w d l c recs0 rs k v D S N0 U0 b0 W) :
    Calls Tryz.prog 13 #[lp l] W fun e w' => e = .returned (.int .i64 0) ∧ Adds E B w d l c recs0 rs rs.length v D.flushed S N0 U0 b0 w' := by
  have hL := h.live
  refine hL.sync.mono fun e w' hh => ?_
  obtain ⟨he, hL', hc⟩ := hh
  exact ⟨he, { live := hL', nx := h.nx, n0 := h.n0, r0 := h.r0, row := row_chg h.row hc (hL.row_out h.row h.sep), sep := h.sep, below := h.below.trans (hc.below hL.env.le hL.base) }⟩


/-- What is kept of a slice that came in, or nothing. -/
def KeptIn (B : Nat) (w : World) (v : Value) (ks : KL) : Prop := KeptAt w v ks ∧ (ks = [] ∨ ∀ q, v.ownBlock = some q → q < B)

theorem Adds.three (h : Adds E B w d l c recs0 rs k v D S N0 U0 b0 W) : 3 ≤ N0 := h.live.ff

/-- Behind the crash. -/
structure Falls (E : Errs) (B : Nat) (w : World) (d : Dk) (c : Nat) (hv R : List Bytes) (k : Nat) (v : Value) (D : DiskS) (N0 : Nat) (ks : KL) (W : World) : Prop where
  disk : DiskAt B W d (D.crashed ks)
  env : Env E B W
  n32 : 32 ≤ D.n
  n0 : N0 ≤ 3 + c
  r0 : hv.length ≤ c
  row : W.ownsRow B 9 1 v (hv ++ R).length (strs (hv ++ R))
  below : Below B w W
  found : ∃ j u, j ≤ R.length ∧ k ≤ j ∧ Scan (D.again ks).reg 3 (hv ++ R.take j) u ∧ (∀ x ∈ (D.again ks).reg, Good (N0 + R.length) x) ∧ (j = R.length → N0 + R.length ≤ nextS 3 (D.again ks).reg)
/-- Behind the start. -/
structure Rises (E : Errs) (B : Nat) (w : World) (d : Dk) (c : Nat) (hv R : List Bytes) (k : Nat) (v : Value) (D : DiskS) (N0 : Nat) (W : World) : Prop where
  idle : Idle E B W d D
  n0 : N0 ≤ 3 + c
  r0 : hv.length ≤ c
  row : W.ownsRow B 9 1 v (hv ++ R).length (strs (hv ++ R))
  below : Below B w W
  found : ∃ j u, j ≤ R.length ∧ k ≤ j ∧ Scan D.reg 3 (hv ++ R.take j) u ∧ (∀ x ∈ D.reg, Good (N0 + R.length) x) ∧ (j = R.length → N0 + R.length ≤ nextS 3 D.reg)
/-- Behind the opening: a log m that has found hv and the first j of R. -/
structure Found (E : Errs) (B : Nat) (w : World) (d : Dk) (m c : Nat) (hv R : List Bytes) (k j nx : Nat) (v : Value) (N0 : Nat) (D : DiskS) (S : LogS) (W : World) : Prop where
  live : Live E B W d m D S 3 nx S.used D.reg (hv ++ R.take j) [] 0
  nxe : nx = nextS 3 D.reg
  row : W.ownsRow B 9 1 v (hv ++ R).length (strs (hv ++ R))
  below : Below B w W
  jl : j ≤ R.length
  jk : k ≤ j
  n0 : nx ≤ 3 + (c + R.length)
  r0 : (hv ++ R.take j).length ≤ c + R.length
  last : j = R.length → N0 + R.length ≤ nx
theorem Adds.crash (h : Adds E B w d l c recs0 rs k v D S N0 U0 b0 W) (hc : c ≤ 100) (hrs : rs.length ≤ 20) (ks : KL) (v' : Value) (hk : KeptAt W v' ks) (hm : ks.length ≤ 100000) (hv : ks = [] ∨ ∀ q, v'.ownBlock = some q → q ∉ d.F) :
    Calls Tryz.prog 15 #[d.p, v'] W fun e w' => e = .returned (.tuple #[]) ∧ Falls E B w d c recs0 rs k v D N0 ks w' := by
  have hL := h.live
  have h0 := h.n0
  refine (hL.crash ks v' hk hm hv).mono fun e w' hh => ?_
  obtain ⟨he, hd, henv, hch⟩ := hh
  obtain ⟨j, j1, j2, j3, j4, j5⟩ := hL.reopen_safe (by omega) h.nx ks
  exact ⟨he, { disk := hd, env := henv, n32 := hL.n32, n0 := h.n0, r0 := h.r0, row := row_chg h.row hch (row_not_disk h.row hL.disk), below := h.below.trans (hch.below hL.env.le hL.disk.F), found := ⟨j, _, j1, j2, j3, j4, j5⟩ }⟩
theorem Falls.start {hv R : List Bytes} {ks : KL} (h : Falls E B w d c hv R k v D N0 ks W) :
    Calls Tryz.prog 16 #[d.p] W fun e w' => e = .returned (.tuple #[]) ∧ Rises E B w d c hv R k v (D.again ks) N0 w' := by
  refine (started h.disk h.env h.n32).mono fun e w' hh => ?_
  obtain ⟨he, hi, hch⟩ := hh
  exact ⟨he, { idle := hi, n0 := h.n0, r0 := h.r0, row := row_chg h.row hch (row_not_disk h.row h.disk), below := h.below.trans (hch.below h.env.le h.disk.F), found := h.found }⟩
theorem Rises.open {hv R : List Bytes} (h : Rises E B w d c hv R k v D N0 W) (hc : c ≤ 100) (hR : R.length ≤ 20) (h3 : 3 ≤ N0) :
    Calls Tryz.prog 10 #[d.p, .int .u32 3] W fun e w' => ∃ m j nx S, e = .returned (.tuple #[lp m, .int .i64 0]) ∧ Found E B w d m c hv R k j nx v N0 D S w' := by
  obtain ⟨j, u, j1, j2, j3, j4, j5⟩ := h.found
  have h0 := h.n0
  refine (h.idle.opened 3 (N0 + R.length) (by omega) j4 (by decide) (by omega)).mono fun e w' hh => ?_
  obtain ⟨m, S, he, _, _, hL, hr, hb⟩ := hh
  have hrec : S.recs = hv ++ R.take j := (hL.scan.det j3).1
  have hle := nextS_le D.reg (N0 + R.length) j4 3 (by omega)
  have hr0 := h.r0
  refine ⟨m, j, nextS 3 D.reg, S, he, { live := by rw [← hrec]; exact hL, nxe := rfl, row := row_chg h.row (Below.chg hb []) (by simp), below := h.below.trans (hb.mono h.idle.env.le), jl := j1, jk := j2, n0 := by omega, r0 := ?_, last := j5 }⟩
  rw [List.length_append, List.length_take]; omega
theorem Adds.kept (h : Adds E B w d l c recs0 rs k v D S N0 U0 b0 W) {W' : World} (hb : Below W.heap.size W W') : Adds E B w d l c recs0 rs k v D S N0 U0 b0 W' :=
  { h with live := h.live.below hb, row := row_chg h.row (Below.chg hb []) (by simp), below := h.below.trans (hb.mono h.live.env.le) }
theorem row_cases {w : World} {B : Nat} {v : Value} {n : Nat} {xs : List Value} (h : w.ownsRow B 9 1 v n xs) : (n = 0 ∧ v = .slice none 0 0) ∨ ∃ g cap, v = .slice (some ⟨g, 0, none⟩) n cap ∧ n ≤ cap := by
  rcases h.2 with ⟨hv, h0⟩ | ⟨g, cap, cur, hv, hr⟩
  · exact .inl ⟨h0, hv⟩
  · exact .inr ⟨g, cap, hv, by obtain ⟨_, _, h3, _⟩ := hr; exact h3⟩
/-- The next round's beginning. -/
theorem Found.adds {hv R : List Bytes} {m j nx : Nat} (h : Found E B w d m c hv R k j nx v N0 D S W) {c' : Nat} (hc : c + R.length ≤ c') {r : Value} {W' W2 : World} (hr : W'.ownsRow W.heap.size 9 1 r (hv ++ R.take j).length (strs (hv ++ R.take j))) (hb : Below W.heap.size W W') (h2 : Below W'.heap.size W' W2) :
    Adds E B w d m c' (hv ++ R.take j) [] 0 r D S nx S.used D.reg W2 := by
  have hb2 : Below W.heap.size W W2 := hb.trans (h2.mono hb.size)
  have h1 := h.n0
  have h3 := h.r0
  refine { live := h.live.below hb2, nx := Nat.le_of_eq h.nxe, n0 := by omega, r0 := by omega, row := ?_, sep := ?_, below := h.below.trans (hb2.mono h.live.env.le) }
  · rw [List.append_nil]
    exact own_mono (row_chg hr (Below.chg h2 []) (by simp)) h.live.env.le
  · intro q hq e
    have a1 := (hr.lt q hq).1
    have a2 := (h.live.log.rv_base q e).2
    omega
theorem Found.kept {hv R : List Bytes} {m j nx : Nat} (h : Found E B w d m c hv R k j nx v N0 D S W) {W' : World} (hb : Below W.heap.size W W') : Found E B w d m c hv R k j nx v N0 D S W' :=
  { h with live := h.live.below hb, row := row_chg h.row (Below.chg hb []) (by simp), below := h.below.trans (hb.mono h.live.env.le) }
/-- The first texts of a row. -/
theorem texts_first {w : World} {B g n cap : Nat} {ss : List Bytes} (h : w.ownsRow B 9 1 (.slice (some ⟨g, 0, none⟩) n cap) n (strs ss)) (hn : n = ss.length) {m : Nat} (hm : m ≤ n) : TextsAt w (.slice (some ⟨g, 0, none⟩) m cap) (ss.take m) := by
  obtain ⟨ao, c, e, ht⟩ := texts_row (ss := ss) (by rw [← hn]; exact h)
  cases e
  refine ⟨_, cap, by rw [List.length_take, Nat.min_eq_left (by omega)], ?_⟩
  rcases ht with h0 | ⟨g', off, e, hg, ht⟩
  · left; rw [h0]; simp
  · cases e
    refine .inr ⟨g, 0, rfl, hg, fun j hj => ?_⟩
    have hj2 : j < m := by simp at hj; omega
    have := ht j (by simp; omega)
    rw [this]
    simp [List.getD_eq_getElem?_getD, hj2]
set_option maxRecDepth 100000 in
set_option maxHeartbeats 32000000 in
theorem safe_ok {E : Errs} (w : World) (henv : Env E w.heap.size w) (rounds : List (List Bytes)) (syncs : List Nat) (keeps : List KL) (v0 v1 v2 : Value) (h0 : ElemsAt Texts1 w v0 rounds) (h1 : ElemsAt Byte1 w v1 syncs) (h2 : ElemsAt Kept1 w v2 keeps) :
    Calls Tryz.prog 3 #[v0, v1, v2] w fun e w' => e = .returned (.bool true) ∧ Below w.heap.size w w' := by
  have HN := New_ok 200 (by decide) (by decide) w
  obtain ⟨B, hB⟩ : ∃ B, B = w.heap.size := ⟨_, rfl⟩
  have HE := Lib.hid henv
  have H0 := Lib.hid h0
  have H1 := Lib.hid h1
  have H2 := Lib.hid h2
  obtain ⟨ao, ca, rfl, _⟩ := h0
  obtain ⟨bo, cb, rfl, _⟩ := h1
  obtain ⟨co, cc, rfl, _⟩ := h2
  clear henv
  rw [← hB] at HE ⊢
  have HB := Lib.hid hB
  clear hB
  go_enter Tryz.func3, Tryz.ntmps3
  go_wp2_with fail
  refine HN.mono ?_; rintro e w1 ⟨d, rfl, hd1, hb1⟩
  have hb1' : Below B w w1 := by rw [HB.out]; exact hb1
  have hi1 := fresh_idle HE.out (by decide) hd1 hb1
  have HO := hi1.first 3 (by decide) (by decide)
  have HB1 := Lib.hid hb1'
  have hle1 := hi1.env.le
  clear hd1 hi1 hb1 hb1' HN
  go_wp2_with fail
  refine HO.mono ?_; rintro e w2 ⟨l, S, rfl, _, _, hL2, hb2⟩
  have hB2 : Below B w w2 := HB1.out.trans (hb2.mono hle1)
  have hA2 : Adds E B w d l 0 [] [] 0 (.slice none 0 0) (freshD 200) S 3 0 (freshD 200).reg w2 :=
    { live := hL2, nx := by rw [fresh_next 200 3 (by decide)]; exact Nat.le_refl _, n0 := by decide, r0 := Nat.le_refl _, row := World.ownsRow_nil _ _ _ _, sep := sep_nil _, below := hB2 }
  have HA2 := Lib.hid hA2
  have HW2 := wakes_ok w2 hL2.env
  clear hb2 hL2 hB2 HO hle1 hA2
  by_cases h6 : 6 < rounds.length
  · have q1 : decide ((6 : Int) < rounds.length) = true := by rw [decide_eq_true_iff]; omega
    go_wp2_with fail
    refine HW2.mono ?_; rintro e w3 ⟨rfl, hb3⟩
    go_wp2_with fail
    go_ret
    exact ⟨rfl, HA2.out.below.trans (hb3.mono HA2.out.live.env.le)⟩
  have q1 : decide ((6 : Int) < rounds.length) = false := by rw [decide_eq_false_iff_not]; omega
  by_cases h20 : 20 < keeps.length
  · have q2 : decide ((20 : Int) < keeps.length) = true := by rw [decide_eq_true_iff]; omega
    go_wp2_with fail
    refine HW2.mono ?_; rintro e w3 ⟨rfl, hb3⟩
    go_wp2_with fail
    go_ret
    exact ⟨rfl, HA2.out.below.trans (hb3.mono HA2.out.live.env.le)⟩
  have q2 : decide ((20 : Int) < keeps.length) = false := by rw [decide_eq_false_iff_not]; omega
  clear HW2
  go_wp2_with fail
  go_loopw [9, 11, 12] (fun x v i wr => ∃ (i' l' : Nat) (hv : List Bytes) (D : DiskS) (S : LogS) (N0 U0 : Nat) (b0 : List Bytes), i' ≤ rounds.length ∧ i = .int .i64 i' ∧ x = lp l' ∧ Adds E B w d l' (12 * i') hv [] 0 v D S N0 U0 b0 wr) (fun _ _ i _ => rounds.length - (intOf i).toNat)
  case atStart => exact ⟨0, l, [], _, _, _, _, _, Nat.zero_le _, rfl, rfl, HA2.out⟩
  case round =>
    obtain ⟨i, l', hv, D, S2, N0, U0, b0, hi, rfl, rfl, hA⟩ := hrel
    clear HA2
    by_cases hlt : i < rounds.length
    · obtain ⟨g, off, u, rfl, kr, hR⟩ := H0.out.get hlt
      obtain ⟨R, hRd⟩ : ∃ R, R = rounds.getD i default := ⟨_, rfl⟩
      rw [← hRd] at hR
      obtain ⟨ro, rc, rfl, hRc⟩ : ∃ ro rc, u = .slice ro R.length rc ∧ TextsAt w (.slice ro R.length rc) R := by
        obtain ⟨ro, rc, e, h⟩ := hR
        exact ⟨ro, rc, e, ⟨ro, rc, rfl, h⟩⟩
      have hgB : g < B := by rw [HB.out]; exact World.block_lt_of_cell? w _ kr
      have kr1 := (hA.below.cell (p := ⟨g, _, none⟩) hgB).trans kr
      have KR := Lib.hid kr
      have HRC := Lib.hid hRc
      have y1 : (0 : Int) ≤ (i : Int) := by omega
      have y2 : (i : Int) < (rounds.length : Int) := by omega
      have hEr := hA.live.env
      have HA := Lib.hid hA
      have hrow0 := hA.row
      obtain ⟨vx, vc, hvs⟩ := row_form hrow0
      subst hvs
      clear hR hRc hRd kr hrow0 hA
      by_cases h12 : 12 < R.length
      · have q3 : decide ((12 : Int) < R.length) = true := by rw [decide_eq_true_iff]; omega
        have HW3 := wakes_ok wr hEr
        go_wp2_with fail
        refine HW3.mono ?_; rintro e w3 ⟨rfl, hb3⟩
        go_wp2_with fail
        go_ret
        exact ⟨rfl, HA.out.below.trans (hb3.mono hEr.le)⟩
      have q3 : decide ((12 : Int) < R.length) = false := by rw [decide_eq_false_iff_not]; omega
      have hnil : (hv ++ []).length = hv.length := by simp
      rw [hnil]
      have HAt := Lib.hid (show Adds E B w d l' (12 * i) hv (R.take 0) 0 (.slice vx hv.length vc) D S2 N0 U0 b0 wr by rw [← hnil]; exact HA.out)
      clear HA hnil hEr
      go_wp2_with fail
      go_loopw [11, 13, 14] (fun v su kk wr => ∃ (m kS sn : Nat) (D : DiskS) (S : LogS), m ≤ R.length ∧ kk = .int .i64 m ∧ su = .int .i64 sn ∧ sn = hv.length + kS ∧ Adds E B w d l' (12 * i) hv (R.take m) kS v D S N0 U0 b0 wr) (fun _ _ kk _ => R.length - (intOf kk).toNat)
      case atStart => exact ⟨0, 0, hv.length, D, S2, Nat.zero_le _, rfl, rfl, rfl, HAt.out⟩
      case round =>
        obtain ⟨m, kS, sn, D3, S3, hm, rfl, rfl, hsn, hA⟩ := hrel
        clear HAt
        have kr1 := (hA.below.cell (p := ⟨g, _, none⟩) hgB).trans KR.out
        by_cases hltm : m < R.length
        · obtain ⟨g2, off2, rfl, kt⟩ := HRC.out.nth hltm
          have hg2B : g2 < B := by rw [HB.out]; exact World.block_lt_of_cell? w _ kt
          obtain ⟨s, hs⟩ : ∃ s, s = bs (R.getD m []) := ⟨_, rfl⟩
          rw [← hs] at kt
          have kt1 := (hA.below.cell (p := ⟨g2, _, none⟩) hg2B).trans kt
          have hsz : s.size = (R.getD m []).length := by rw [hs]; rfl
          have y3 : (0 : Int) ≤ (m : Int) := by omega
          have y4 : (m : Int) < (R.length : Int) := by omega
          have hE3 := hA.live.env
          obtain ⟨vx3, vc3, hvs3⟩ := row_form hA.row
          obtain ⟨hn, hhn⟩ : ∃ hn, hn = (hv ++ R.take m).length := ⟨_, rfl⟩
          rw [← hhn] at hvs3
          subst hvs3
          have HHN := Lib.hid hhn
          have HSN := Lib.hid hsn
          have HA3 := Lib.hid hA
          have hnb : hn ≤ 100 := by
            have := hA.r0
            rw [hhn, List.length_append, List.length_take]; omega
          clear hhn hsn
          have HS := Lib.hid hs
          have HSZ := Lib.hid hsz
          have KT := Lib.hid kt
          clear hA hs hsz kt
          by_cases h600 : 600 < s.size
          · have q6 : decide ((600 : Int) < s.size) = true := by rw [decide_eq_true_iff]; omega
            have HW3 := wakes_ok wr hE3
            go_wp2_with fail
            refine HW3.mono ?_; rintro e w3 ⟨rfl, hb3⟩
            go_wp2_with fail
            go_ret
            exact ⟨rfl, HA3.out.below.trans (hb3.mono hE3.le)⟩
          have q6 : decide ((600 : Int) < s.size) = false := by rw [decide_eq_false_iff_not]; omega
          have HAP := HA3.out.append (R.getD m []) (by rw [← HSZ.out]; omega) (by omega) (by rw [List.length_take]; omega)
          rw [← HS.out] at HAP
          clear hE3
          go_wp2_with fail
          refine HAP.mono ?_
          rintro e w3 (⟨rfl, hB3, hE3⟩ | ⟨rfl, D4, S4, hA4⟩)
          · have HW3 := wakes_ok w3 hE3
            clear HAP
            go_wp2_with fail
            refine HW3.mono ?_; rintro e w4 ⟨rfl, hb4⟩
            go_wp2_with fail
            go_ret
            exact ⟨rfl, hB3.trans (hb4.mono hE3.le)⟩
          · have HA4 := Lib.hid hA4
            have kr4 : w3.cell? ⟨g, off + i, none⟩ = some (.slice (some ⟨g2, off2, none⟩) R.length rc) := (hA4.below.cell (p := ⟨g, _, none⟩) hgB).trans KR.out
            have kt4 : w3.cell? ⟨g2, off2 + m, none⟩ = some (.string s) := (hA4.below.cell (p := ⟨g2, _, none⟩) hg2B).trans KT.out
            have hht : TextsAt w3 (.slice vx3 hn vc3) (hv ++ R.take m) := by
              exact texts_row hA4.row
            have hnw : ∀ w', Below w3.heap.size w3 w' → hn = 0 ∨ ∃ ad, vx3 = some ad ∧ ∀ j u, (strs (hv ++ R.take m))[j]? = some u → w'.cell? (ad.add j) = some u := fun w' hb => texts_news (hht.below hb)
            obtain ⟨i0, hti, hz0, hz1, hz2⟩ := info_parts infoStr
            have hone : ∀ u ∈ [Value.string s], u.oneCell' = true := by simp [Value.oneCell']
            have hone1 := strs_one (hv ++ R.take m)
            have hlen1 : (strs (hv ++ R.take m)).length = hn * 1 := by rw [List.length_map, ← HHN.out]; omega
            have h63a : 0 + hn ≤ maxLen := by unfold maxLen; omega
            have h63b : 0 + hn + 1 ≤ maxLen := by unfold maxLen; omega
            have hbya : (0 + hn) * 16 ≤ 140737488355328 := by omega
            have hbyb : (0 + hn + 1) * 16 ≤ 140737488355328 := by omega
            have HNW := Lib.hid hnw
            have hkeep : ∀ (w' : World) (hb : Below w3.heap.size w3 w'), w'.cell? ⟨g, off + i, none⟩ = some (.slice (some ⟨g2, off2, none⟩) R.length rc) ∧ w'.cell? ⟨g2, off2 + m, none⟩ = some (.string s) := fun w' hb => ⟨(hb.cell (p := ⟨g, _, none⟩) (Nat.lt_of_lt_of_le hgB hA4.live.env.le)).trans kr4, (hb.cell (p := ⟨g2, _, none⟩) (Nat.lt_of_lt_of_le hg2B hA4.live.env.le)).trans kt4⟩
            have HKEEP := Lib.hid hkeep
            clear HAP hA4 kr1 kt1 hht hnw hkeep
            go_upto_region 20 with fail
            go_cut [11] (fun v wx => Adds E B w d l' (12 * i) hv (R.take m ++ [R.getD m []]) kS v D4 S4 N0 U0 b0 wx)
            case first =>
              go_region_held3 (fun w' => w'.cell? ⟨g, off + i, none⟩ = some (.slice (some ⟨g2, off2, none⟩) R.length rc) ∧ w'.cell? ⟨g2, off2 + m, none⟩ = some (.string s))
                (first
                  | exact HKEEP.out _ (by repeat (first | exact Below.refl _ _ | exact hB5 | exact hB6 | refine Below.push ?_ _ | refine Below.drew ?_)))
                (first
                  | (refine step_append_any _ (by rfl) (.tmp 113) (.tmp 114) _ (by rfl) w3.heap.size 9 i0 (Value.string ⟨#[]⟩) 1 16 Tryz.underlying34 hti hz0 hz1 hz2 rfl Nat.one_pos (.slice (some ⟨w3.heap.size, 0, none⟩) 0 0) 0 [] (by rfl) ?_ vx3 hn vc3 (strs (hv ++ R.take m)) (by rfl) hlen1 ?_ hone1 h63a hbya ?_ ?_
                     · (first | exact own_empty (by first | exact heap_one _ _ rfl | exact heap_two w3 _ _ rfl) (by simp))
                     · exact HNW.out _ (by repeat (first | exact Below.refl _ _ | refine Below.push ?_ _ | refine Below.drew ?_))
                     · exact (show Below w3.heap.size w3 _ from (by repeat (first | exact Below.refl _ _ | refine Below.push ?_ _ | refine Below.drew ?_))).size
                     intro v5 w5 hown5 hgrow5 hat5
                     have hB5 : Below w3.heap.size w3 w5 := Below.via hgrow5 (by repeat (first | exact Below.refl _ _ | refine Below.push ?_ _ | refine Below.drew ?_)) (fun k hk => by simp [Value.ownBlock] at hk; omega))
                  | (refine step_append_any _ (by rfl) (.tmp 113) (.tmp 114) _ (by rfl) w3.heap.size 9 i0 (Value.string ⟨#[]⟩) 1 16 Tryz.underlying34 hti hz0 hz1 hz2 rfl Nat.one_pos (.slice (some ⟨w3.heap.size + 1, 0, none⟩) 0 0) 0 [] (by rfl) ?_ vx3 hn vc3 (strs (hv ++ R.take m)) (by rfl) hlen1 ?_ hone1 h63a hbya ?_ ?_
                     · (first | exact own_empty (heap_one (w3.alloc _) _ (by simp)) (by simp))
                     · exact HNW.out _ (by repeat (first | exact Below.refl _ _ | refine Below.push ?_ _ | refine Below.drew ?_))
                     · exact (show Below w3.heap.size w3 _ from (by repeat (first | exact Below.refl _ _ | refine Below.push ?_ _ | refine Below.drew ?_))).size
                     intro v5 w5 hown5 hgrow5 hat5
                     have hB5 : Below w3.heap.size w3 w5 := Below.via hgrow5 (by repeat (first | exact Below.refl _ _ | refine Below.push ?_ _ | refine Below.drew ?_)) (fun k hk => by simp [Value.ownBlock] at hk; omega))
                  | (refine step_append_any _ (by rfl) (.tmp 115) (.tmp 123) _ (by rfl) w3.heap.size 9 i0 (Value.string ⟨#[]⟩) 1 16 Tryz.underlying34 hti hz0 hz1 hz2 rfl Nat.one_pos v5 (0 + hn) ([] ++ strs (hv ++ R.take m)) (by rfl) (hown5.alloc _) (some ⟨w5.heap.size, 0, none⟩) 1 1 [Value.string s] (by rfl) rfl (.inr ⟨_, rfl, World.news_of_block (cs := #[Value.string s]) (t := 9) (fr := (0, 0)) (heap_alloc_new w5 _)⟩) hone h63b hbyb ?_ ?_
                     · exact Nat.le_trans hB5.size (by simp)
                     intro v6 w6 hown6 hgrow6 hat6
                     have hB6 : Below w3.heap.size w3 w6 := Below.via hgrow6 (Below.push hB5 _) (fun k hk => (hown5.lt k hk).1))
                  | (refine step_append_any _ (by rfl) (.tmp 115) (.tmp 123) _ (by rfl) w3.heap.size 9 i0 (Value.string ⟨#[]⟩) 1 16 Tryz.underlying34 hti hz0 hz1 hz2 rfl Nat.one_pos v5 (0 + hn) ([] ++ strs (hv ++ R.take m)) (by rfl) hown5 (some ⟨w3.heap.size, 0, none⟩) 1 1 [Value.string s] (by rfl) rfl (.inr ⟨_, rfl, World.news_of_block (cs := #[Value.string s]) (t := 9) (fr := (0, 0)) ((hgrow5.block _ (by first | (simp; done) | (simp; omega)) (by first | (simp [Value.ownBlock]; done) | (simp [Value.ownBlock]; omega))).trans (heap_two w3 _ _ rfl))⟩) hone h63b hbyb hB5.size ?_
                     intro v6 w6 hown6 hgrow6 hat6
                     have hB6 : Below w3.heap.size w3 w6 := Below.via hgrow6 hB5 (fun k hk => (hown5.lt k hk).1))
                  | (refine step_append_any _ (by rfl) (.tmp 115) (.tmp 123) _ (by rfl) w3.heap.size 9 i0 (Value.string ⟨#[]⟩) 1 16 Tryz.underlying34 hti hz0 hz1 hz2 rfl Nat.one_pos v5 (0 + hn) ([] ++ strs (hv ++ R.take m)) (by rfl) hown5 (some ⟨w3.heap.size + 1, 0, none⟩) 1 1 [Value.string s] (by rfl) rfl (.inr ⟨_, rfl, World.news_of_block (cs := #[Value.string s]) (t := 9) (fr := (0, 0)) ((hgrow5.block _ (by first | (simp; done) | (simp; omega)) (by first | (simp [Value.ownBlock]; done) | (simp [Value.ownBlock]; omega))).trans (heap_one (w3.alloc _) _ (by simp)))⟩) hone h63b hbyb hB5.size ?_
                     intro v6 w6 hown6 hgrow6 hat6
                     have hB6 : Below w3.heap.size w3 w6 := Below.via hgrow6 hB5 (fun k hk => (hown5.lt k hk).1))
                  | fail)
              all_goals
                (have hfin : Adds E B w d l' (12 * i) hv (R.take m ++ [R.getD m []]) kS v6 D4 S4 N0 U0 b0 w6 := HA4.out.stored (by rw [← HHN.out, ← HS.out]; simpa using hown6) hB6
                 have HFIN := Lib.hid hfin
                 clear hfin hown6 hgrow6 hat6 hown5 hgrow5 hat5 hB5 hB6
                 go_wp2_with fail
                 go_meet
                 exact HFIN.out)
            case rest =>
              have hA5 := hcut
              clear hcut
              have hsnoc := take_snoc_l R [] m hltm
              have hA5' : Adds E B w d l' (12 * i) hv (R.take (m + 1)) kS u11 D4 S4 N0 U0 b0 wc := by rw [hsnoc]; exact hA5
              obtain ⟨x5, c5, hv5⟩ := row_form hA5'.row
              obtain ⟨h2, hh2⟩ : ∃ h2, h2 = (hv ++ R.take (m + 1)).length := ⟨_, rfl⟩
              rw [← hh2] at hv5
              subst hv5
              have HH2 := Lib.hid hh2
              have HA5 := Lib.hid hA5'
              clear hA5 hA5' hh2 hsnoc
              by_cases hsy : i < syncs.length
              · obtain ⟨gs, os, us, rfl, kc, hb1⟩ := H1.out.get hsy
                obtain ⟨n, hn'⟩ : ∃ n, n = syncs.getD i default := ⟨_, rfl⟩
                rw [← hn'] at hb1
                obtain ⟨rfl, hn256⟩ := hb1
                have hgsB : gs < B := by rw [HB.out]; exact World.block_lt_of_cell? w _ kc
                have kc5 := (HA5.out.below.cell (p := ⟨gs, _, none⟩) hgsB).trans kc
                have z1 : (0 : Int) ≤ (i : Int) := by omega
                have z2 : (i : Int) < (syncs.length : Int) := by omega
                have q7 : decide ((i : Int) < syncs.length) = true := by rw [decide_eq_true_iff]; omega
                clear hn' kc
                by_cases hq : n % 13 = m
                · have q8 : (((n : Int) % 13) == (m : Int)) = true := by rw [beq_iff_eq]; omega
                  have HSY := HA5.out.sync
                  go_wp2_with fail
                  refine HSY.mono ?_; rintro e w6 ⟨rfl, hA6⟩
                  have HA6 := Lib.hid hA6
                  clear hA6 HSY
                  go_wp2_with fail
                  exact ⟨⟨m + 1, (R.take (m + 1)).length, h2, _, _, by omega, by simp, by simp, by rw [HH2.out, List.length_append], HA6.out⟩, by simp [intOf]; omega⟩
                · have q8 : (((n : Int) % 13) == (m : Int)) = false := by rw [beq_eq_false_iff_ne]; omega
                  go_wp2_with fail
                  exact ⟨⟨m + 1, kS, sn, _, _, by omega, by simp, rfl, HSN.out, HA5.out⟩, by simp [intOf]; omega⟩
              · have q7 : decide ((i : Int) < syncs.length) = false := by rw [decide_eq_false_iff_not]; omega
                go_wp2_with fail
                exact ⟨⟨m + 1, kS, sn, _, _, by omega, by simp, rfl, HSN.out, HA5.out⟩, by simp [intOf]; omega⟩
        · obtain rfl : m = R.length := by omega
          rw [List.take_length] at hA
          have HA := Lib.hid hA
          have hkl := hA.live.kl
          have hrec := hA.r0
          have hn0 := hA.n0
          have HSN := Lib.hid hsn
          clear hA hsn
          go_upto_if 147 with fail
          go_cut [16] (fun kv wx => wx = wr ∧ ∃ ks, KeptIn B w kv ks)
          case first =>
            by_cases hkp : i < keeps.length
            · obtain ⟨gk, oo, uk, rfl, kk, hk⟩ := H2.out.get hkp
              have hgkB : gk < B := by rw [HB.out]; exact World.block_lt_of_cell? w _ kk
              have kk5 := (HA.out.below.cell (p := ⟨gk, _, none⟩) hgkB).trans kk
              have z1 : (0 : Int) ≤ (i : Int) := by omega
              have z2 : (i : Int) < (keeps.length : Int) := by omega
              have hin : KeptIn B w uk (keeps.getD i default) := by
                refine ⟨hk, ?_⟩
                obtain ⟨ao, cap, e, hr⟩ := hk
                rcases hr with hr | ⟨g', o', e', hg', _⟩
                · exact .inl hr
                · refine .inr fun q hq => ?_
                  rw [e, e'] at hq
                  simp [Value.ownBlock] at hq
                  rw [HB.out]; omega
              have HIN := Lib.hid hin
              clear hin
              clear hk kk
              go_wp2_with fail
              go_meet
              exact ⟨rfl, _, HIN.out⟩
            · have q9 : decide ((i : Int) < keeps.length) = false := by rw [decide_eq_false_iff_not]; omega
              go_wp2_with fail
              go_meet
              exact ⟨rfl, [], kept_nil w, .inl rfl⟩
          case rest =>
            obtain ⟨rfl, ks, hks⟩ := hcut
            obtain ⟨ko, ck, hkv, _⟩ := hks.1
            subst hkv
            have HKS := Lib.hid hks
            have hEr := HA.out.live.env
            have HW3 := wakes_ok wc hEr
            clear hks
            by_cases h100 : 100 < ks.length
            · have q9 : decide ((100 : Int) < ks.length) = true := by rw [decide_eq_true_iff]; omega
              go_wp2_with fail
              refine HW3.mono ?_; rintro e w3 ⟨rfl, hb3⟩
              go_wp2_with fail
              go_ret
              exact ⟨rfl, HA.out.below.trans (hb3.mono hEr.le)⟩
            have q9 : decide ((100 : Int) < ks.length) = false := by rw [decide_eq_false_iff_not]; omega
            have HNX := Next_ok wc HA.out.live.log
            rw [HA.out.live.next] at HNX
            obtain ⟨nn, hnn⟩ : ∃ nn, nn = N0 + R.length := ⟨_, rfl⟩
            rw [← hnn] at HNX
            have HNN := Lib.hid hnn
            clear HW3 hnn
            go_wp2_with fail
            refine HNX.mono ?_; rintro e w5 ⟨rfl, rfl⟩
            clear HNX
            have hk7 : KeptAt (wc.alloc (.cells #[] 98)) (.slice ko ks.length ck) ks := by
              have hbw : Below B w (wc.alloc (.cells #[] 98)) := HA.out.below.alloc hEr.le _
              exact HKS.out.1.chg (fun k hk _ => hbw.block k (by rw [HB.out]; exact hk)) hbw.size
            obtain ⟨_, hknews⟩ := kept_news hk7
            obtain ⟨i0, z0, hi0, hz0, hi1, hi2, hi3⟩ := info_kept
            have hrow0 : (wc.alloc (.cells #[] 98)).ownsRow wc.heap.size 98 2 (.slice (some ⟨wc.heap.size, 0, none⟩) 0 0) 0 [] := World.ownsRow_lit wc #[] 0 (Nat.le_refl _) (Nat.zero_le _) rfl
            clear hk7
            go_wp2_with (at_builtin; refine wpList_append_any _ rfl _ _ 37 rfl wc.heap.size 98 i0 z0 2 16 Tryz.underlying37 hi0 hz0 hi1 hi2 hi3 (by decide) _ 0 [] rfl hrow0 ko ks.length ck (keptCells ks) rfl (keptCells_length ks) hknews (kept_one ks) (by unfold maxLen; omega) (by omega) (by simp) ?_)
            intro v' w8 hown8 hgrow8 hat8
            have hb8 : Below wc.heap.size wc w8 := ((Below.refl _ _).alloc (Nat.le_refl _) _).grown hgrow8 (by simp) (fun k hk => (hrow0.lt k hk).1)
            have hk8 : KeptAt w8 v' ks := kept_row (by simpa using hown8)
            have hA8 := HA.out.kept hb8
            have hv8 : ∀ q, v'.ownBlock = some q → q ∉ d.F := fun q hq hF => by
              have h1 := (hown8.lt q hq).1
              have h2 := HA.out.live.lt q (List.mem_cons_of_mem _ (List.mem_append_left _ hF))
              omega
            have HCR := hA8.crash (by omega) (by omega) ks v' hk8 (by omega) (.inr hv8)
            clear hown8 hgrow8 hat8 hrow0 hknews hk8 hA8 hv8 hb8 hEr
            go_wp2_with fail
            refine HCR.mono ?_; rintro e w9 ⟨rfl, hF9⟩
            have HST := hF9.start
            clear HCR hF9
            go_wp2_with fail
            refine HST.mono ?_; rintro e w10 ⟨rfl, hR10⟩
            have HOP := hR10.open (by omega) (by omega) HA.out.three
            clear HST hR10
            go_wp2_with fail
            refine HOP.mono ?_; rintro e w11 ⟨mm, jj, nx, S11, rfl, hF11⟩
            have HRC := Records_ok w11 hF11.live.log
            rw [hF11.live.recs, List.append_nil] at HRC
            have HF11 := Lib.hid hF11
            have hrow11 := hF11.row
            have hjl := hF11.jl
            have hjk := hF11.jk
            have hlast := hF11.last
            clear HOP hF11
            go_wp2_with fail
            refine HRC.mono ?_; rintro e w12 ⟨rv, rfl, hrv, hb12⟩
            have hF12 := HF11.out.kept hb12
            obtain ⟨rl, hrl⟩ : ∃ rl, rl = (hv ++ R.take jj).length := ⟨_, rfl⟩
            obtain ⟨hr, hhr⟩ : ∃ hr, hr = (hv ++ R).length := ⟨_, rfl⟩
            have e1 : rl = hv.length + jj := by rw [hrl, List.length_append, List.length_take, Nat.min_eq_left hjl]
            have e2 : hr = hv.length + R.length := by rw [hhr, List.length_append]
            have e3 := HSN.out
            have hte : (hv ++ R).take rl = hv ++ R.take jj := by
              rw [e1, List.take_append, List.take_of_length_le (by omega), Nat.add_sub_cancel_left]
            have q1' : decide (rl < sn) = false := by rw [decide_eq_false_iff_not]; omega
            have q2' : decide (hr < rl) = false := by rw [decide_eq_false_iff_not]; omega
            have hrow12 := hF12.row
            have hnx : S11.next = nx := by simpa using hF12.live.next
            have hN2 : ∀ w', Below w12.heap.size w12 w' → Calls Tryz.prog 14 #[lp mm] w' fun e w'' => e = .returned (.int .u32 nx) ∧ w' = w'' := fun w' hb => by
              have := Next_ok w' (hF12.kept hb).live.log
              rw [hnx] at this
              exact this
            have htr := texts_row hrv
            obtain ⟨rx, rc', hrve⟩ := row_form hrv
            rw [← hrl] at hrve
            have HRV := Lib.hid hrv
            clear hrv hF12 hnx
            subst hrve
            rw [← hhr] at hrow12
            have HROW := Lib.hid hrow12
            have HTR := Lib.hid htr
            have HN2 := Lib.hid hN2
            have HTE := Lib.hid hte
            have HHR := Lib.hid hhr
            have HRL := Lib.hid hrl
            have HB12 := Lib.hid hb12
            have hlast' : jj = R.length → nn ≤ nx := fun h => by have := hlast h; have := HNN.out; omega
            have HLAST := Lib.hid hlast'
            have E1 := Lib.hid e1
            have E2 := Lib.hid e2
            clear hrow12 htr hN2 hte hhr hrl hb12 hrow11 hlast hlast' e1 e2 e3
            go_upto_region 37 with fail
            go_cut [210] (fun c wx => c = .bool false ∧ Below w12.heap.size w12 wx)
            case first =>
              rcases row_cases HROW.out with ⟨hz, rfl⟩ | ⟨gg, cap, rfl, hcap⟩
              · have hj0 : jj = R.length := by have := E1.out; have := E2.out; omega
                have hall : hv ++ R = [] := List.length_eq_zero_iff.1 (by rw [← HHR.out]; exact hz)
                have hnil : hv ++ R.take jj = [] := by rw [← HTE.out, hall]; simp
                have qn : decide (nx < nn) = false := by have := HLAST.out hj0; rw [decide_eq_false_iff_not]; omega
                have HTX := Texts_any (hv ++ R.take jj) [] _ (.slice none 0 0) w12 HTR.out ⟨none, 0, rfl, .inl rfl⟩ (by rw [hnil]; simp)
                rw [decide_eq_true hnil] at HTX
                have hrz : rl = 0 := by have := E1.out; have := E2.out; omega
                have hs0 : sn = 0 := by have := E1.out; have := HSN.out; omega
                clear hj0 hnil hall q1' q2'
                subst hz hrz hs0
                go_wp2_with fail
                refine HTX.mono ?_; rintro e w13 ⟨rfl, n13, hw13⟩
                have hb13 : Below w12.heap.size w12 w13 := by rw [hw13]; exact below_drewN _ _
                have HNX := HN2.out w13 hb13
                clear hw13 HTX
                go_wp2_with fail
                refine HNX.mono ?_; rintro e w14 ⟨rfl, rfl⟩
                go_wp2_with fail
                go_meet
                exact ⟨rfl, hb13⟩
              · have g1 : (0 : Int) ≤ (rl : Int) := by omega
                have g2 : (rl : Int) ≤ (cap : Int) := by have := E1.out; have := E2.out; omega
                have hf := texts_first (m := rl) (ss := hv ++ R) HROW.out HHR.out (by have := E1.out; have := E2.out; omega)
                have HTX := Texts_any (hv ++ R.take jj) _ _ _ w12 HTR.out hf (by rw [← HRL.out]; have := E1.out; omega)
                rw [decide_eq_true HTE.out.symm] at HTX
                clear hf
                by_cases hj : jj = R.length
                · have qn : decide (nx < nn) = false := by have := HLAST.out hj; rw [decide_eq_false_iff_not]; omega
                  clear hj
                  go_wp2_with fail
                  refine HTX.mono ?_; rintro e w13 ⟨rfl, n13, hw13⟩
                  have hb13 : Below w12.heap.size w12 w13 := by rw [hw13]; exact below_drewN _ _
                  have HNX := HN2.out w13 hb13
                  clear hw13 HTX
                  go_wp2_with fail
                  refine HNX.mono ?_; rintro e w14 ⟨rfl, rfl⟩
                  go_wp2_with fail
                  go_meet
                  exact ⟨rfl, hb13⟩
                · have qe : ((rl : Int) == (hr : Int)) = false := by have := E1.out; have := E2.out; rw [beq_eq_false_iff_ne]; omega
                  clear hj
                  obtain ⟨bb, hbb⟩ : ∃ bb, bb = decide (nx < nn) := ⟨_, rfl⟩
                  have hbb' := hbb.symm
                  clear hbb
                  cases bb
                  all_goals
                    go_wp2_with fail
                    refine HTX.mono ?_; rintro e w13 ⟨rfl, n13, hw13⟩
                    have hb13 : Below w12.heap.size w12 w13 := by rw [hw13]; exact below_drewN _ _
                    have HNX := HN2.out w13 hb13
                    clear hw13 HTX
                    go_wp2_with fail
                    refine HNX.mono ?_; rintro e w14 ⟨rfl, rfl⟩
                    go_wp2_with fail
                    go_meet
                    exact ⟨rfl, hb13⟩
            case rest =>
              obtain ⟨rfl, hbc⟩ := hcut
              have hA13 := HF11.out.adds (c' := 12 * (i + 1)) (by omega) HRV.out HB12.out hbc
              have HA13 := Lib.hid hA13
              clear hA13 hbc
              go_wp2_with fail
              exact ⟨⟨i + 1, mm, hv ++ R.take jj, _, S11, nx, S11.used, _, by omega, by simp, rfl, HA13.out⟩, by simp [intOf]; omega⟩
    · obtain rfl : i = rounds.length := by omega
      have HW3 := wakes_ok wr hA.live.env
      have HA := Lib.hid hA
      clear hA
      go_wp2_with fail
      refine HW3.mono ?_; rintro e w3 ⟨rfl, hb3⟩
      go_wp2_with fail
      go_ret
      exact ⟨rfl, HA.out.below.trans (hb3.mono HA.out.live.env.le)⟩
end Go.Proofs.YtfijhffhlklddaaGreatDoor
