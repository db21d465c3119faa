/-
  A log at work: what is emptied, what is opened while it is cached; a slice of texts of the caller's own beside it.
-/
import Derived.Test.YtfijhffhlklddaaGreatDoorArgs
namespace Go.Proofs.YtfijhffhlklddaaGreatDoor
open Go.RowKit

variable {E : Errs} {B : Nat} {w : World} {d : Dk} {l : Nat} {D : DiskS} {S : LogS} {first N0 U0 : Nat} {b0 recs0 rs : List Bytes} {k : Nat}
theorem Live.lt (h : Live E B w d l D S first N0 U0 b0 recs0 rs k) : ∀ q ∈ Live.F d l S, q < w.heap.size := by
  intro q hq
  rcases List.mem_cons.1 hq with rfl | hq
  · exact h.log.lt
  · rcases List.mem_append.1 hq with hq | hq
    · simp only [List.mem_cons, List.mem_nil_iff, or_false] at hq
      rcases hq with rfl | rfl | rfl
      · exact (Array.getElem?_eq_some_iff.1 h.disk.cells).1
      · obtain ⟨_, _, h2⟩ := h.disk.hm.isMap; exact (Array.getElem?_eq_some_iff.1 h2).1
      · obtain ⟨_, _, h2⟩ := h.disk.hc.isMap; exact (Array.getElem?_eq_some_iff.1 h2).1
    · exact (h.log.rv_base q (by simpa using hq)).2
/-- What is turned elsewhere leaves a log as it was. -/
theorem Live.chg (h : Live E B w d l D S first N0 U0 b0 recs0 rs k) {w' : World} {F : List Nat} (hc : Chg F w w') (hB : ∀ q ∈ F, B ≤ q) (hF : ∀ q ∈ F, q ∉ Live.F d l S) : Live E B w' d l D S first N0 U0 b0 recs0 rs k :=
  { h with env := h.env.below (hc.below h.env.le hB),
           log := h.log.chg hc (fun hq => hF l hq (by simp)) (fun q hq hq' => hF q hq' (by simp [Live.F, hq])),
           disk := h.disk.chg hc (fun hq => hF _ hq (by simp [Live.F])) (fun hq => hF _ hq (by simp [Live.F])) (fun hq => hF _ hq (by simp [Live.F])) }

/-- A row of the caller's own lies apart from the log's. -/
def Sep (v : Value) (S : LogS) : Prop := ∀ q, v.ownBlock = some q → S.rv.ownBlock ≠ some q
theorem row_not_disk {v : Value} {n : Nat} {xs : List Value} (hv : w.ownsRow B 9 1 v n xs) (hd : DiskAt B w d D) : ∀ q, v.ownBlock = some q → q ∉ d.F := by
  intro q hq hF
  rcases hv.2 with ⟨e, _⟩ | ⟨g, cap, cur, e, _, hg, _⟩
  · rw [e] at hq; cases hq
  · rw [e] at hq
    simp only [Value.ownBlock, Option.some.injEq] at hq
    subst hq
    simp only [List.mem_cons, List.mem_nil_iff, or_false] at hF
    rcases hF with rfl | rfl | rfl
    · rw [hd.cells] at hg; simp at hg
    · obtain ⟨_, _, h2⟩ := hd.hm.isMap; rw [h2] at hg; cases hg
    · obtain ⟨_, _, h2⟩ := hd.hc.isMap; rw [h2] at hg; cases hg
theorem Live.row_out (h : Live E B w d l D S first N0 U0 b0 recs0 rs k) {v : Value} {n : Nat} {xs : List Value} (hv : w.ownsRow B 9 1 v n xs) (hs : Sep v S) : ∀ q, v.ownBlock = some q → q ∉ Live.F d l S := by
  intro q hq hF
  rcases List.mem_cons.1 hF with rfl | hF
  · exact Lib.ownBlock_ne hv h.log.cells (by decide) hq
  · rcases List.mem_append.1 hF with hF | hF
    · exact row_not_disk hv h.disk q hq hF
    · exact hs q hq (by simpa using hF)
theorem sep_nil (S : LogS) : Sep (.slice none 0 0) S := fun q hq => by cases hq
theorem Sep.step {v : Value} {n : Nat} {xs : List Value} {S' : LogS} (hs : Sep v S) (hv : w.ownsRow B 9 1 v n xs) (hr : S'.rv.ownBlock = S.rv.ownBlock ∨ ∃ q, S'.rv.ownBlock = some q ∧ w.heap.size ≤ q) : Sep v S' := by
  intro q hq e
  rcases hr with hr | ⟨q', hr, hlt⟩
  · exact hs q hq (hr.symm.trans e)
  · rw [hr] at e
    cases e
    exact absurd (hv.lt q hq).2 (by omega)
theorem Sep.grown {v v' : Value} (hs : Sep v S) (h : Live E B w d l D S first N0 U0 b0 recs0 rs k) {H : Nat} (hH : w.heap.size ≤ H) (hat : v'.ownBlock = v.ownBlock ∨ v'.ownBlock = some H) : Sep v' S := by
  intro q hq e
  rcases hat with hat | hat
  · exact hs q (hat.symm.trans hq) e
  · rw [hat] at hq
    cases hq
    exact absurd (h.log.rv_base _ e).2 (by omega)

/-- The records that stand there now are those that were read, and those that were appended. -/
theorem Live.read_now (h : Live E B w d l D S first N0 U0 b0 recs0 rs k) (hN : N0 + rs.length ≤ 256) {recs : List Bytes} {u : Nat} (hs : Scan D.reg first recs u) : recs = recs0 ++ rs ∧ ∀ x ∈ D.reg, Good (N0 + rs.length) x := by
  obtain ⟨h1, h2, h3, h4⟩ := h.st.now
  obtain ⟨j, j1, j2, j3, j4, _⟩ := Go.Proofs.YtfijhffhlklddaaGreatDoor.reopen h.good h.pos hN h.ff h.scan h.rl h1 h2 h3
  have hj : rs.length ≤ j := j3 rs.length (Nat.le_refl _) (fun p hp => h4 p (by rwa [List.take_length] at hp))
  obtain ⟨e, _⟩ := hs.det j2
  rw [e, List.take_of_length_le hj]
  exact ⟨rfl, j4⟩
theorem Live.good_now (h : Live E B w d l D S first N0 U0 b0 recs0 rs k) (hN : N0 + rs.length ≤ 256) : ∀ x ∈ D.reg, Good (N0 + rs.length) x := by
  obtain ⟨h1, h2, h3, h4⟩ := h.st.now
  obtain ⟨_, _, _, _, j4, _⟩ := Go.Proofs.YtfijhffhlklddaaGreatDoor.reopen h.good h.pos hN h.ff h.scan h.rl h1 h2 h3
  exact j4

/-- Opened while the elder one is at work. -/
theorem Live.open_now (h : Live E B w d l D S first N0 U0 b0 recs0 rs k) (hN : N0 + rs.length ≤ 256) (hf0 : 0 < first) :
    Calls Tryz.prog 10 #[d.p, .int .u32 first] w fun e w' => ∃ m S', e = .returned (.tuple #[lp m, .int .i64 0]) ∧ LogAt w.heap.size w' m d S' ∧ S'.recs = recs0 ++ rs ∧ Below w.heap.size w w' := by
  have hg := h.good_now hN
  have hff := h.ff
  have hnx := nextS_le D.reg _ hg first (by omega)
  refine (Open_ok first w h.env h.disk h.dd h.n32 (by omega) (by omega) (by unfold most; omega)).mono fun e w' hh => ?_
  obtain ⟨m, S', he, _, hlog, _, _, _, hscan, _, _, hb⟩ := hh
  exact ⟨m, S', he, hlog, (h.read_now hN hscan).1, hb⟩

theorem scan_none {b : List Bytes} {N : Nat} (hN : 0 < N) (hg : ∀ x ∈ b, Good N x) : Scan b N [] 0 := by
  refine .stop fun r num n hr => .inl ?_
  obtain ⟨_, z2, z3, z4, _, _⟩ := readS_some hr
  have hlen : 0 < b.length := by omega
  have h1 := z4 0 (by omega)
  have h2 := (good_getD hg 0 hlen).numS
  omega

/-- Emptied when all of it is durable: nothing is there, and all numbers there are less than the next one. -/
theorem Live.emptied (h : Live E B w d l D S first N0 U0 b0 recs0 rs k) (hN : N0 + rs.length ≤ 256) (hc : ∀ i, D.c i = none) :
    Calls Tryz.prog 22 #[lp l] w fun e w' => e = .returned (.tuple #[]) ∧ Live E B w' d l D { S with rv := .slice none 0 0, recs := [], used := 0 } (N0 + rs.length) (N0 + rs.length) 0 D.reg [] [] 0 ∧ Chg [l] w w' := by
  refine (Empty_ok w h.log).mono fun e w' hh => ?_
  obtain ⟨he, hl, hc'⟩ := hh
  have hg := h.good_now hN
  have hpos := h.pos
  have hnd := h.log.not_disk h.disk
  refine ⟨he, { env := h.env.below (hc'.below h.env.le (by simp; exact h.log.b1)), log := hl, disk := h.disk.chg hc' (fun hq => hnd (by simp at hq; simp [hq])) (fun hq => hnd (by simp at hq; simp [hq])) (fun hq => hnd (by simp at hq; simp [hq])),
                sd := h.sd, dd := h.dd, da := h.da, logs := h.logs, n32 := h.n32, st := by simpa [wallS] using St.start (D := D) (fun p _ => hc _) (Nat.zero_le _), recs := rfl, used := by simp [wallS], next := by simpa using h.next, good := hg, pos := by omega, ff := Nat.le_refl _, scan := scan_none (by omega) hg, rl := by simp, kl := Nat.le_refl _ }, hc'⟩

theorem cntS_600 {n : Nat} (h : n ≤ 600) : cntS n ≤ 3 := by unfold cntS; omega
theorem wallS_small (rs : List Bytes) (h : ∀ r ∈ rs, r.length ≤ 600) : ∀ N, (wallS N rs).length ≤ 3 * rs.length := by
  induction rs with
  | nil => intro N; simp [wallS]
  | cons a rs ih =>
    intro N
    have h1 := ih (fun r hr => h r (List.mem_cons_of_mem _ hr)) (N + 1)
    have h2 := cntS_600 (h a (by simp))
    rw [wallS, List.length_append, makeS_length, List.length_cons]
    omega
end Go.Proofs.YtfijhffhlklddaaGreatDoor
