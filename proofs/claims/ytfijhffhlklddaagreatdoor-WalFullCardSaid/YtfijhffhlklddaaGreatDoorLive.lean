/-
  A log at work: what its calls do, in the words of the plain law.
-/
import Derived.Test.YtfijhffhlklddaaGreatDoorTexts
namespace Go.Proofs.YtfijhffhlklddaaGreatDoor
open Go.RowKit

/-- A log l at work over a disk d: it was opened when the sectors said b0, read the records recs0 off them, with N0 the next number, and has got the records rs since, of which the first k are sure. -/
structure Live (E : Errs) (B : Nat) (w : World) (d : Dk) (l : Nat) (D : DiskS) (S : LogS) (first N0 U0 : Nat) (b0 recs0 rs : List Bytes) (k : Nat) : Prop where
  env : Env E B w
  log : LogAt B w l d S
  disk : DiskAt B w d D
  sd : S.dead = false
  dd : D.dead = false
  da : D.armed = false
  logs : S.logs = logsOf D.n
  n32 : 32 ≤ D.n
  st : St D b0 U0 (wallS N0 rs) (wallS N0 (rs.take k)).length
  recs : S.recs = recs0 ++ rs
  used : S.used = U0 + (wallS N0 rs).length
  next : S.next = N0 + rs.length
  good : ∀ x ∈ b0, Good N0 x
  pos : 0 < N0
  ff : first ≤ N0
  scan : Scan b0 first recs0 U0
  rl : ∀ r ∈ rs, r.length ≤ 2000
  kl : k ≤ rs.length

abbrev Live.F (d : Dk) (l : Nat) (S : LogS) : List Nat := l :: (d.F ++ S.rv.ownBlock.toList)

variable {E : Errs} {B : Nat} {w : World} {d : Dk} {l : Nat} {D : DiskS} {S : LogS} {first N0 U0 : Nat} {b0 recs0 rs : List Bytes} {k : Nat}
theorem Live.base (h : Live E B w d l D S first N0 U0 b0 recs0 rs k) : ∀ q ∈ Live.F d l S, B ≤ q := by
  intro q hq
  rcases List.mem_cons.1 hq with rfl | hq
  · exact h.log.b1
  · rcases List.mem_append.1 hq with hq | hq
    · exact h.disk.F q hq
    · exact (h.log.rv_base q (by simpa using hq)).1
theorem Live.below (h : Live E B w d l D S first N0 U0 b0 recs0 rs k) {w' : World} (hb : Below w.heap.size w w') : Live E B w' d l D S first N0 U0 b0 recs0 rs k :=
  { h with env := h.env.grew hb, log := h.log.below hb, disk := h.disk.below hb }

/-- An append: it is there, or there is no room, or it is too long. -/
theorem Live.append (h : Live E B w d l D S first N0 U0 b0 recs0 rs k) (r : Bytes) (hN : N0 + rs.length ≤ 1000000) (hR : recs0.length + rs.length < 100000) :
    Calls Tryz.prog 12 #[lp l, .string (bs r)] w fun e w' =>
      (e = .returned (.int .i64 2) ∧ 2000 < r.length ∧ Live E B w' d l D S first N0 U0 b0 recs0 rs k ∧ Below w.heap.size w w') ∨
      (e = .returned (.int .i64 73) ∧ r.length ≤ 2000 ∧ logsOf D.n < S.used + cntS r.length ∧ Live E B w' d l D S first N0 U0 b0 recs0 rs k ∧ Below w.heap.size w w') ∨
      (e = .returned (.int .i64 0) ∧ r.length ≤ 2000 ∧ ∃ D' S', Live E B w' d l D' S' first N0 U0 b0 recs0 (rs ++ [r]) k ∧ D'.n = D.n ∧ (S'.rv.ownBlock = S.rv.ownBlock ∨ ∃ q, S'.rv.ownBlock = some q ∧ w.heap.size ≤ q) ∧ Chg (Live.F d l S) w w') := by
  by_cases h1 : 2000 < r.length
  · exact (Append_long r w h.env h.log h.sd h1).mono fun _ _ hh => .inl ⟨hh.1, h1, h.below hh.2, hh.2⟩
  · have h1' : r.length ≤ 2000 := by omega
    have hnx : S.next ≤ most := by rw [h.next]; unfold most; omega
    by_cases h2 : logsOf D.n < S.used + cntS r.length
    · exact (Append_full r w h.env h.log h.sd h1' (.inl (by rw [h.logs]; exact h2))).mono fun _ _ hh => .inr (.inl ⟨hh.1, h1', h2, h.below hh.2, hh.2⟩)
    · have hroom : S.used + cntS r.length ≤ S.logs := by rw [h.logs]; omega
      have hlog : 2 + S.logs ≤ D.n := by rw [h.logs]; unfold logsOf; have := h.n32; omega
      refine (Append_ok r w h.env h.log h.disk h.sd h.dd h.da h1' hroom hnx (by rw [h.next]; have := h.pos; omega) hlog (by rw [h.recs, List.length_append]; omega)).mono fun e w' hh => .inr (.inr ?_)
      obtain ⟨he, ⟨rv', hrv, hl⟩, hd, hc⟩ := hh
      have hst := h.st.append (X := makeS S.next r) (by rw [makeS_length, h.st.len, ← h.used]; omega)
      rw [h.next, ← wallS_snoc, ← h.used, ← h.next] at hst
      have hc' : Chg (Live.F d l S) w w' := hc.mono (fun q hq => by
        simp only [List.mem_cons] at hq
        rcases hq with rfl | rfl | hq
        · simp
        · simp
        · exact List.mem_cons_of_mem _ (List.mem_append_right _ hq))
      have htk : (rs ++ [r]).take k = rs.take k := List.take_append_of_le_length h.kl
      refine ⟨he, h1', _, _, { env := h.env.below (hc'.below h.env.le h.base), log := hl, disk := hd, sd := h.sd, dd := h.dd, da := h.da, logs := h.logs, n32 := h.n32, st := ?_, recs := ?_, used := ?_, next := ?_, good := h.good, pos := h.pos, ff := h.ff, scan := h.scan, rl := ?_, kl := ?_ }, rfl, hrv, hc'⟩
      · rw [htk]; exact hst
      · show S.recs ++ [r] = _; rw [h.recs, List.append_assoc]
      · show S.used + cntS r.length = _; rw [wallS_snoc, List.length_append, makeS_length, h.used]; omega
      · show S.next + 1 = _; rw [h.next, List.length_append]; rfl
      · intro x hx
        rcases List.mem_append.1 hx with hx | hx
        · exact h.rl x hx
        · rw [List.mem_singleton.1 hx]; exact h1'
      · rw [List.length_append]; have := h.kl; omega

/-- A sync: all is sure. -/
theorem Live.sync (h : Live E B w d l D S first N0 U0 b0 recs0 rs k) :
    Calls Tryz.prog 13 #[lp l] w fun e w' => e = .returned (.int .i64 0) ∧ Live E B w' d l D.flushed S first N0 U0 b0 recs0 rs rs.length ∧ Chg (Live.F d l S) w w' := by
  refine (Sync_ok w h.log h.disk h.sd h.dd h.da).mono fun e w' hh => ?_
  obtain ⟨he, hl, hd, hc⟩ := hh
  have hc' : Chg (Live.F d l S) w w' := hc.mono (fun q hq => by
    simp only [List.mem_cons, List.mem_nil_iff, or_false] at hq
    rcases hq with rfl | rfl | rfl <;> simp)
  refine ⟨he, { env := h.env.below (hc'.below h.env.le h.base), log := hl, disk := hd, sd := h.sd, dd := h.dd, da := h.da, logs := h.logs, n32 := h.n32, st := ?_, recs := h.recs, used := h.used, next := h.next, good := h.good, pos := h.pos, ff := h.ff, scan := h.scan, rl := h.rl, kl := Nat.le_refl _ }, hc'⟩
  rw [List.take_length]
  exact h.st.flush

/-- A disk between a crash and an opening. -/
structure Idle (E : Errs) (B : Nat) (w : World) (d : Dk) (D : DiskS) : Prop where
  env : Env E B w
  disk : DiskAt B w d D
  dd : D.dead = false
  da : D.armed = false
  n32 : 32 ≤ D.n
  none : ∀ i, D.c i = none
theorem Idle.below (h : Idle E B w d D) {w' : World} (hb : Below w.heap.size w w') : Idle E B w' d D := { h with env := h.env.grew hb, disk := h.disk.below hb }

/-- An opening over a disk of small numbers. -/
theorem Idle.opened (h : Idle E B w d D) (first N : Nat) (hN : N ≤ 256) (hg : ∀ x ∈ D.reg, Good N x) (hf0 : 0 < first) (hf : first ≤ N) :
    Calls Tryz.prog 10 #[d.p, .int .u32 first] w fun e w' => ∃ l S, e = .returned (.tuple #[lp l, .int .i64 0]) ∧ w.heap.size ≤ l ∧ (∀ q, S.rv.ownBlock = some q → w.heap.size ≤ q) ∧
      Live E B w' d l D S first (nextS first D.reg) S.used D.reg S.recs [] 0 ∧ S.recs.length ≤ logsOf D.n ∧ Below w.heap.size w w' := by
  have hnx := nextS_le D.reg N hg first hf
  refine (Open_ok first w h.env h.disk h.dd h.n32 (by omega) (by omega) (by unfold most; omega)).mono fun e w' hh => ?_
  obtain ⟨l, S, he, hl, hlog, hlogs, hnext, hdead, hscan, hu, hrl, hb⟩ := hh
  have hst := St.start (D := D) (fun p _ => h.none _) hu
  refine ⟨l, S, he, hl, fun q hq => (hlog.rv_base q hq).1, { env := h.env.grew hb, log := hlog.mono h.env.le, disk := h.disk.below hb, sd := hdead, dd := h.dd, da := h.da, logs := hlogs, n32 := h.n32, st := by simpa [wallS] using hst, recs := by simp, used := by simp [wallS], next := by simpa using hnext, good := good_next hN hg first, pos := by have := le_nextS D.reg first; omega, ff := le_nextS _ _, scan := hscan, rl := by simp, kl := Nat.le_refl _ }, hrl, hb⟩

/-- A crash, and a start. -/
theorem Live.crash (h : Live E B w d l D S first N0 U0 b0 recs0 rs k) (ks : KL) (v : Value) (hk : KeptAt w v ks) (hm : ks.length ≤ 100000) (hv : ks = [] ∨ ∀ q, v.ownBlock = some q → q ∉ d.F) :
    Calls Tryz.prog 15 #[d.p, v] w fun e w' => e = .returned (.tuple #[]) ∧ DiskAt B w' d (D.crashed ks) ∧ Env E B w' ∧ Chg d.F w w' := by
  refine (Crash_ok ks v w h.disk h.dd hk hm hv).mono fun e w' hh => ⟨hh.1, hh.2.1, h.env.below (hh.2.2.below h.env.le h.disk.F), hh.2.2⟩
theorem started {ks : KL} (hd : DiskAt B w d (D.crashed ks)) (he : Env E B w) (hn : 32 ≤ D.n) :
    Calls Tryz.prog 16 #[d.p] w fun e w' => e = .returned (.tuple #[]) ∧ Idle E B w' d (D.again ks) ∧ Chg d.F w w' := by
  refine (Start_ok w hd).mono fun e w' hh => ?_
  have hc : Chg d.F w w' := hh.2.2.mono (by simp)
  exact ⟨hh.1, { env := he.below (hc.below he.le hd.F), disk := hh.2.1, dd := rfl, da := rfl, n32 := hn, none := fun _ => rfl }, hc⟩
/-- What is read of the sectors then. -/
theorem Live.reopen (h : Live E B w d l D S first N0 U0 b0 recs0 rs k) (hN : N0 + rs.length ≤ 256) (ks : KL) :
    ∃ j, j ≤ rs.length ∧ k ≤ j ∧ Scan (D.again ks).reg first (recs0 ++ rs.take j) (U0 + (wallS N0 (rs.take j)).length) ∧ (∀ x ∈ (D.again ks).reg, Good (N0 + rs.length) x) ∧ (j = rs.length → 0 < j → N0 + rs.length ≤ nextS first (D.again ks).reg) := by
  obtain ⟨h1, h2, h3, h4, _⟩ := h.st.crash ks
  obtain ⟨j, j1, j2, j3, j4, j5⟩ := Go.Proofs.YtfijhffhlklddaaGreatDoor.reopen h.good h.pos hN h.ff h.scan h.rl h1 h2 h3
  exact ⟨j, j1, j3 k h.kl h4, j2, j4, j5⟩
end Go.Proofs.YtfijhffhlklddaaGreatDoor
