/-
  Contracts of package frame: Read.
-/
import Derived.Test.YtfijhffhlklddaaGreatDoorRead
import Derived.Test.YtfijhffhlklddaaGreatDoorLaw
namespace Go.Proofs.YtfijhffhlklddaaGreatDoor
open Go.RowKit

theorem results_tmp4 {fn : Func} {t u v x : Tmp} (h : fn.results = #[.tmp t, .tmp u, .tmp v, .tmp x]) (tmps : Array Value) (P : Program) (w : World) :
    (results fn tmps).run P w = .ok (.tuple #[tmps.getD t undef, tmps.getD u undef, tmps.getD v undef, tmps.getD x undef]) w := by
  simp [results, h]

theorem read_any (E : Errs) (B : Nat) (ss : List ByteArray) (g off cap : Nat) (w : World) (henv : Env E B w) (h0 : 0 < ss.length) (hs : StrsAt w g off ss) (hm : ss.length ≤ 100000) (hcap : ss.length ≤ cap) :
    Calls Tryz.prog 75 #[.slice (some ⟨g, off, none⟩) ss.length cap] w fun e w' => ReadEnd E (readS (ss.map byt)) e ∧ Below w.heap.size w w' := by
  have hcons : ∃ t, ss.map byt = byt (ss.getD 0 ByteArray.empty) :: t := by
    cases ss with
    | nil => simp at h0
    | cons x t => exact ⟨t.map byt, rfl⟩
  obtain ⟨t, ht⟩ := hcons
  have hlen : (byt (ss.getD 0 ByteArray.empty) :: t).length = ss.length := by rw [← ht]; simp
  unfold readS
  rw [ht]
  simp only
  by_cases h1 : numS (byt (ss.getD 0 ByteArray.empty)) = 0
  · rw [if_pos h1]
    exact (read_torn E B ss g off cap w henv h0 hs hm _ rfl h1).mono fun _ _ h => ⟨⟨_, 0, _, .inl rfl, h.1⟩, h.2⟩
  · rw [if_neg h1, hlen]
    by_cases h2 : beNum (((byt (ss.getD 0 ByteArray.empty)).drop 6).take 2) < 1 ∨ ss.length < beNum (((byt (ss.getD 0 ByteArray.empty)).drop 6).take 2)
    · rw [if_pos h2]
      exact (read_size E B ss g off cap w henv h0 hs hm _ rfl _ _ rfl h1 rfl h2).mono fun _ _ h => ⟨⟨_, 0, _, .inr (.inl rfl), h.1⟩, h.2⟩
    · rw [if_neg h2]
      refine (read_loop E B ss g off cap w henv h0 hs hm hcap _ rfl _ _ rfl h1 rfl (by omega) (by omega) _ rfl).mono fun _ _ h => ⟨?_, h.2⟩
      have := h.1
      rw [readRes, ht] at this
      exact this

def RdEnd (r : Option (Bytes × Nat × Nat)) (e : Ending) : Prop :=
  match r with
  | some (s, num, n) => e = .returned (.tuple #[.string (bs s), .int .u32 num, .int .i64 n, .bool true])
  | none => e = .returned (.tuple #[.string ⟨#[]⟩, .int .u32 0, .int .i64 0, .bool false])

set_option maxRecDepth 100000 in
set_option maxHeartbeats 1000000 in
/-- Read: the record with which sectors begin. -/
theorem Read_any (E : Errs) (B : Nat) (ss : List ByteArray) (g off cap : Nat) (w : World) (henv : Env E B w) (h0 : 0 < ss.length) (hs : StrsAt w g off ss) (hm : ss.length ≤ 100000) (hcap : ss.length ≤ cap) :
    Calls Tryz.prog 44 #[.slice (some ⟨g, off, none⟩) ss.length cap] w fun e w' => RdEnd (readS (ss.map byt)) e ∧ Below w.heap.size w w' := by
  have HR := read_any E B ss g off cap w henv h0 hs hm hcap
  have HE := Lib.hid henv
  have HS := Lib.hid hs
  have H0 := Lib.hid h0
  clear henv hs
  cases hr : readS (ss.map byt) with
  | some y =>
    obtain ⟨s, num, n⟩ := y
    rw [hr] at HR
    obtain ⟨x, hx⟩ : ∃ x, x = ss.getD 0 ByteArray.empty := ⟨_, rfl⟩
    have hnum : numS (byt x) = num := by
      obtain ⟨k1, k2, k3, k4, _⟩ := readS_some hr
      have := k4 0 (by omega)
      rw [← this, hx]
      cases ss with
      | nil => simp at h0
      | cons a t => rfl
    have HN := frame_Num x
    rw [hnum] at HN
    have HX := Lib.hid hx
    clear hx hnum hr
    go_enter Tryz.func44, Tryz.ntmps44
    go_wp2_with fail
    refine HR.mono ?_; rintro e w1 ⟨rfl, hb⟩
    have he := HE.out.grew hb
    have t1 := he.torn.1
    have t2 := he.other.1
    have t3 := he.sum.1
    clear he
    have c1 : w1.cell? ⟨g, off, none⟩ = some (.string x) := by rw [HX.out]; exact (HS.out.below hb).2 0 H0.out
    go_wp2_with fail
    refine (is_nil _ _).mono ?_; rintro e w2 ⟨rfl, rfl⟩
    go_wp2_with fail
    refine (is_nil _ _).mono ?_; rintro e w2 ⟨rfl, rfl⟩
    go_wp2_with fail
    refine (is_nil _ _).mono ?_; rintro e w2 ⟨rfl, rfl⟩
    go_wp2_with fail
    refine (HN _).mono ?_; rintro e w2 ⟨rfl, m, rfl⟩
    go_wp2_with fail
    (try simp only [Exit.inBlock, Exit.then]); refine bodyPost_ret (results_tmp4 rfl _ _ _) rfl ?_
    exact ⟨rfl, hb.trans (below_drewN _ _)⟩
  | none =>
    rw [hr] at HR
    clear hr
    go_enter Tryz.func44, Tryz.ntmps44
    go_wp2_with fail
    refine HR.mono ?_; rintro e w1 ⟨⟨s, n, a, ha, rfl⟩, hb⟩
    have he := HE.out.grew hb
    have t1 := he.torn.1
    have t2 := he.other.1
    have t3 := he.sum.1
    obtain ⟨b1, l1, k1, d1, q1⟩ := he.torn
    obtain ⟨b2, l2, k2, d2, q2⟩ := he.other
    obtain ⟨b3, l3, k3, d3, q3⟩ := he.sum
    have N1 := Lib.hid he.ne1
    have N2 := Lib.hid he.ne2
    have N3 := Lib.hid he.ne3
    have Q1 := Lib.hid q1
    have Q2 := Lib.hid q2
    have Q3 := Lib.hid q3
    clear he l1 l2 l3 q1 q2 q3 b1 b2 b3
    rcases ha with rfl | rfl | rfl
    · go_wp2_with fail
      refine (is_same _ _).mono ?_; rintro e w2 ⟨rfl, rfl⟩
      go_wp2_with fail
      (try simp only [Exit.inBlock, Exit.then]); refine bodyPost_ret (results_tmp4 rfl _ _ _) rfl ?_
      exact ⟨rfl, hb⟩
    · go_wp2_with fail
      refine (is_other _ _ _ _ _ _ _ (Ne.symm N1.out) Q2.out Q1.out).mono ?_; rintro e w2 ⟨rfl, rfl⟩
      go_wp2_with fail
      refine (is_same _ _).mono ?_; rintro e w2 ⟨rfl, rfl⟩
      go_wp2_with fail
      (try simp only [Exit.inBlock, Exit.then]); refine bodyPost_ret (results_tmp4 rfl _ _ _) rfl ?_
      exact ⟨rfl, hb⟩
    · go_wp2_with fail
      refine (is_other _ _ _ _ _ _ _ (Ne.symm N2.out) Q3.out Q1.out).mono ?_; rintro e w2 ⟨rfl, rfl⟩
      go_wp2_with fail
      refine (is_other _ _ _ _ _ _ _ (Ne.symm N3.out) Q3.out Q2.out).mono ?_; rintro e w2 ⟨rfl, rfl⟩
      go_wp2_with fail
      refine (is_same _ _).mono ?_; rintro e w2 ⟨rfl, rfl⟩
      go_wp2_with fail
      (try simp only [Exit.inBlock, Exit.then]); refine bodyPost_ret (results_tmp4 rfl _ _ _) rfl ?_
      exact ⟨rfl, hb⟩
end Go.Proofs.YtfijhffhlklddaaGreatDoor
