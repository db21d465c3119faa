/-
  Contracts: maps.Copy over the disk's maps, and Flush.
-/
import Derived.Test.YtfijhffhlklddaaGreatDoorDisk2
import Derived.Deep.RegionHeld3
namespace Go.Proofs.YtfijhffhlklddaaGreatDoor
open Go.RowKit
open Go.Maps (Keyed)

/-- What stands over what. -/
def over (c m : Sectors) : Sectors := fun i => match c i with | some s => some s | none => m i
/-- .. as far as it is done. -/
def overAt (c m : Sectors) (left : Lit → Bool) : Sectors := fun i => if left (.int .i64 i) = true then m i else over c m i
theorem overAt_start {D : DataW Unit} {c m : Sectors} (h : Holds D c) : overAt c m (Maps.has D) = m := by
  funext i
  unfold overAt over
  rw [(h i).1]
  cases c i <;> simp
theorem overAt_end {c m : Sectors} {left : Lit → Bool} (h : ∀ k, left k = false) : overAt c m left = over c m := by
  funext i; unfold overAt; rw [h]; simp
theorem sameKey_int (i x : Int) : (Lit.int .i64 i).sameKey (.int .i64 x) = decide (i = x) := by
  by_cases h : i = x
  · subst h; rw [decide_eq_true rfl]; simp [Lit.sameKey]
  · rw [decide_eq_false h]; exact Maps.sameKey_ne (lit_ne h)
theorem overAt_step {c m : Sectors} {left : Lit → Bool} {x : Int} {s : ByteArray} (hc : c x = some s) : overAt c m (fun z => left z && !z.sameKey (.int .i64 x)) = upd (overAt c m left) x s := by
  funext i
  show (if (left (.int .i64 i) && !(Lit.int .i64 i).sameKey (.int .i64 x)) = true then m i else over c m i) = if i = x then some s else if left (.int .i64 i) = true then m i else over c m i
  rw [sameKey_int]
  by_cases h : i = x
  · subst h; simp [over, hc]
  · simp [h]
theorem found {D : DataW Unit} {c : Sectors} (h : Holds D c) {x : Int} {s : ByteArray} (hat : ∀ zd, D.atKey (.int .i64 x) zd = .agg [.lit (.string s.data.toList)]) : c x = some s := by
  cases hc : c x with
  | none =>
    have h2 : Maps.has D (.int .i64 x) = false := by rw [(h x).1, hc]; rfl
    have := hat .nil
    rw [Maps.atKey_of_not_has h2] at this
    cases this
  | some t =>
    have h1 := (h x).2 t hc .nil
    rw [hat] at h1
    simp only [DataW.agg.injEq, List.cons.injEq, DataW.lit.injEq, Lit.string.injEq] at h1
    rw [show s = t from ByteArray.ext (Array.ext' h1.1)]
/-- A step that writes a block that is new, or one of those that may turn. -/
theorem Chg.grow {F : List Nat} {w a b : World} (h : Chg F w a) {row : Option Nat} (hg : a.grownBy b row) (hr : ∀ r, row = some r → w.heap.size ≤ r ∨ r ∈ F) : Chg F w b :=
  ⟨hg.os.trans h.os, hg.tape.trans h.tape, hg.output.trans h.output, Nat.le_trans h.size hg.size, fun k hk hF => (hg.block k (Nat.lt_of_lt_of_le hk h.size) (fun e => by
    rcases hr k e.symm with h1 | h1
    · omega
    · exact hF h1)).trans (h.block k hk hF)⟩
theorem within_over {c m : Sectors} {N : Nat} (hc : Within c N) (hm : Within m N) : Within (over c m) N := by
  intro i s h
  unfold over at h
  cases hi : c i with
  | some t => rw [hi] at h; cases h; exact hc i _ hi
  | none => rw [hi] at h; exact hm i s h

set_option maxRecDepth 100000 in
set_option maxHeartbeats 4000000 in
theorem Copy_ok (bm bc N : Nat) (m c : Sectors) (w : World) (hN : N ≤ 5000) (hm : MapAt w bm N m) (hc : MapAt w bc N c) (hne : bm ≠ bc) :
    Calls Tryz.prog 83 #[.map (some bm), .map (some bc)] w fun e w' => e = .returned (.tuple #[]) ∧ MapAt w' bm N (over c m) ∧ Chg [bm] w w' := by
  have HM := Lib.hid hm
  have hmlt := hm.lt
  have hclt := hc.lt
  obtain ⟨D, hown, hh, hw⟩ := hc
  have HH := Lib.hid hh
  have HW := Lib.hid hw
  clear hm hh hw
  go_enter Tryz.func83, Tryz.ntmps83
  go_wp2_with (at_range; refine wpList_range_own _ rfl _ 74 rfl 3 95 keyI Tryz.underlying74 sec bc N D rfl hown ?_; intro w0 hrg0 hg0 hs0)
  go_frame
  have HG0 := Lib.hid hg0
  clear hg0
  go_loopw [4] (fun _ wr => ∃ (left : Lit → Bool) (cnt : Nat), wr.ranges Tryz.prog 3 sec bc w.heap.size N D left cnt ∧ MapAt wr bm N (overAt c m left) ∧ Chg [bm] w wr ∧ w.heap.size + 1 ≤ wr.heap.size)
    (fun _ wr => wr.rangeLeft bc w.heap.size)
  case atStart =>
    refine ⟨_, _, hrg0, ?_, ?_, by omega⟩
    · rw [overAt_start HH.out]; exact HM.out.kept HG0.out (by simp)
    · exact ⟨HG0.out.os, HG0.out.tape, HG0.out.output, HG0.out.size, fun k hk _ => HG0.out.block k hk (by simp)⟩
  case round =>
    obtain ⟨left, cnt, hrg, hmr, hch, hsz⟩ := hrel
    clear hrg0 hs0
    go_wp2_with (at_next; refine wpList_next_ranges _ rfl _ rfl 3 keyI sec (fun x : Int => Value.int .i64 x) (fun s : ByteArray => Value.agg #[.string s]) (fun key kl hk => by obtain ⟨x, e, _⟩ := Maps.keyOf_int_inv Tryz.underlying3 hk; exact ⟨x, e⟩) (fun v y hv => by obtain ⟨s, e, _⟩ := sec_inv hv; exact ⟨s, e⟩) bc w.heap.size N D left cnt rfl hrg ?_ ?_)
    · intro hc0 hl0
      have hE := Lib.hid (overAt_end (c := c) (m := m) hl0)
      clear hl0
      go_wp2_with fail
      go_end0
      exact ⟨rfl, by rw [← hE.out]; exact hmr, hch⟩
    · intro x s kl d ps w1 cnt1 hkey hlx hv hat hrg1 hlt hg1 hs1 hen
      obtain ⟨x', e1, e2, hwx⟩ := Maps.keyOf_int_inv Tryz.underlying3 hkey
      cases e1
      subst e2
      obtain ⟨s', e3, e4⟩ := sec_inv hv
      cases e3
      have ed : d = .agg [.lit (.string s.data.toList)] := congrArg Prod.fst e4
      subst ed
      have hcx := found HH.out hat
      have hin := HW.out x s hcx
      have hx1 := hin.1
      have hx2 := hin.2.1
      have hx3 := Lib.hid hin.2.2
      have hm1 : MapAt w1 bm N (overAt c m left) := hmr.kept hg1 (fun e => by injection e; omega)
      have hch1 : Chg [bm] w w1 := hch.grow hg1 (fun r e => by cases e; exact .inl (Nat.le_refl _))
      have hst := Lib.hid (overAt_step (m := m) (left := left) hcx)
      have HRG := Lib.hid hrg
      clear hin hmr hg1 hch hv e4 hkey hwx hat hcx hlx hrg
      go_wp2_with (at_mapUpdate; refine wp_store _ rfl _ _ _ rfl bm N (overAt c m left) hN rfl (hm1.kept (World.grownBy_alloc _ _ none) (by simp)) x s rfl rfl hx1 hx2 hx3.out ?_; intro w2 hm2 hg2; go_frame)
      have hch2 : Chg [bm] w w2 := (hch1.grow (World.grownBy_alloc _ _ none) (fun r e => by cases e)).grow hg2 (fun r e => by cases e; exact .inr (by simp))
      have hrg2 := (hrg1.alloc (.cells #[.string s] 95)).kept hg2 (fun e => by injection e; omega) (fun e => by injection e; omega)
      have hsz2 : w.heap.size + 1 ≤ w2.heap.size := by
        have := hg2.size
        simp at this
        omega
      go_roundw
      case rel => exact ⟨_, cnt1, hrg2, by rw [hst.out]; exact hm2, hch2, hsz2⟩
      case measure => rw [hrg2.left_eq, HRG.out.left_eq]; exact hlt
end Go.Proofs.YtfijhffhlklddaaGreatDoor
