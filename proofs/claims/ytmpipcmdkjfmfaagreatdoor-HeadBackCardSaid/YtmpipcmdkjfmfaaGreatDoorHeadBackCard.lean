/-
  HeadBack's card: the head of a head's sector is it. For every head and every text.
-/
import Derived.Test.YtmpipcmdkjfmfaaGreatDoorHdBack
import Derived.Test.YtmpipcmdkjfmfaaGreatDoorHStart
import Derived.Test.YtmpipcmdkjfmfaaGreatDoorCards
import Derived.Test.YtmpipcmdkjfmfaaGreatDoorTie
import Derived.ProofKit
import Derived.Carry
import Derived.ChangeMaps5
import Derived.Deep.DeepHandedRow
import Derived.Lib.SmallJoins
import Derived.OpenShut
namespace Go.Proofs.YtmpipcmdkjfmfaaGreatDoor.headBack
open Go.ChangeShapes Go.WideShapes Go.ChangeAt Go.RowKit Go.ChangeMaps

set_option maxRecDepth 100000 in
theorem contract (H : Type) (enc : TypeId × Value → H) (W : World) (base : Nat) (args : Array Value) (ds gs : List (DataW H)) (before : List MemPlace)
    (hval : ∀ (j : Nat) t v, Tryz.f4.params[j]? = some t → args[j]? = some v → Value.okWide Tryz.prog W .any base t v)
    (hW : DataW.Whole enc Tryz.prog Tryz.f4.params.toList Rows.headBackSpec.vars false W args.toList ds gs before)
    (hL : laidMetH Tryz.prog Rows.headBackRow.laid W) (hsh : W.ShapedOpen Tryz.prog) :
    Calls Tryz.prog 4 args W fun e W' => ∃ v, e = .returned v ∧ Rows.headBackSpec.post enc Tryz.prog Tryz.f4 false true false false W args v W' := by
  obtain ⟨E, hE⟩ := env_of hL hsh
  have hW' := hW
  obtain ⟨p, q, hA0, hV, rfl, hfz, hnd⟩ := hW
  have hA : DataW.TrodAll enc Tryz.prog W 0 (fun _ => true) true Tryz.f4.params.toList args.toList ds p := hA0
  rw [Tryz.params4] at hA hval
  obtain ⟨v0, vs0, d0, ds0, p0, q0, hargs, rfl, rfl, h0, r0⟩ := trodAll_cons hA
  obtain ⟨v1, vs1, d1, ds1, p1, q1, rfl, rfl, rfl, h1, r1⟩ := trodAll_cons r0
  obtain ⟨rfl, rfl, rfl⟩ := trodAll_nil r1
  obtain rfl : args = #[v0, v1] := by cases args; simp_all
  obtain ⟨rfl, rfl⟩ := trodVars_none hV
  have hlt := fun x hx => hW'.lt x hx
  have g0 := fun (W' : World) (hb : Below W.heap.size W W') => Below.trod (by kernel_rfl) (by kernel_rfl) (by decide +kernel) h0 hb (fun x hx => hlt x (by simp [hx]))
  have g1 := fun (W' : World) (hb : Below W.heap.size W W') => Below.trod (by kernel_rfl) (by kernel_rfl) (by decide +kernel) h1 hb (fun x hx => hlt x (by simp [hx]))
  obtain ⟨c0, c1, c2, y0, y1, y2, m, rfl, rfl, rfl, k0, k1, k2⟩ := Joins.open_agg3 Tryz.underlying24 (by kernel_rfl) (by kernel_rfl) (hval 0 24 v0 rfl rfl) h0
  obtain ⟨e, z0, _, b0⟩ := DataW.trod_int Tryz.underlying22 k0
  obtain ⟨r, z1, _, b1⟩ := DataW.trod_int Tryz.underlying3 k1
  obtain ⟨f, z2, _, b2⟩ := DataW.trod_int Tryz.underlying22 k2
  simp only [List.cons.injEq, and_true] at z0 z1 z2
  subst z0 z1 z2
  simp [Lit.wf, IntKind.min, IntKind.max, IntKind.signed, IntKind.bits] at b0 b2
  obtain ⟨en, rfl⟩ := Int.eq_ofNat_of_zero_le b0.1
  obtain ⟨fn, rfl⟩ := Int.eq_ofNat_of_zero_le b2.1
  obtain ⟨s, rfl, rfl, rfl, hs⟩ := open_string Tryz.underlying9 (hval 1 9 v1 rfl rfl) h1
  refine (back_ok ⟨en, r, fn⟩ s hs W hE).mono fun e W' ⟨he, hb⟩ => ?_
  subst he
  exact ⟨_, rfl, _, _, _, [], _, [], hW', trodAll_mk1 (shut_bool Tryz.underlying4 _), (trodAll_cons_mk (g0 W' hb) (trodAll_cons_mk (g1 W' hb) trodAll_mk0)), rfl, hb.frame _, fun h => by cases h⟩

set_option maxRecDepth 100000 in
theorem lifted (os : Os) (started : os.Started) (H : Type) (enc : TypeId × Value → H) (F : Stop.Interp) :
    ReturnsInHanded {} Tryz.checked os 4 .any ((OpenSpec.ofChange Rows.headBackSpec).preRow enc Tryz.prog Tryz.f4 Rows.headBackRow.domain false Rows.headBackRow.laid) (((OpenSpec.ofChange Rows.headBackSpec).at F).post enc Tryz.prog Tryz.f4 false true false false) := by
  have hx : ∃ places, DataW.whole enc Tryz.prog ((startWorld os).forCall (fun _ _ => 0) ⟨#[], #[Value.agg #[.int .u32 0, .int .i64 0, .int .u32 0], .string ByteArray.empty], []⟩).memory Tryz.f4.params.toList Rows.headBackSpec.vars false #[Value.agg #[.int .u32 0, .int .i64 0, .int .u32 0], .string ByteArray.empty].toList 8 = some ([.agg [.lit (.int .u32 0), .lit (.int .i64 0), .lit (.int .u32 0)], .lit (.string [])], [], places) := ⟨[], by kernel_rfl⟩
  obtain ⟨places, hx⟩ := hx
  refine returnsInHanded_of_row (C := Tryz.checked) (s := OpenSpec.ofChange Rows.headBackSpec) own started (by kernel_rfl) Tryz.func4
    (witness_row_at (enc := enc) (C := Tryz.checked) false (startWorld os) #[Value.agg #[.int .u32 0, .int .i64 0, .int .u32 0], .string ByteArray.empty] rfl (by kernel_rfl) (by kernel_rfl) (by kernel_rfl)
      (OpenSpec.preRow_of_cond 8 hx (by kernel_rfl) (fun k hk => by cases hk) (by kernel_rfl) (start_met os _))) ?_
  intro W base args ds gs before hval hW _ _ _ hL hsh _
  exact contract H enc W base args ds gs before hval hW hL hsh

theorem said : Rows.HeadBackSaid :=
  OpenClaim.holds_of_cond 4 Tryz.f4 rfl rfl rfl rfl rfl rfl rfl ⟨rfl, rfl, rfl, rfl, rfl⟩ rfl rfl rfl rfl rfl (by kernel_rfl) Tryz.func4 (by kernel_rfl)
    (of_decide_eq_true (by kernel_rfl)) (by unfold Func.isWrapper; first | (rw [if_pos (by decide +kernel)]; kernel_rfl) | (rw [if_neg (by decide +kernel)]; exact ⟨rfl, rfl⟩))
    (fun os started H enc _ F => by rw [OpenClaim.pre_eq_preRow]; exact lifted os started H enc F)

theorem plain (f : FuncId) (fn : Func) (hf : Tryz.pinned.checked.prog.funcNamed "pannier/pannierlaw20.HeadBack" = some f) (hfn : Tryz.pinned.checked.prog.funcs[f]? = some fn) :
    true = Tryz.pinned.checked.prog.looks [] ∧ ∀ (j : Nat) t, fn.params[j]? = some t → Tryz.pinned.checked.prog.wantsStandIn t = false := by
  obtain rfl : f = 4 := Option.some.inj ((show Tryz.prog.funcNamed "pannier/pannierlaw20.HeadBack" = some 4 by kernel_rfl).symm.trans hf) |>.symm
  obtain rfl : fn = Tryz.f4 := (Option.some.inj (Tryz.func4.symm.trans hfn)).symm
  refine ⟨by kernel_rfl, fun j t ht => ?_⟩
  rw [Tryz.params4] at ht
  have hm := Array.mem_of_getElem? ht
  simp only [List.mem_toArray, List.mem_cons, List.mem_nil_iff, or_false] at hm
  rcases hm with rfl | rfl
  · exact (show Tryz.prog.wantsStandIn 24 = false by kernel_rfl)
  · exact (show Tryz.prog.wantsStandIn 9 = false by kernel_rfl)
end Go.Proofs.YtmpipcmdkjfmfaaGreatDoor.headBack
namespace Go.Proofs.YtmpipcmdkjfmfaaGreatDoor
/-- HeadBack's card: the head of a head's sector is it. For every head and every text. -/
theorem headBack_card : Rows.HeadBackCardSaid :=
  Claim7.holds_tied_plain_at .later [] _ _ _ _ headBack.said (fun _ h => by cases h) (by kernel_rfl) (fun _ h => by cases h) headBack_row_tie rfl ⟨rfl, rfl⟩ (by kernel_rfl) rfl headBack.plain (by kernel_rfl)
end Go.Proofs.YtmpipcmdkjfmfaaGreatDoor
#print axioms Go.Proofs.YtmpipcmdkjfmfaaGreatDoor.headBack_card
