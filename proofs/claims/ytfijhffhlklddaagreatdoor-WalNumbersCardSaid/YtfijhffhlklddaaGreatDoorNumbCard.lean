/-
  WalNumbers' card: numbers only rise, through whatever syncs, crashes, openings: no record ever bears one that stands anywhere in the log already. For every script.
-/
import Derived.Test.YtfijhffhlklddaaGreatDoorNumb
import Derived.Test.YtfijhffhlklddaaGreatDoorStart
import Derived.Test.YtfijhffhlklddaaGreatDoorCards
import Derived.Test.YtfijhffhlklddaaGreatDoorTie
import Derived.ProofKit
import Derived.Carry
import Derived.Deep.DeepHandedRow
namespace Go.Proofs.YtfijhffhlklddaaGreatDoor.walNumbers
open Go.ChangeShapes Go.WideShapes Go.ChangeAt Go.RowKit

theorem len_of_trod {H : Type} {enc : TypeId × Value → H} {w : World} {sp : Nat → Bool} {held : Bool} {ao : Option Addr} {len cap : Nat} {d : DataW H} {ps : List MemPlace} (h : DataW.Trod enc Tryz.prog w 0 sp held 43 (.slice ao len cap) d ps) :
    len = 0 ∨ ∃ es spr, d = .slice es spr ∧ es.length = len := by
  obtain ⟨fuel, hf⟩ := h
  rcases DataW.trod_slice Tryz.underlying43 hf with ⟨e, _⟩ | ⟨a, ln, cp, es, rest, n, _, e, hx, _, _, _, hl, _⟩
  · simp [Value.cells] at e
    exact .inl e.2.1
  · simp [Value.cells] at e
    simp only [Prod.mk.injEq] at hx
    exact .inr ⟨_, _, hx.1, by rw [List.length_map, hl, e.2.1]⟩

set_option maxRecDepth 100000 in
theorem contract (H : Type) (enc : TypeId × Value → H) (W : World) (base : Nat) (args : Array Value) (ds gs : List (DataW H)) (before : List MemPlace)
    (hval : ∀ (j : Nat) t v, Tryz.f4.params[j]? = some t → args[j]? = some v → Value.okWide Tryz.prog W .any base t v)
    (hW : DataW.Whole enc Tryz.prog Tryz.f4.params.toList Rows.walNumbersSpec.vars false W args.toList ds gs before)
    (hwt : (DataW.weightsEach Tryz.prog (Tryz.f4.params.toList ++ (OpenSpec.ofChange Rows.walNumbersSpec).bare.plain.varTypes Tryz.prog) (ds ++ gs)).all (· ≤ reachBytes) = true)
    (hL : laidMetH Tryz.prog Rows.walNumbersRow.laid W) (hsh : W.ShapedOpen Tryz.prog) :
    Calls Tryz.prog 4 args W fun e W' => ∃ v, e = .returned v ∧ Rows.walNumbersSpec.post enc Tryz.prog Tryz.f4 false true false false W args v W' := by
  obtain ⟨E, hE⟩ := env_of hL hsh
  have hW' := hW
  obtain ⟨p, q, hA0, hV, rfl, hfz, hnd⟩ := hW
  have hA : DataW.TrodAll enc Tryz.prog W 0 (fun _ => true) true Tryz.f4.params.toList args.toList ds p := hA0
  rw [Tryz.params4] at hA hval hwt
  obtain ⟨v0, d0, rfl, rfl, h0⟩ := trodAll_one hA
  obtain ⟨rfl, rfl⟩ := trodVars_none hV
  obtain ⟨a0, len0, cap0, rfl⟩ := okWide_slice Tryz.underlying43 (hval 0 43 v0 rfl rfl)
  obtain ⟨ss, hss, _⟩ := open_steps h0
  have hsl : ss.length = len0 := by obtain ⟨_, _, e, _⟩ := hss; cases e; rfl
  have hm : ss.length ≤ 140737488355328 := by
    rw [hsl]
    rcases len_of_trod h0 with h | ⟨es, spr, rfl, he⟩
    · omega
    · have hb : Tryz.prog.bytesOf 46 = 56 := by kernel_rfl
      have hw0 : (es.length + spr.length) * 56 ≤ reachBytes := by
        have h1 := List.all_eq_true.1 hwt ((es.length + spr.length) * 56) (by
          simp [DataW.weightsEach, DataW.weights, Tryz.underlying43, hb])
        simpa using h1
      unfold reachBytes at hw0
      omega
  have hlt := fun x hx => hW'.lt x hx
  refine (numbers_ok W hE ss _ hss hm).mono fun e W' ⟨he, hb⟩ => ?_
  subst he
  have g0 := Below.trod (by kernel_rfl) (by kernel_rfl) (by decide +kernel) h0 hb (fun x hx => hlt x (by simp [hx]))
  exact ⟨_, rfl, _, _, _, [], _, [], hW', trodAll_mk1 (shut_bool Tryz.underlying4 _), trodAll_cons_mk g0 trodAll_mk0, rfl, hb.frame _, fun h => by cases h⟩

set_option maxRecDepth 100000 in
theorem lifted (os : Os) (started : os.Started) (H : Type) (enc : TypeId × Value → H) (F : Stop.Interp) :
    ReturnsInHanded {} Tryz.checked os 4 .any ((OpenSpec.ofChange Rows.walNumbersSpec).preRow enc Tryz.prog Tryz.f4 Rows.walNumbersRow.domain false Rows.walNumbersRow.laid) (((OpenSpec.ofChange Rows.walNumbersSpec).at F).post enc Tryz.prog Tryz.f4 false true false false) := by
  have hx : ∃ places, DataW.whole enc Tryz.prog ((startWorld os).forCall (fun _ _ => 0) ⟨#[], #[.slice none 0 0], []⟩).memory Tryz.f4.params.toList Rows.walNumbersSpec.vars false #[Value.slice none 0 0].toList 8 = some ([.nil], [], places) := ⟨[], by kernel_rfl⟩
  obtain ⟨places, hx⟩ := hx
  refine returnsInHanded_of_row (C := Tryz.checked) (s := OpenSpec.ofChange Rows.walNumbersSpec) own started (by kernel_rfl) Tryz.func4
    (witness_row_at (enc := enc) (C := Tryz.checked) false (startWorld os) #[.slice none 0 0] rfl (by kernel_rfl) (by kernel_rfl) (by kernel_rfl)
      (OpenSpec.preRow_of_cond 8 hx (by kernel_rfl) (fun k hk => by cases hk) (by kernel_rfl) (start_met os _))) ?_
  intro W base args ds gs before hval hW _ _ hwt hL hsh _
  exact contract H enc W base args ds gs before hval hW hwt hL hsh

theorem said : Rows.WalNumbersSaid :=
  OpenClaim.holds_of_cond 4 Tryz.f4 rfl rfl rfl rfl rfl rfl rfl ⟨rfl, rfl, rfl, rfl, rfl⟩ rfl rfl rfl rfl rfl (by kernel_rfl) Tryz.func4 (by kernel_rfl)
    (of_decide_eq_true (by kernel_rfl)) (by unfold Func.isWrapper; first | (rw [if_pos (by decide +kernel)]; kernel_rfl) | (rw [if_neg (by decide +kernel)]; exact ⟨rfl, rfl⟩))
    (fun os started H enc _ F => by rw [OpenClaim.pre_eq_preRow]; exact lifted os started H enc F)

theorem plain (f : FuncId) (fn : Func) (hf : Tryz.pinned.checked.prog.funcNamed "pannier/pannierlaw21.WalNumbers" = some f) (hfn : Tryz.pinned.checked.prog.funcs[f]? = some fn) :
    true = Tryz.pinned.checked.prog.looks [] ∧ ∀ (j : Nat) t, fn.params[j]? = some t → Tryz.pinned.checked.prog.wantsStandIn t = false := by
  obtain rfl : f = 4 := Option.some.inj ((show Tryz.prog.funcNamed "pannier/pannierlaw21.WalNumbers" = some 4 by kernel_rfl).symm.trans hf) |>.symm
  obtain rfl : fn = Tryz.f4 := (Option.some.inj (Tryz.func4.symm.trans hfn)).symm
  refine ⟨by kernel_rfl, fun j t ht => ?_⟩
  rw [Tryz.params4] at ht
  obtain rfl : t = 43 := by simpa using Array.mem_of_getElem? ht
  exact (show Tryz.prog.wantsStandIn 43 = false by kernel_rfl)
end Go.Proofs.YtfijhffhlklddaaGreatDoor.walNumbers
namespace Go.Proofs.YtfijhffhlklddaaGreatDoor
/-- Numbers only rise, through whatever syncs, crashes and openings. -/
theorem walNumbers_card : Rows.WalNumbersCardSaid :=
  Claim7.holds_tied_plain_at .later [] _ _ _ _ walNumbers.said (fun _ h => by cases h) (by kernel_rfl) (fun _ h => by cases h) walNumbers_row_tie rfl ⟨rfl, rfl⟩ (by kernel_rfl) rfl walNumbers.plain (by kernel_rfl)
end Go.Proofs.YtfijhffhlklddaaGreatDoor
#print axioms Go.Proofs.YtfijhffhlklddaaGreatDoor.walNumbers_card
