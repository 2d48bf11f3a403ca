/- For every pair of signatures the program's SameShapes answers what the reference's answers: FnExactSameShapes returns true and leaves its arguments alone. -/
import Derived.Test.YtbaekjnfijmakaaGreatDoorKh
import Derived.Test.YtbaekjnfijmakaaGreatDoorKi
set_option linter.unnecessarySimpa false
set_option linter.unusedSimpArgs false
set_option linter.unusedVariables false
set_option maxRecDepth 20000
/- FnExactSameShapes: the law returns true. -/
namespace Go.Proofs.K
open Go Go.Proofs Go.IntWalk

theorem c_FnExactSameShapes (a b : List Param) (ha : SBig a) (hb : SBig b) : Con Tryz.prog 5 [vsig a, vsig b] (fun r ms => r = vb true ∧ ms = []) := by
  refine con_intro fi5 (by simp) ?_
  dsimp only [bodyOf, Tryz.f5, Option.getD]; simp
  refine call_d (c_szSignature a 1048576 ha.len ha.names (by omega) (by omega)) rfl (by simp) ?_
  have ga := szPs_ge a 1048576
  have la := szPs_le a 1048576
  by_cases h1 : szPs a 1048576 < 0
  · simp [h1]
  · simp [h1]
    have fa := szPs_sfit (ps := a) (n := 1048576) (by omega) (by omega)
    generalize szPs a 1048576 = n at *
    refine call_d (c_szSignature b n hb.len hb.names (by omega) (by omega)) rfl (by simp) ?_
    have gb := szPs_ge b n
    by_cases h2 : szPs b n < 0
    · simp [h2]
    · simp [h2]
      have fb := szPs_sfit (ps := b) (n := n) (by omega) (by omega)
      refine dr mixed ?_
      simp
      refine DC.of (c_toSignature a fa.len) rfl (by simp) ?_
      simp
      refine DC.of (c_toSignature b fb.len) rfl (by simp) ?_
      simp
      refine DC.of (c_spec_SameShapes a b fa fb) rfl (by simp) ?_
      simp
      refine ⟨by kernel_rfl, ?_⟩
      refine call_d (c_toSignature a fa.len) rfl (by simp) ?_
      simp
      refine call_d (c_toSignature b fb.len) rfl (by simp) ?_
      simp
      refine call_d (c_impl_SameShapes a b fa fb) rfl (by simp) ?_
      simp
      refine dr mixed ?_
      simp
      refine DC.of (c_toSignature a fa.len) rfl (by simp) ?_
      simp
      refine DC.of (c_eqSignature a fa.len) rfl (by simp) ?_
      simp
      refine ⟨by kernel_rfl, ?_⟩
      refine dr mixed ?_
      simp
      refine DC.of (c_toSignature b fb.len) rfl (by simp) ?_
      simp
      refine DC.of (c_eqSignature b fb.len) rfl (by simp) ?_
      simp
      exact (by kernel_rfl : _ = true)
end Go.Proofs.K
/- FnExactSameShapes: the statement and its card. -/
namespace Go.Proofs.K
open Go Go.RowKit Go.ChangeShapes Go.WideShapes Go.ChangeAt
namespace RFnExactSameShapes

theorem ctySig : cty Tryz.prog 4 40 = some [.lst tyParam] := by kernel_rfl
set_option maxRecDepth 100000 in
theorem contract (H : Type) (enc : TypeId × Value → H) (W : World) (base : Nat) (args : Array Value) (ds gs : List (DataW H)) (before : List MemPlace)
    (hval : ∀ (j : Nat) t v, Tryz.f5.params[j]? = some t → args[j]? = some v → Value.okWide Tryz.prog W .any base t v)
    (hW : DataW.Whole enc Tryz.prog Tryz.f5.params.toList YtbaekjnfijmakaaGreatDoor.Rows.fnExactSameShapesSpec.vars false W args.toList ds gs before) :
    Calls Tryz.prog 5 args W fun e W' => ∃ v, e = .returned v ∧ YtbaekjnfijmakaaGreatDoor.Rows.fnExactSameShapesSpec.post enc Tryz.prog Tryz.f5 false true false false W args v W' := by
  have hW' := hW
  obtain ⟨p, q, hA0, hV, rfl, hfz, hnd⟩ := hW
  have hA : DataW.TrodAll enc Tryz.prog W 0 (fun _ => true) true Tryz.f5.params.toList args.toList ds p := hA0
  rw [Tryz.params5] at hA hval
  obtain ⟨v0, vs0, d0, ds0, p0, q0, hargs, rfl, rfl, h0, r0⟩ := trodAll_cons hA
  obtain ⟨v1, vs1, d1, ds1, p1, q1, rfl, rfl, rfl, h1, r1⟩ := trodAll_cons r0
  obtain ⟨rfl, rfl, rfl⟩ := trodAll_nil r1
  obtain rfl : args = #[v0, v1] := by cases args; simp_all
  obtain ⟨rfl, rfl⟩ := trodVars_none hV
  obtain ⟨a0, ha0, fa0⟩ := open_sig Tryz.underlying40 ctySig (hval 0 40 v0 rfl rfl) h0
  obtain ⟨a1, ha1, fa1⟩ := open_sig Tryz.underlying40 ctySig (hval 1 40 v1 rfl rfl) h1
  refine (con_true (c_FnExactSameShapes a0 a1 fa0 fa1) W [v0, v1] (vrs_cons ha0 (vrs_one ha1))).mono fun e W' ⟨he, hp⟩ => ?_
  subst he
  exact ⟨_, rfl, post_true laidOut rfl (by kernel_rfl) Tryz.underlying4 (by kernel_rfl) hW' rfl hp⟩

theorem reads (os : Os) {H : Type} (enc : TypeId × Value → H) : ∃ places, DataW.whole enc Tryz.prog ((laidWorld os).forCall (fun _ _ => 0) ⟨#[], #[.agg #[.slice none 0 0], .agg #[.slice none 0 0]], []⟩).memory Tryz.f5.params.toList YtbaekjnfijmakaaGreatDoor.Rows.fnExactSameShapesSpec.vars false (#[.agg #[.slice none 0 0], .agg #[.slice none 0 0]] : Array Value).toList 8 = some ([.agg [.nil], .agg [.nil]], [], places) :=
  ⟨[], by kernel_rfl⟩

set_option maxRecDepth 100000 in
theorem lifted (os : Os) (started : os.Started) (H : Type) (enc : TypeId × Value → H) (F : Stop.Interp) :
    ReturnsInHanded {} Tryz.checked os 5 .any ((OpenSpec.ofChange YtbaekjnfijmakaaGreatDoor.Rows.fnExactSameShapesSpec).preRow enc Tryz.prog Tryz.f5 YtbaekjnfijmakaaGreatDoor.Rows.fnExactSameShapesRow.domain false YtbaekjnfijmakaaGreatDoor.Rows.fnExactSameShapesRow.laid) (((OpenSpec.ofChange YtbaekjnfijmakaaGreatDoor.Rows.fnExactSameShapesSpec).at F).post enc Tryz.prog Tryz.f5 false true false false) := by
  obtain ⟨places, hx⟩ := reads os enc
  refine returnsInHanded_of_row (C := Tryz.checked) (s := OpenSpec.ofChange YtbaekjnfijmakaaGreatDoor.Rows.fnExactSameShapesSpec) knob started (by kernel_rfl) Tryz.func5
    (witness_row_at (enc := enc) (C := Tryz.checked) false (laidWorld os) #[.agg #[.slice none 0 0], .agg #[.slice none 0 0]] rfl (by kernel_rfl) (by kernel_rfl) (by kernel_rfl)
      (OpenSpec.preRow_of_cond 8 hx (by kernel_rfl) (fun k hk => by cases hk) (by kernel_rfl) (laid_met os _))) ?_
  intro W base args ds gs before hval hW _ _ _ _ _ _
  exact contract H enc W base args ds gs before hval hW

theorem s0 : joinedFacts YtbaekjnfijmakaaGreatDoor.Tryz.pinned.checked.prog 5 Tryz.f5 (OpenSpec.ofChange YtbaekjnfijmakaaGreatDoor.Rows.fnExactSameShapesSpec).bare YtbaekjnfijmakaaGreatDoor.Rows.fnExactSameShapesRow = true := by kernel_rfl
theorem s1 : Tryz.f5.isInstance YtbaekjnfijmakaaGreatDoor.Tryz.pinned.checked.prog YtbaekjnfijmakaaGreatDoor.Rows.fnExactSameShapesRow.origin YtbaekjnfijmakaaGreatDoor.Rows.fnExactSameShapesRow.targs := of_decide_eq_true (by kernel_rfl)
theorem s2 : Tryz.f5.isWrapper YtbaekjnfijmakaaGreatDoor.Tryz.pinned.checked.prog YtbaekjnfijmakaaGreatDoor.Rows.fnExactSameShapesRow.wrapper YtbaekjnfijmakaaGreatDoor.Rows.fnExactSameShapesRow.mainSum := by unfold Func.isWrapper; first | (rw [if_pos (by decide +kernel)]; kernel_rfl) | (rw [if_neg (by decide +kernel)]; exact ⟨rfl, rfl⟩)
theorem s3 : YtbaekjnfijmakaaGreatDoor.Tryz.pinned.checked.prog.funcNamed YtbaekjnfijmakaaGreatDoor.Rows.fnExactSameShapesRow.func = some 5 := by kernel_rfl
theorem s4 (os : Os) (started : os.Started) (H : Type) (enc : TypeId × Value → H) (F : Stop.Interp) : ReturnsInHanded YtbaekjnfijmakaaGreatDoor.Rows.fnExactSameShapesRow.assume YtbaekjnfijmakaaGreatDoor.Tryz.pinned.checked os 5 .any (YtbaekjnfijmakaaGreatDoor.Rows.fnExactSameShapesRow.pre enc YtbaekjnfijmakaaGreatDoor.Tryz.pinned.checked.prog Tryz.f5 (OpenSpec.ofChange YtbaekjnfijmakaaGreatDoor.Rows.fnExactSameShapesSpec)) (((OpenSpec.ofChange YtbaekjnfijmakaaGreatDoor.Rows.fnExactSameShapesSpec).at F).post enc YtbaekjnfijmakaaGreatDoor.Tryz.pinned.checked.prog Tryz.f5 YtbaekjnfijmakaaGreatDoor.Rows.fnExactSameShapesRow.apart YtbaekjnfijmakaaGreatDoor.Rows.fnExactSameShapesRow.fresh YtbaekjnfijmakaaGreatDoor.Rows.fnExactSameShapesRow.handsOn YtbaekjnfijmakaaGreatDoor.Rows.fnExactSameShapesRow.again) := by
  rw [OpenClaim.pre_eq_preRow]
  exact lifted os started H enc F

theorem said : YtbaekjnfijmakaaGreatDoor.Rows.FnExactSameShapesSaid :=
  OpenClaim.holds_of_cond 5 Tryz.f5 rfl rfl rfl rfl rfl rfl rfl ⟨rfl, rfl, rfl, rfl, rfl⟩ rfl rfl rfl rfl rfl s3 Tryz.func5 s0 s1 s2
    (fun os started H enc _ F => s4 os started H enc F)

theorem plain (f : FuncId) (fn : Func) (hf : YtbaekjnfijmakaaGreatDoor.Tryz.pinned.checked.prog.funcNamed "loop.example/callbinding/laws.FnExactSameShapes" = some f) (hfn : YtbaekjnfijmakaaGreatDoor.Tryz.pinned.checked.prog.funcs[f]? = some fn) :
    false = YtbaekjnfijmakaaGreatDoor.Tryz.pinned.checked.prog.looks [] ∧ ∀ (j : Nat) t, fn.params[j]? = some t → YtbaekjnfijmakaaGreatDoor.Tryz.pinned.checked.prog.wantsStandIn t = false := by
  obtain rfl : f = 5 := Option.some.inj ((show Tryz.prog.funcNamed "loop.example/callbinding/laws.FnExactSameShapes" = some 5 by kernel_rfl).symm.trans hf) |>.symm
  obtain rfl : fn = Tryz.f5 := (Option.some.inj (Tryz.func5.symm.trans hfn)).symm
  refine ⟨by kernel_rfl, fun j t ht => ?_⟩
  rw [Tryz.params5] at ht
  have hm : t ∈ [40, 40] := by simpa using Array.mem_of_getElem? ht
  have hall : ([40, 40].all fun u => !Tryz.prog.wantsStandIn u) = true := by kernel_rfl
  exact (show Tryz.prog.wantsStandIn t = false by simpa using List.all_eq_true.1 hall t hm)

theorem card : YtbaekjnfijmakaaGreatDoor.Rows.FnExactSameShapesCardSaid :=
  Claim7.holds_tied_plain_at .later [] _ _ _ _ said (fun _ h => by cases h) (by kernel_rfl) (fun _ h => by cases h) YtbaekjnfijmakaaGreatDoor.fnExactSameShapes_row_tie rfl ⟨rfl, rfl⟩ (by kernel_rfl) rfl plain (by kernel_rfl)
end RFnExactSameShapes
end Go.Proofs.K
namespace Go.Proofs.YtbaekjnfijmakaaGreatDoor
theorem fnExactSameShapes_card : Rows.FnExactSameShapesCardSaid := K.RFnExactSameShapes.card
#print axioms fnExactSameShapes_card
end Go.Proofs.YtbaekjnfijmakaaGreatDoor
