/- For every input the call of slopelaw12.ColourClasses returns true and changes nothing that was there. -/
import Derived.Test.YtoiiellaoikojaaR0
import Derived.Test.YtoiiellaoikojaaK9
set_option linter.unusedVariables false
set_option linter.unusedSimpArgs false
set_option maxHeartbeats 8000000
namespace Go.Proofs.Ytoiiellaoikojaa
open Go.ChangeShapes Go.WideShapes Go.ChangeAt Go.RowKit
theorem colourClassesParams : Try.f5.params.toList = [TIs] := by kernel_rfl
theorem colourClassesParamsA : Try.f5.params = #[TIs] := by kernel_rfl
set_option maxRecDepth 100000 in
theorem colourClasses_lifted (os : Os) (started : os.Started) (H : Type) (enc : TypeId × Value → H) :
    ReturnsInHanded {} Try.checked os 5 .any (Rows.colourClassesSpec.pre6 enc Try.prog Try.f5 Rows.colourClassesRow.domain false) (Rows.colourClassesSpec.post enc Try.prog Try.f5 false true false false) := by
  refine returnsInHanded_of_change_sized (C := Try.checked) ownK started (by kernel_rfl) Try.func5
    (ChangeSpec.witness6 (enc := enc) (C := Try.checked) false ⟨#[], #[.slice none 0 0], []⟩ 8 (by kernel_rfl) (by kernel_rfl) (by kernel_rfl) (by kernel_rfl)) ?_
  intro W base args ds gs before hval0 hW hcnd hsz0 _
  have hval : ∀ (j : Nat) t v, Try.f5.params[j]? = some t → args[j]? = some v → Value.okWide Try.prog W .any base t v := hval0
  have hsz : (DataW.weightsEach Try.prog (Try.f5.params.toList ++ Rows.colourClassesSpec.plain.varTypes Try.prog) (ds ++ gs)).all (· ≤ reachBytes) = true := hsz0
  have hW' := hW
  obtain ⟨p, q, hA0, hV, rfl, hfz, hnd⟩ := hW
  have hA : DataW.TrodAll enc Try.prog W 0 (fun _ => true) true Try.f5.params.toList args.toList ds p := hA0
  rw [colourClassesParams] at hA hsz
  rw [colourClassesParamsA] at hval
  obtain ⟨v0, d0, rfl, rfl, h0⟩ := trodAll_one hA
  obtain ⟨rfl, rfl⟩ := trodVars_none hV
  have h0k := h0
  obtain ⟨A0, c0, xs0, ev0, hRA0, hlen0⟩ := ints_open (hval 0 TIs v0 rfl rfl) h0
  have hl0 := hlen0 fun k hk => by
    have := DataW.weights_mem_each (P := Try.prog) (ts := [TIs] ++ Rows.colourClassesSpec.plain.varTypes Try.prog) (ds := [d0] ++ []) (j := 0) rfl rfl k hk
    simpa using List.all_eq_true.1 hsz k this
  have hlt0 : ∀ y ∈ p, y.block < W.heap.size := fun y hy => by
    have := hW'.lt y (by simp [hy])
    simpa using this
  subst ev0
  refine (lawColourClasses_c (l := xs0) W hRA0 hl0).mono fun e W' hq => ?_
  obtain ⟨_, he, _, ho, _⟩ := hq
  have bel := Only.to_below ho
  subst he
  refine ⟨_, rfl, ?_⟩
  refine ⟨_, _, _, [], p, [], hW', trodAll_mk1 (shut_bool uBool true), (by rw [colourClassesParams]; exact trodAll_mk1 (Below.trod laidOutK (by kernel_rfl) (of_decide_eq_true (by kernel_rfl)) h0k bel hlt0)), rfl, bel.frame _, fun h => by cases h⟩
theorem colourClasses_holds : Rows.ColourClassesSaid :=
  OpenClaim.holds_of_wide 5 Try.f5 rfl rfl rfl rfl rfl rfl rfl ⟨rfl, rfl, rfl, rfl, rfl⟩ rfl rfl rfl rfl rfl (by kernel_rfl) Try.func5 (by kernel_rfl)
    (of_decide_eq_true (by kernel_rfl)) (by unfold Func.isWrapper; rw [if_neg (of_decide_eq_true (by kernel_rfl))]; exact ⟨rfl, rfl⟩)
    (fun os started H enc _ => colourClasses_lifted os started H enc)
#print axioms colourClasses_holds
end Go.Proofs.Ytoiiellaoikojaa
