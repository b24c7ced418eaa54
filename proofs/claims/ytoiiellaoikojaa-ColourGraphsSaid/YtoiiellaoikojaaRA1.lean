/- For every input the call of slopelaw12.ColourGraphs returns true and changes nothing that was there. -/
import Derived.Test.YtoiiellaoikojaaR0
import Derived.Test.YtoiiellaoikojaaF7
set_option linter.unusedVariables false
set_option linter.unusedSimpArgs false
set_option maxHeartbeats 8000000
namespace Go.Proofs.Ytoiiellaoikojaa
open Go.ChangeShapes Go.WideShapes Go.ChangeAt Go.RowKit
theorem colourGraphsParams : Try.f3.params.toList = [TP] := by kernel_rfl
theorem colourGraphsParamsA : Try.f3.params = #[TP] := by kernel_rfl
set_option maxRecDepth 100000 in
theorem colourGraphs_lifted (os : Os) (started : os.Started) (H : Type) (enc : TypeId × Value → H) :
    ReturnsInHanded {} Try.checked os 3 .any (Rows.colourGraphsSpec.pre6 enc Try.prog Try.f3 Rows.colourGraphsRow.domain false) (Rows.colourGraphsSpec.post enc Try.prog Try.f3 false true false false) := by
  refine returnsInHanded_of_change_sized (C := Try.checked) ownK started (by kernel_rfl) Try.func3
    (ChangeSpec.witness6 (enc := enc) (C := Try.checked) false ⟨#[], #[.agg #[.int .i64 0, .int .i64 0, .slice none 0 0, .slice none 0 0]], []⟩ 8 (by kernel_rfl) (by kernel_rfl) (by kernel_rfl) (by kernel_rfl)) ?_
  intro W base args ds gs before hval0 hW hcnd hsz0 _
  have hval : ∀ (j : Nat) t v, Try.f3.params[j]? = some t → args[j]? = some v → Value.okWide Try.prog W .any base t v := hval0
  have hsz : (DataW.weightsEach Try.prog (Try.f3.params.toList ++ Rows.colourGraphsSpec.plain.varTypes Try.prog) (ds ++ gs)).all (· ≤ reachBytes) = true := hsz0
  have hW' := hW
  obtain ⟨p, q, hA0, hV, rfl, hfz, hnd⟩ := hW
  have hA : DataW.TrodAll enc Try.prog W 0 (fun _ => true) true Try.f3.params.toList args.toList ds p := hA0
  rw [colourGraphsParams] at hA hsz
  rw [colourGraphsParamsA] at hval
  obtain ⟨v0, d0, rfl, rfl, h0⟩ := trodAll_one hA
  obtain ⟨rfl, rfl⟩ := trodVars_none hV
  have h0k := h0
  obtain ⟨pt0, A0, c0, B0, e0, ev0, hRA0, hRB0, hlen0⟩ := pat_open (hval 0 TP v0 rfl rfl) h0
  have hl0 := hlen0 fun k hk => by
    have := DataW.weights_mem_each (P := Try.prog) (ts := [TP] ++ Rows.colourGraphsSpec.plain.varTypes Try.prog) (ds := [d0] ++ []) (j := 0) rfl rfl k hk
    simpa using List.all_eq_true.1 hsz k this
  have hlt0 : ∀ y ∈ p, y.block < W.heap.size := fun y hy => by
    have := hW'.lt y (by simp [hy])
    simpa using this
  subst ev0
  refine (lawColourGraphs_c (p := pt0) (x := ⟨A0, c0, B0, e0⟩) W ⟨hRA0, hRB0⟩ hl0.1 hl0.2).mono fun e W' hq => ?_
  obtain ⟨_, he, _, ho, _⟩ := hq
  have bel := Only.to_below ho
  subst he
  refine ⟨_, rfl, ?_⟩
  refine ⟨_, _, _, [], p, [], hW', trodAll_mk1 (shut_bool uBool true), (by rw [colourGraphsParams]; exact trodAll_mk1 (Below.trod laidOutK (by kernel_rfl) (of_decide_eq_true (by kernel_rfl)) h0k bel hlt0)), rfl, bel.frame _, fun h => by cases h⟩
theorem colourGraphs_holds : Rows.ColourGraphsSaid :=
  OpenClaim.holds_of_wide 3 Try.f3 rfl rfl rfl rfl rfl rfl rfl ⟨rfl, rfl, rfl, rfl, rfl⟩ rfl rfl rfl rfl rfl (by kernel_rfl) Try.func3 (by kernel_rfl)
    (of_decide_eq_true (by kernel_rfl)) (by unfold Func.isWrapper; rw [if_neg (of_decide_eq_true (by kernel_rfl))]; exact ⟨rfl, rfl⟩)
    (fun os started H enc _ => colourGraphs_lifted os started H enc)
#print axioms colourGraphs_holds
end Go.Proofs.Ytoiiellaoikojaa
