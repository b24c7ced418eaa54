/- For every input the call of slopelaw9.SparseBlocks returns true and changes nothing that was there. -/
import Derived.Test.YtofngbaefbbeiaaR0
import Derived.Test.YtofngbaefbbeiaaE1
set_option linter.unusedVariables false
set_option linter.unusedSimpArgs false
set_option maxHeartbeats 8000000
namespace Go.Proofs.Ytofngbaefbbeiaa
open Go.ChangeShapes Go.WideShapes Go.ChangeAt Go.RowKit
theorem sparseBlocksParams : Try.f12.params.toList = [TP] := by kernel_rfl
theorem sparseBlocksParamsA : Try.f12.params = #[TP] := by kernel_rfl
set_option maxRecDepth 100000 in
theorem sparseBlocks_lifted (os : Os) (started : os.Started) (H : Type) (enc : TypeId × Value → H) :
    ReturnsInHanded {} Try.checked os 12 .any (Rows.sparseBlocksSpec.pre6 enc Try.prog Try.f12 Rows.sparseBlocksRow.domain false) (Rows.sparseBlocksSpec.post enc Try.prog Try.f12 false true false false) := by
  refine returnsInHanded_of_change_sized (C := Try.checked) ownK started (by kernel_rfl) Try.func12
    (ChangeSpec.witness6 (enc := enc) (C := Try.checked) false ⟨#[], #[.agg #[.int .i64 0, .int .i64 0, .slice none 0 0, .slice none 0 0]], []⟩ 8 (by kernel_rfl) (by kernel_rfl) (by kernel_rfl) (by kernel_rfl)) ?_
  intro W base args ds gs before hval0 hW hcnd hsz0 _
  have hval : ∀ (j : Nat) t v, Try.f12.params[j]? = some t → args[j]? = some v → Value.okWide Try.prog W .any base t v := hval0
  have hsz : (DataW.weightsEach Try.prog (Try.f12.params.toList ++ Rows.sparseBlocksSpec.plain.varTypes Try.prog) (ds ++ gs)).all (· ≤ reachBytes) = true := hsz0
  have hW' := hW
  obtain ⟨p, q, hA0, hV, rfl, hfz, hnd⟩ := hW
  have hA : DataW.TrodAll enc Try.prog W 0 (fun _ => true) true Try.f12.params.toList args.toList ds p := hA0
  rw [sparseBlocksParams] at hA hsz
  rw [sparseBlocksParamsA] at hval
  obtain ⟨v0, d0, rfl, rfl, h0⟩ := trodAll_one hA
  obtain ⟨rfl, rfl⟩ := trodVars_none hV
  have h0k := h0
  obtain ⟨pt0, A0, c0, B0, e0, ev0, hRA0, hRB0, hlen0⟩ := pat_open (hval 0 TP v0 rfl rfl) h0
  have hl0 := hlen0 fun k hk => by
    have := DataW.weights_mem_each (P := Try.prog) (ts := [TP] ++ Rows.sparseBlocksSpec.plain.varTypes Try.prog) (ds := [d0] ++ []) (j := 0) rfl rfl k hk
    simpa using List.all_eq_true.1 hsz k this
  have hlt0 : ∀ y ∈ p, y.block < W.heap.size := fun y hy => by
    have := hW'.lt y (by simp [hy])
    simpa using this
  subst ev0
  refine (lawSparseBlocks_c (p := pt0) (x := ⟨A0, c0, B0, e0⟩) W ⟨hRA0, hRB0⟩).mono fun e W' hq => ?_
  obtain ⟨_, he, _, ho, _⟩ := hq
  have bel := Only.to_below ho
  subst he
  refine ⟨_, rfl, ?_⟩
  refine ⟨_, _, _, [], p, [], hW', trodAll_mk1 (shut_bool uBool true), (by rw [sparseBlocksParams]; exact trodAll_mk1 (Below.trod laidOutK (by kernel_rfl) (of_decide_eq_true (by kernel_rfl)) h0k bel hlt0)), rfl, bel.frame _, fun h => by cases h⟩
theorem sparseBlocks_holds : Rows.SparseBlocksSaid :=
  OpenClaim.holds_of_wide 12 Try.f12 rfl rfl rfl rfl rfl rfl rfl ⟨rfl, rfl, rfl, rfl, rfl⟩ rfl rfl rfl rfl rfl (by kernel_rfl) Try.func12 (by kernel_rfl)
    (of_decide_eq_true (by kernel_rfl)) (by unfold Func.isWrapper; rw [if_neg (of_decide_eq_true (by kernel_rfl))]; exact ⟨rfl, rfl⟩)
    (fun os started H enc _ => sparseBlocks_lifted os started H enc)
#print axioms sparseBlocks_holds
end Go.Proofs.Ytofngbaefbbeiaa
