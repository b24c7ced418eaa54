/- For every input the call of slopelaw9.SparsePlaces returns true and changes nothing that was there. -/
import Derived.Test.YtofngbaefbbeiaaR0
set_option linter.unusedVariables false
set_option linter.unusedSimpArgs false
set_option maxHeartbeats 8000000
namespace Go.Proofs.Ytofngbaefbbeiaa
open Go.ChangeShapes Go.WideShapes Go.ChangeAt Go.RowKit
theorem spParams : Try.f3.params.toList = [TP, TI, TI] := by kernel_rfl
theorem spParamsA : Try.f3.params = #[TP, TI, TI] := by kernel_rfl
set_option maxRecDepth 100000 in
theorem sp_lifted (os : Os) (started : os.Started) (H : Type) (enc : TypeId × Value → H) :
    ReturnsInHanded {} Try.checked os 3 .any (Rows.sparsePlacesSpec.pre6 enc Try.prog Try.f3 Rows.sparsePlacesRow.domain false) (Rows.sparsePlacesSpec.post enc Try.prog Try.f3 false true false false) := by
  refine returnsInHanded_of_change_sized (C := Try.checked) ownK started (by kernel_rfl) Try.func3
    (ChangeSpec.witness6 (enc := enc) (C := Try.checked) false ⟨#[], #[.agg #[.int .i64 0, .int .i64 0, .slice none 0 0, .slice none 0 0], .int .i64 0, .int .i64 0], []⟩ 8 (by kernel_rfl) (by kernel_rfl) (by kernel_rfl) (by kernel_rfl)) ?_
  intro W base args ds gs before hval0 hW hcnd hsz0 _
  have hval : ∀ (j : Nat) t v, Try.f3.params[j]? = some t → args[j]? = some v → Value.okWide Try.prog W .any base t v := hval0
  have hsz : (DataW.weightsEach Try.prog (Try.f3.params.toList ++ Rows.sparsePlacesSpec.plain.varTypes Try.prog) (ds ++ gs)).all (· ≤ reachBytes) = true := hsz0
  have hW' := hW
  obtain ⟨p, q, hA0, hV, rfl, hfz, hnd⟩ := hW
  have hA : DataW.TrodAll enc Try.prog W 0 (fun _ => true) true Try.f3.params.toList args.toList ds p := hA0
  rw [spParams] at hA hsz
  rw [spParamsA] at hval
  obtain ⟨v0, v1, v2, d0, d1, d2, p0, p1, p2, rfl, rfl, rfl, h0, h1, h2⟩ := trodAll_three hA
  obtain ⟨rfl, rfl⟩ := trodVars_none hV
  obtain ⟨r, rfl, rfl, rfl, wr⟩ := open_int uInt (hval 1 TI v1 rfl rfl) h1
  obtain ⟨x, rfl, rfl, rfl, wx⟩ := open_int uInt (hval 2 TI v2 rfl rfl) h2
  have h0k := h0
  obtain ⟨pt, A, c, B, e, ev, hRA, hRB, hlen⟩ := pat_open (hval 0 TP v0 rfl rfl) h0
  have hl := hlen fun k hk => by
    have := DataW.weights_mem_each (P := Try.prog) (ts := [TP, TI, TI] ++ Rows.sparsePlacesSpec.plain.varTypes Try.prog) (ds := [d0, .lit (.int .i64 r), .lit (.int .i64 x)] ++ []) (j := 0) rfl rfl k hk
    simpa using List.all_eq_true.1 hsz k this
  have hlt : ∀ y ∈ p0, y.block < W.heap.size := fun y hy => by
    have := hW'.lt y (by simp [hy])
    simpa using this
  subst ev
  refine (lawSparsePlaces_c (r := r) (x := x) W hRA hRB hl.1 hl.2).mono fun e W' hq => ?_
  obtain ⟨_, he, _, ho, _⟩ := hq
  have bel := Only.to_below ho
  subst he
  refine ⟨_, rfl, ?_⟩
  refine ⟨_, _, _, [], p0 ++ ([] ++ []), [], hW', trodAll_mk1 (shut_bool uBool true), (by rw [spParams]; exact trodAll_mk3 (Below.trod laidOutK (by kernel_rfl) (of_decide_eq_true (by kernel_rfl)) h0k bel hlt) (shut_int uInt wr) (shut_int uInt wx)), rfl, bel.frame _, fun h => by cases h⟩
theorem sparsePlaces_holds : Rows.SparsePlacesSaid :=
  OpenClaim.holds_of_wide 3 Try.f3 rfl rfl rfl rfl rfl rfl rfl ⟨rfl, rfl, rfl, rfl, rfl⟩ rfl rfl rfl rfl rfl (by kernel_rfl) Try.func3 (by kernel_rfl)
    (of_decide_eq_true (by kernel_rfl)) (by unfold Func.isWrapper; rw [if_neg (of_decide_eq_true (by kernel_rfl))]; exact ⟨rfl, rfl⟩)
    (fun os started H enc _ => sp_lifted os started H enc)
#print axioms sparsePlaces_holds
end Go.Proofs.Ytofngbaefbbeiaa
