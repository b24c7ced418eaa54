/- For every input the call of slopelaw12.ColourReached returns true and changes nothing that was there. -/
import Derived.Test.YtoiiellaoikojaaR0
import Derived.Test.YtoiiellaoikojaaV6
set_option linter.unusedVariables false
set_option linter.unusedSimpArgs false
set_option maxHeartbeats 8000000
namespace Go.Proofs.Ytoiiellaoikojaa
open Go.ChangeShapes Go.WideShapes Go.ChangeAt Go.RowKit
abbrev TKd : TypeId := 48
theorem uKind : Try.prog.underlying TKd = some (.int .i64) := by kernel_rfl
theorem colourReachedParams : Try.f8.params.toList = [TKd, TP] := by kernel_rfl
theorem colourReachedParamsA : Try.f8.params = #[TKd, TP] := by kernel_rfl
set_option maxRecDepth 100000 in
theorem colourReached_lifted (os : Os) (started : os.Started) (H : Type) (enc : TypeId × Value → H) :
    ReturnsInHanded {} Try.checked os 8 .any (Rows.colourReachedSpec.pre6 enc Try.prog Try.f8 Rows.colourReachedRow.domain false) (Rows.colourReachedSpec.post enc Try.prog Try.f8 false true false false) := by
  refine returnsInHanded_of_change_sized (C := Try.checked) ownK started (by kernel_rfl) Try.func8
    (ChangeSpec.witness6 (enc := enc) (C := Try.checked) false ⟨#[], #[.int .i64 0, .agg #[.int .i64 0, .int .i64 0, .slice none 0 0, .slice none 0 0]], []⟩ 8 (by kernel_rfl) (by kernel_rfl) (by kernel_rfl) (by kernel_rfl)) ?_
  intro W base args ds gs before hval0 hW hcnd hsz0 _
  have hval : ∀ (j : Nat) t v, Try.f8.params[j]? = some t → args[j]? = some v → Value.okWide Try.prog W .any base t v := hval0
  have hsz : (DataW.weightsEach Try.prog (Try.f8.params.toList ++ Rows.colourReachedSpec.plain.varTypes Try.prog) (ds ++ gs)).all (· ≤ reachBytes) = true := hsz0
  have hW' := hW
  obtain ⟨p, q, hA0, hV, rfl, hfz, hnd⟩ := hW
  have hA : DataW.TrodAll enc Try.prog W 0 (fun _ => true) true Try.f8.params.toList args.toList ds p := hA0
  rw [colourReachedParams] at hA hsz
  rw [colourReachedParamsA] at hval
  obtain ⟨v0, v1, d0, d1, p0, p1, rfl, rfl, rfl, h0, h1⟩ := trodAll_two hA
  obtain ⟨rfl, rfl⟩ := trodVars_none hV
  obtain ⟨a0, rfl, rfl, rfl, wr0⟩ := open_int uKind (hval 0 TKd v0 rfl rfl) h0
  have h1k := h1
  obtain ⟨pt1, A1, c1, B1, e1, ev1, hRA1, hRB1, hlen1⟩ := pat_open (hval 1 TP v1 rfl rfl) h1
  have hl1 := hlen1 fun k hk => by
    have := DataW.weights_mem_each (P := Try.prog) (ts := [TKd, TP] ++ Rows.colourReachedSpec.plain.varTypes Try.prog) (ds := [.lit (.int .i64 a0), d1] ++ []) (j := 1) rfl rfl k hk
    simpa using List.all_eq_true.1 hsz k this
  have hlt1 : ∀ y ∈ p1, y.block < W.heap.size := fun y hy => by
    have := hW'.lt y (by simp [hy])
    simpa using this
  subst ev1
  refine (lawColourReached_c (kd := a0) (p := pt1) (x := ⟨A1, c1, B1, e1⟩) W ⟨hRA1, hRB1⟩).mono fun e W' hq => ?_
  obtain ⟨_, he, _, ho, _⟩ := hq
  have bel := Only.to_below ho
  subst he
  refine ⟨_, rfl, ?_⟩
  refine ⟨_, _, _, [], [] ++ (p1), [], hW', trodAll_mk1 (shut_bool uBool true), (by rw [colourReachedParams]; exact trodAll_mk2 (shut_int uKind wr0) (Below.trod laidOutK (by kernel_rfl) (of_decide_eq_true (by kernel_rfl)) h1k bel hlt1)), rfl, bel.frame _, fun h => by cases h⟩
theorem colourReached_holds : Rows.ColourReachedSaid :=
  OpenClaim.holds_of_wide 8 Try.f8 rfl rfl rfl rfl rfl rfl rfl ⟨rfl, rfl, rfl, rfl, rfl⟩ rfl rfl rfl rfl rfl (by kernel_rfl) Try.func8 (by kernel_rfl)
    (of_decide_eq_true (by kernel_rfl)) (by unfold Func.isWrapper; rw [if_neg (of_decide_eq_true (by kernel_rfl))]; exact ⟨rfl, rfl⟩)
    (fun os started H enc _ => colourReached_lifted os started H enc)
#print axioms colourReached_holds
end Go.Proofs.Ytoiiellaoikojaa
