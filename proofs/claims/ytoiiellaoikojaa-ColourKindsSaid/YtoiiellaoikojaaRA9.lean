/- For every input the call of slopelaw12.ColourKinds returns true and changes nothing that was there. -/
import Derived.Test.YtoiiellaoikojaaR0
import Derived.Test.YtoiiellaoikojaaV2
set_option linter.unusedVariables false
set_option linter.unusedSimpArgs false
set_option maxHeartbeats 8000000
namespace Go.Proofs.Ytoiiellaoikojaa
open Go.ChangeShapes Go.WideShapes Go.ChangeAt Go.RowKit
theorem colourKindsParams : Try.f11.params.toList = [TP, TIs, TIs, TI] := by kernel_rfl
theorem colourKindsParamsA : Try.f11.params = #[TP, TIs, TIs, TI] := by kernel_rfl
set_option maxRecDepth 100000 in
theorem colourKinds_lifted (os : Os) (started : os.Started) (H : Type) (enc : TypeId × Value → H) :
    ReturnsInHanded {} Try.checked os 11 .any (Rows.colourKindsSpec.pre6 enc Try.prog Try.f11 Rows.colourKindsRow.domain false) (Rows.colourKindsSpec.post enc Try.prog Try.f11 false true false false) := by
  refine returnsInHanded_of_change_sized (C := Try.checked) ownK started (by kernel_rfl) Try.func11
    (ChangeSpec.witness6 (enc := enc) (C := Try.checked) false ⟨#[], #[.agg #[.int .i64 0, .int .i64 0, .slice none 0 0, .slice none 0 0], .slice none 0 0, .slice none 0 0, .int .i64 0], []⟩ 8 (by kernel_rfl) (by kernel_rfl) (by kernel_rfl) (by kernel_rfl)) ?_
  intro W base args ds gs before hval0 hW hcnd hsz0 _
  have hval : ∀ (j : Nat) t v, Try.f11.params[j]? = some t → args[j]? = some v → Value.okWide Try.prog W .any base t v := hval0
  have hsz : (DataW.weightsEach Try.prog (Try.f11.params.toList ++ Rows.colourKindsSpec.plain.varTypes Try.prog) (ds ++ gs)).all (· ≤ reachBytes) = true := hsz0
  have hW' := hW
  obtain ⟨p, q, hA0, hV, rfl, hfz, hnd⟩ := hW
  have hA : DataW.TrodAll enc Try.prog W 0 (fun _ => true) true Try.f11.params.toList args.toList ds p := hA0
  rw [colourKindsParams] at hA hsz
  rw [colourKindsParamsA] at hval
  obtain ⟨v0, v1, v2, v3, d0, d1, d2, d3, p0, p1, p2, p3, rfl, rfl, rfl, h0, h1, h2, h3⟩ := trodAll_four hA
  obtain ⟨rfl, rfl⟩ := trodVars_none hV
  obtain ⟨a3, rfl, rfl, rfl, wr3⟩ := open_int uInt (hval 3 TI v3 rfl rfl) h3
  have h0k := h0
  obtain ⟨pt0, A0, c0, B0, e0, ev0, hRA0, hRB0, hlen0⟩ := pat_open (hval 0 TP v0 rfl rfl) h0
  have hl0 := hlen0 fun k hk => by
    have := DataW.weights_mem_each (P := Try.prog) (ts := [TP, TIs, TIs, TI] ++ Rows.colourKindsSpec.plain.varTypes Try.prog) (ds := [d0, d1, d2, .lit (.int .i64 a3)] ++ []) (j := 0) rfl rfl k hk
    simpa using List.all_eq_true.1 hsz k this
  have hlt0 : ∀ y ∈ p0, y.block < W.heap.size := fun y hy => by
    have := hW'.lt y (by simp [hy])
    simpa using this
  have h1k := h1
  obtain ⟨A1, c1, xs1, ev1, hRA1, hlen1⟩ := ints_open (hval 1 TIs v1 rfl rfl) h1
  have hl1 := hlen1 fun k hk => by
    have := DataW.weights_mem_each (P := Try.prog) (ts := [TP, TIs, TIs, TI] ++ Rows.colourKindsSpec.plain.varTypes Try.prog) (ds := [d0, d1, d2, .lit (.int .i64 a3)] ++ []) (j := 1) rfl rfl k hk
    simpa using List.all_eq_true.1 hsz k this
  have hlt1 : ∀ y ∈ p1, y.block < W.heap.size := fun y hy => by
    have := hW'.lt y (by simp [hy])
    simpa using this
  have h2k := h2
  obtain ⟨A2, c2, xs2, ev2, hRA2, hlen2⟩ := ints_open (hval 2 TIs v2 rfl rfl) h2
  have hl2 := hlen2 fun k hk => by
    have := DataW.weights_mem_each (P := Try.prog) (ts := [TP, TIs, TIs, TI] ++ Rows.colourKindsSpec.plain.varTypes Try.prog) (ds := [d0, d1, d2, .lit (.int .i64 a3)] ++ []) (j := 2) rfl rfl k hk
    simpa using List.all_eq_true.1 hsz k this
  have hlt2 : ∀ y ∈ p2, y.block < W.heap.size := fun y hy => by
    have := hW'.lt y (by simp [hy])
    simpa using this
  subst ev0
  subst ev1
  subst ev2
  refine (lawColourKinds_c (p := pt0) (x := ⟨A0, c0, B0, e0⟩) (l := xs1) (ord := xs2) (s := a3) W ⟨hRA0, hRB0⟩ hRA1 hRA2 hl1).mono fun e W' hq => ?_
  obtain ⟨_, he, _, ho, _⟩ := hq
  have bel := Only.to_below ho
  subst he
  refine ⟨_, rfl, ?_⟩
  refine ⟨_, _, _, [], p0 ++ (p1 ++ (p2 ++ ([]))), [], hW', trodAll_mk1 (shut_bool uBool true), (by rw [colourKindsParams]; exact trodAll_mk4 (Below.trod laidOutK (by kernel_rfl) (of_decide_eq_true (by kernel_rfl)) h0k bel hlt0) (Below.trod laidOutK (by kernel_rfl) (of_decide_eq_true (by kernel_rfl)) h1k bel hlt1) (Below.trod laidOutK (by kernel_rfl) (of_decide_eq_true (by kernel_rfl)) h2k bel hlt2) (shut_int uInt wr3)), rfl, bel.frame _, fun h => by cases h⟩
theorem colourKinds_holds : Rows.ColourKindsSaid :=
  OpenClaim.holds_of_wide 11 Try.f11 rfl rfl rfl rfl rfl rfl rfl ⟨rfl, rfl, rfl, rfl, rfl⟩ rfl rfl rfl rfl rfl (by kernel_rfl) Try.func11 (by kernel_rfl)
    (of_decide_eq_true (by kernel_rfl)) (by unfold Func.isWrapper; rw [if_neg (of_decide_eq_true (by kernel_rfl))]; exact ⟨rfl, rfl⟩)
    (fun os started H enc _ => colourKinds_lifted os started H enc)
#print axioms colourKinds_holds
end Go.Proofs.Ytoiiellaoikojaa
