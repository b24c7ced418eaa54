/- For every input the call of slopelaw12.ColourGreedyLeast returns true and changes nothing that was there. -/
import Derived.Test.YtoiiellaoikojaaR0
import Derived.Test.YtoiiellaoikojaaV4
set_option linter.unusedVariables false
set_option linter.unusedSimpArgs false
set_option maxHeartbeats 8000000
namespace Go.Proofs.Ytoiiellaoikojaa
open Go.ChangeShapes Go.WideShapes Go.ChangeAt Go.RowKit
abbrev TKd : TypeId := 48
theorem uKind : Try.prog.underlying TKd = some (.int .i64) := by kernel_rfl
theorem colourGreedyLeastParams : Try.f10.params.toList = [TKd, TP, TIs] := by kernel_rfl
theorem colourGreedyLeastParamsA : Try.f10.params = #[TKd, TP, TIs] := by kernel_rfl
set_option maxRecDepth 100000 in
theorem colourGreedyLeast_lifted (os : Os) (started : os.Started) (H : Type) (enc : TypeId × Value → H) :
    ReturnsInHanded {} Try.checked os 10 .any (Rows.colourGreedyLeastSpec.pre6 enc Try.prog Try.f10 Rows.colourGreedyLeastRow.domain false) (Rows.colourGreedyLeastSpec.post enc Try.prog Try.f10 false true false false) := by
  refine returnsInHanded_of_change_sized (C := Try.checked) ownK started (by kernel_rfl) Try.func10
    (ChangeSpec.witness6 (enc := enc) (C := Try.checked) false ⟨#[], #[.int .i64 0, .agg #[.int .i64 0, .int .i64 0, .slice none 0 0, .slice none 0 0], .slice none 0 0], []⟩ 8 (by kernel_rfl) (by kernel_rfl) (by kernel_rfl) (by kernel_rfl)) ?_
  intro W base args ds gs before hval0 hW hcnd hsz0 _
  have hval : ∀ (j : Nat) t v, Try.f10.params[j]? = some t → args[j]? = some v → Value.okWide Try.prog W .any base t v := hval0
  have hsz : (DataW.weightsEach Try.prog (Try.f10.params.toList ++ Rows.colourGreedyLeastSpec.plain.varTypes Try.prog) (ds ++ gs)).all (· ≤ reachBytes) = true := hsz0
  have hW' := hW
  obtain ⟨p, q, hA0, hV, rfl, hfz, hnd⟩ := hW
  have hA : DataW.TrodAll enc Try.prog W 0 (fun _ => true) true Try.f10.params.toList args.toList ds p := hA0
  rw [colourGreedyLeastParams] at hA hsz
  rw [colourGreedyLeastParamsA] at hval
  obtain ⟨v0, v1, v2, d0, d1, d2, p0, p1, p2, rfl, rfl, rfl, h0, h1, h2⟩ := trodAll_three hA
  obtain ⟨rfl, rfl⟩ := trodVars_none hV
  obtain ⟨a0, rfl, rfl, rfl, wr0⟩ := open_int uKind (hval 0 TKd v0 rfl rfl) h0
  have h1k := h1
  obtain ⟨pt1, A1, c1, B1, e1, ev1, hRA1, hRB1, hlen1⟩ := pat_open (hval 1 TP v1 rfl rfl) h1
  have hl1 := hlen1 fun k hk => by
    have := DataW.weights_mem_each (P := Try.prog) (ts := [TKd, TP, TIs] ++ Rows.colourGreedyLeastSpec.plain.varTypes Try.prog) (ds := [.lit (.int .i64 a0), d1, d2] ++ []) (j := 1) rfl rfl k hk
    simpa using List.all_eq_true.1 hsz k this
  have hlt1 : ∀ y ∈ p1, y.block < W.heap.size := fun y hy => by
    have := hW'.lt y (by simp [hy])
    simpa using this
  have h2k := h2
  obtain ⟨A2, c2, xs2, ev2, hRA2, hlen2⟩ := ints_open (hval 2 TIs v2 rfl rfl) h2
  have hl2 := hlen2 fun k hk => by
    have := DataW.weights_mem_each (P := Try.prog) (ts := [TKd, TP, TIs] ++ Rows.colourGreedyLeastSpec.plain.varTypes Try.prog) (ds := [.lit (.int .i64 a0), d1, d2] ++ []) (j := 2) rfl rfl k hk
    simpa using List.all_eq_true.1 hsz k this
  have hlt2 : ∀ y ∈ p2, y.block < W.heap.size := fun y hy => by
    have := hW'.lt y (by simp [hy])
    simpa using this
  subst ev1
  subst ev2
  refine (lawColourGreedyLeast_c (kd := a0) (p := pt1) (x := ⟨A1, c1, B1, e1⟩) (ord := xs2) W ⟨hRA1, hRB1⟩ hRA2).mono fun e W' hq => ?_
  obtain ⟨_, he, _, ho, _⟩ := hq
  have bel := Only.to_below ho
  subst he
  refine ⟨_, rfl, ?_⟩
  refine ⟨_, _, _, [], [] ++ (p1 ++ (p2)), [], hW', trodAll_mk1 (shut_bool uBool true), (by rw [colourGreedyLeastParams]; exact trodAll_mk3 (shut_int uKind wr0) (Below.trod laidOutK (by kernel_rfl) (of_decide_eq_true (by kernel_rfl)) h1k bel hlt1) (Below.trod laidOutK (by kernel_rfl) (of_decide_eq_true (by kernel_rfl)) h2k bel hlt2)), rfl, bel.frame _, fun h => by cases h⟩
theorem colourGreedyLeast_holds : Rows.ColourGreedyLeastSaid :=
  OpenClaim.holds_of_wide 10 Try.f10 rfl rfl rfl rfl rfl rfl rfl ⟨rfl, rfl, rfl, rfl, rfl⟩ rfl rfl rfl rfl rfl (by kernel_rfl) Try.func10 (by kernel_rfl)
    (of_decide_eq_true (by kernel_rfl)) (by unfold Func.isWrapper; rw [if_neg (of_decide_eq_true (by kernel_rfl))]; exact ⟨rfl, rfl⟩)
    (fun os started H enc _ => colourGreedyLeast_lifted os started H enc)
#print axioms colourGreedyLeast_holds
end Go.Proofs.Ytoiiellaoikojaa
