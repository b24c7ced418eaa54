/- For every input the call of slopelaw9.SparseBuilds returns true and changes nothing that was there. -/
import Derived.Test.YtofngbaefbbeiaaR0
import Derived.Test.YtofngbaefbbeiaaT25
set_option linter.unusedVariables false
set_option linter.unusedSimpArgs false
set_option maxHeartbeats 8000000
namespace Go.Proofs.Ytofngbaefbbeiaa
open Go.ChangeShapes Go.WideShapes Go.ChangeAt Go.RowKit
theorem sparseBuildsParams : Try.f5.params.toList = [TI, TI, TIs, TIs] := by kernel_rfl
theorem sparseBuildsParamsA : Try.f5.params = #[TI, TI, TIs, TIs] := by kernel_rfl
set_option maxRecDepth 100000 in
theorem sparseBuilds_lifted (os : Os) (started : os.Started) (H : Type) (enc : TypeId × Value → H) :
    ReturnsInHanded {} Try.checked os 5 .any (Rows.sparseBuildsSpec.pre6 enc Try.prog Try.f5 Rows.sparseBuildsRow.domain false) (Rows.sparseBuildsSpec.post enc Try.prog Try.f5 false true false false) := by
  refine returnsInHanded_of_change_sized (C := Try.checked) ownK started (by kernel_rfl) Try.func5
    (ChangeSpec.witness6 (enc := enc) (C := Try.checked) false ⟨#[], #[.int .i64 0, .int .i64 0, .slice none 0 0, .slice none 0 0], []⟩ 8 (by kernel_rfl) (by kernel_rfl) (by kernel_rfl) (by kernel_rfl)) ?_
  intro W base args ds gs before hval0 hW hcnd hsz0 _
  have hval : ∀ (j : Nat) t v, Try.f5.params[j]? = some t → args[j]? = some v → Value.okWide Try.prog W .any base t v := hval0
  have hsz : (DataW.weightsEach Try.prog (Try.f5.params.toList ++ Rows.sparseBuildsSpec.plain.varTypes Try.prog) (ds ++ gs)).all (· ≤ reachBytes) = true := hsz0
  have hW' := hW
  obtain ⟨p, q, hA0, hV, rfl, hfz, hnd⟩ := hW
  have hA : DataW.TrodAll enc Try.prog W 0 (fun _ => true) true Try.f5.params.toList args.toList ds p := hA0
  rw [sparseBuildsParams] at hA hsz
  rw [sparseBuildsParamsA] at hval
  obtain ⟨v0, v1, v2, v3, d0, d1, d2, d3, p0, p1, p2, p3, rfl, rfl, rfl, h0, h1, h2, h3⟩ := trodAll_four hA
  obtain ⟨rfl, rfl⟩ := trodVars_none hV
  obtain ⟨a0, rfl, rfl, rfl, wr0⟩ := open_int uInt (hval 0 TI v0 rfl rfl) h0
  obtain ⟨a1, rfl, rfl, rfl, wr1⟩ := open_int uInt (hval 1 TI v1 rfl rfl) h1
  have h2k := h2
  obtain ⟨A2, c2, xs2, ev2, hRA2, hlen2⟩ := ints_open (hval 2 TIs v2 rfl rfl) h2
  have hl2 := hlen2 fun k hk => by
    have := DataW.weights_mem_each (P := Try.prog) (ts := [TI, TI, TIs, TIs] ++ Rows.sparseBuildsSpec.plain.varTypes Try.prog) (ds := [.lit (.int .i64 a0), .lit (.int .i64 a1), d2, d3] ++ []) (j := 2) rfl rfl k hk
    simpa using List.all_eq_true.1 hsz k this
  have hlt2 : ∀ y ∈ p2, y.block < W.heap.size := fun y hy => by
    have := hW'.lt y (by simp [hy])
    simpa using this
  have h3k := h3
  obtain ⟨A3, c3, xs3, ev3, hRA3, hlen3⟩ := ints_open (hval 3 TIs v3 rfl rfl) h3
  have hl3 := hlen3 fun k hk => by
    have := DataW.weights_mem_each (P := Try.prog) (ts := [TI, TI, TIs, TIs] ++ Rows.sparseBuildsSpec.plain.varTypes Try.prog) (ds := [.lit (.int .i64 a0), .lit (.int .i64 a1), d2, d3] ++ []) (j := 3) rfl rfl k hk
    simpa using List.all_eq_true.1 hsz k this
  have hlt3 : ∀ y ∈ p3, y.block < W.heap.size := fun y hy => by
    have := hW'.lt y (by simp [hy])
    simpa using this
  subst ev2
  subst ev3
  refine (lawSparseBuilds_c (rows := a0) (width := a1) (rs := xs2) (cs := xs3) W hRA2 hRA3 hl2 hl3).mono fun e W' hq => ?_
  obtain ⟨_, he, _, ho, _⟩ := hq
  have bel := Only.to_below ho
  subst he
  refine ⟨_, rfl, ?_⟩
  refine ⟨_, _, _, [], [] ++ ([] ++ (p2 ++ (p3))), [], hW', trodAll_mk1 (shut_bool uBool true), (by rw [sparseBuildsParams]; exact trodAll_mk4 (shut_int uInt wr0) (shut_int uInt wr1) (Below.trod laidOutK (by kernel_rfl) (of_decide_eq_true (by kernel_rfl)) h2k bel hlt2) (Below.trod laidOutK (by kernel_rfl) (of_decide_eq_true (by kernel_rfl)) h3k bel hlt3)), rfl, bel.frame _, fun h => by cases h⟩
theorem sparseBuilds_holds : Rows.SparseBuildsSaid :=
  OpenClaim.holds_of_wide 5 Try.f5 rfl rfl rfl rfl rfl rfl rfl ⟨rfl, rfl, rfl, rfl, rfl⟩ rfl rfl rfl rfl rfl (by kernel_rfl) Try.func5 (by kernel_rfl)
    (of_decide_eq_true (by kernel_rfl)) (by unfold Func.isWrapper; rw [if_neg (of_decide_eq_true (by kernel_rfl))]; exact ⟨rfl, rfl⟩)
    (fun os started H enc _ => sparseBuilds_lifted os started H enc)
#print axioms sparseBuilds_holds
end Go.Proofs.Ytofngbaefbbeiaa
