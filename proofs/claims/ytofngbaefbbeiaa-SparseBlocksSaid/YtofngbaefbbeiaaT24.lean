/- Walks: the law SparseTurns. -/
import Derived.Test.YtofngbaefbbeiaaT23
import Derived.Test.YtofngbaefbbeiaaTC
set_option linter.unusedVariables false
set_option linter.unusedSimpArgs false
set_option maxHeartbeats 8000000
namespace Go.Proofs.Ytofngbaefbbeiaa
open Go.RowKit
theorem pats_c {p q : Pat} {x y : PA} {e f : Int} (w : World) (hp : RdP w x p) (hq : RdP w y q) (h1 : e = f) (h2 : p = q) :
    Calls Try.prog 70 [pvl x p, vi e, pvl y q, vi f].toArray w (one (.bool true) w) := by
  have op := hp.old
  have oq := hq.old
  unfold pvl patV
  refine calls_wc [] [] [.tmp 8] (fun _ => [.bool true]) Try.func70 rfl rfl (fun _ => rfl) Try.ntmps70 rfl (Own.nil w) rfl ?_
  refine gg ?_
  refine wl_op (ok_box rfl rfl rfl rfl rfl ?_); intro b1
  refine wl_op (ok_box rfl rfl rfl rfl rfl ?_); intro b2
  refine gg ?_
  refine gc1 (fun w hst => samePattern_c (p := p) (q := q) (x := x) (y := y) w (op.now hst) (oq.now hst) true (by simp [h2])) (by exact rfl) ?_
  refine gg ?_
  exact grt () trivial
section
variable {p : Pat} {x y : PA}
theorem lawturns_c (w : World) (hp : RdP w x p) (hq : RdP w y p) :
    Calls Try.prog 26 [pvl x p, pvl y p].toArray w (one (.bool true) w) := by
  have op := hp.old
  have oq := hq.old
  obtain ⟨b, hb⟩ : ∃ b : Bool, b = true ↔ Sym p := by
    classical exact ⟨decide (Sym p), by simp⟩
  unfold pvl patV
  refine calls_wc [] [] [.tmp 4] (fun _ => [.bool true]) Try.func26 rfl rfl (fun _ => rfl) Try.ntmps26 rfl (Own.nil w) rfl ?_
  refine gg ?_
  refine wl_op (ok_box rfl rfl rfl rfl rfl ?_); intro b1
  refine wl_op (ok_box rfl rfl rfl rfl rfl ?_); intro b2
  refine gg ?_
  refine gc3 [] (fun w hst hst1 => turn_c (p := p) (x := x) w (op.now hst)) (by exact rfl) ?_
  (repeat (first | refine gk1 ?_ | refine gk2 ?_ | refine gk3 ?_ | refine gk0 ?_ | refine gk4 ?_))
  rintro y1 _
  dsimp only [List.cons_append, List.nil_append]
  refine gg ?_
  refine wl_op (ok_alloc rfl rfl rfl rfl (ze_of rfl) ?_); intro q1
  refine gg ?_
  refine gc3 [] (fun w hst hst1 => refTurn_c (p := p) (x := y) w (oq.now hst)) (by exact rfl) ?_
  (repeat (first | refine gk1 ?_ | refine gk2 ?_ | refine gk3 ?_ | refine gk0 ?_ | refine gk4 ?_))
  rintro y2 _
  dsimp only [List.cons_append, List.nil_append]
  refine gg ?_
  refine wl_op (ok_alloc rfl rfl rfl rfl (ze_of rfl) ?_); intro q2
  refine gg ?_
  refine gc1 (fun w hst => pats_c (x := y1) (y := y2) w (grdP hst) (grdP hst) rfl rfl) (by exact rfl) ?_
  refine gg ?_
  refine gc3 [] (fun w hst hst1 => close_c (p := p) (x := x) w (op.now hst)) (by exact rfl) ?_
  (repeat (first | refine gk1 ?_ | refine gk2 ?_ | refine gk3 ?_ | refine gk0 ?_ | refine gk4 ?_))
  rintro y3 _
  dsimp only [List.cons_append, List.nil_append]
  refine gg ?_
  refine gc3 [] (fun w hst hst1 => refClose_c (p := p) (x := y) w (oq.now hst)) (by exact rfl) ?_
  (repeat (first | refine gk1 ?_ | refine gk2 ?_ | refine gk3 ?_ | refine gk0 ?_ | refine gk4 ?_))
  rintro y4 _
  dsimp only [List.cons_append, List.nil_append]
  refine gg ?_
  refine gc1 (fun w hst => pats_c (x := y3) (y := y4) w (grdP hst) (grdP hst) rfl rfl) (by exact rfl) ?_
  refine gg ?_
  refine gc3 [] (fun w hst hst1 => graph_c (p := p) (x := x) w (op.now hst)) (by exact rfl) ?_
  (repeat (first | refine gk1 ?_ | refine gk2 ?_ | refine gk3 ?_ | refine gk0 ?_ | refine gk4 ?_))
  rintro y5 _
  dsimp only [List.cons_append, List.nil_append]
  refine gg ?_
  refine gc3 [] (fun w hst hst1 => refGraph_c (p := p) (x := y) w (oq.now hst)) (by exact rfl) ?_
  (repeat (first | refine gk1 ?_ | refine gk2 ?_ | refine gk3 ?_ | refine gk0 ?_ | refine gk4 ?_))
  rintro y6 _
  dsimp only [List.cons_append, List.nil_append]
  refine gg ?_
  refine wc_quiet mixed (by kernel_rfl) ?_
  refine gg ?_
  refine gc2 (fun w hst => pats_c (x := y5) (y := y6) w (grdP hst) (grdP hst) rfl rfl) (by exact rfl) ?_
  refine gg ?_
  refine gc2 (fun w hst => symmetric_c (p := p) (x := x) w (op.now hst) b hb) (by exact rfl) ?_
  refine gg ?_
  refine gc2 (fun w hst => refSymmetric_c (p := p) (x := y) w (oq.now hst) b hb) (by exact rfl) ?_
  refine wq_val rfl rfl rfl (val_eqb uB rfl rfl rfl) ?_
  rw [show (b == b) = true by simp]
  refine gg ?_
  exact grt () trivial
theorem lawSparseTurns_c (w : World) (hp : RdP w x p) (hl : p.start.length ≤ 17592186043904) (hl2 : p.cols.length ≤ 17592186043904) :
    Calls Try.prog 7 [pvl x p].toArray w (one (.bool true) w) := by
  have op := hp.old
  unfold pvl patV
  refine calls_wc [] [] [.tmp 2] (fun _ => [.bool true]) Try.func7 rfl rfl (fun _ => rfl) Try.ntmps7 rfl (Own.nil w) rfl ?_
  refine gg ?_
  refine wl_op (ok_box rfl rfl rfl rfl rfl ?_); intro bp
  refine gg ?_
  refine wl_none TIs sv ?_
  refine wl_none TIs sv ?_
  refine wl_op (ok_box rfl rfl rfl rfl rfl ?_); intro g
  refine gg ?_
  refine wc_perm (σ' := Giv g ⟨none, 0, none, 0, []⟩ ++ [blk bp (pcs x p) TP]) (List.Perm.refl _) ?_
  refine wa_beginS (Giv g ⟨none, 0, none, 0, []⟩) [blk bp (pcs x p) TP] rfl mixed ?_
  (first | refine ga1 0 (by exact rfl) (by exact rfl) ?_ | refine ga2 0 (by exact rfl) (by exact rfl) ?_ | refine ga3 0 (by exact rfl) (by exact rfl) ?_ | refine ga4 0 (by exact rfl) (by exact rfl) ?_)
  (first | refine ga1 1 (by exact rfl) (by exact rfl) ?_ | refine ga2 1 (by exact rfl) (by exact rfl) ?_ | refine ga3 1 (by exact rfl) (by exact rfl) ?_ | refine ga4 1 (by exact rfl) (by exact rfl) ?_)
  (first | refine ga1 3 (by exact rfl) (by exact rfl) ?_ | refine ga2 3 (by exact rfl) (by exact rfl) ?_ | refine ga3 3 (by exact rfl) (by exact rfl) ?_ | refine ga4 3 (by exact rfl) (by exact rfl) ?_)
  refine wa_one 2 rfl (by kernel_rfl) ?_
  refine ok_call (Giv g ⟨none, 0, none, 0, []⟩) [blk bp (pcs x p) TP] rfl (by rfl) (bod_of rfl) (by rfl) (by rfl) (by rfl) (List.Perm.refl _) (fun w hst => givenPattern_c (p := p) ⟨none, 0, none, 0, []⟩ w (op.s.later (St.keep hst)) (op.c.later (St.keep hst)) hl hl2 (by simp) (St.ownl hst)) ?_
  rintro ⟨z, e1, e2⟩ ⟨hy1, hy2, hy3⟩
  dsimp only at hy1 hy2 hy3 ⊢
  refine ⟨⟨_, rfl⟩, ?_⟩
  have m1 : e1 ∈ z.es := by rw [hy1]; simp
  have m2 : e2 ∈ z.es := by rw [hy1]; simp
  have q1 := (Giv.mem (g := g) m1).1
  have q2 := (Giv.mem (g := g) m2).1
  rw [hy2] at q1
  rw [hy3] at q2
  refine wa_one 4 rfl (by kernel_rfl) ?_
  refine ok_call1 (fun w hst => lawturns_c (p := p) (x := ⟨e1.A, e1.c, e2.A, e2.c⟩) (y := x) w ⟨(osl_reads ((St.keep hst).ok _ q1)).pre, (osl_reads ((St.keep hst).ok _ q2)).pre⟩ (op.now hst)) rfl (by rfl) (bod_of rfl) (by rfl) (by rfl) (by rfl) ?_
  refine ⟨⟨_, rfl⟩, ?_⟩
  (first | refine ga1 5 (by exact rfl) (by exact rfl) ?_ | refine ga2 5 (by exact rfl) (by exact rfl) ?_ | refine ga3 5 (by exact rfl) (by exact rfl) ?_ | refine ga4 5 (by exact rfl) (by exact rfl) ?_)
  (first | refine ga1 6 (by exact rfl) (by exact rfl) ?_ | refine ga2 6 (by exact rfl) (by exact rfl) ?_ | refine ga3 6 (by exact rfl) (by exact rfl) ?_ | refine ga4 6 (by exact rfl) (by exact rfl) ?_)
  refine wa_one 7 rfl (by kernel_rfl) ?_
  refine ok_call (Giv g z) [blk bp (pcs x p) TP] rfl (by rfl) (bod_of rfl) (by rfl) (by rfl) (by rfl) (List.Perm.refl _) (fun w hst => intact_c z w (by rw [hy1]; simp) (St.ownl hst)) ?_
  intro _ _
  refine ⟨⟨_, rfl⟩, ?_⟩
  (first | refine ga1 8 (by exact rfl) (by exact rfl) ?_ | refine ga2 8 (by exact rfl) (by exact rfl) ?_ | refine ga3 8 (by exact rfl) (by exact rfl) ?_ | refine ga4 8 (by exact rfl) (by exact rfl) ?_)
  (first | refine ga1 9 (by exact rfl) (by exact rfl) ?_ | refine ga2 9 (by exact rfl) (by exact rfl) ?_ | refine ga3 9 (by exact rfl) (by exact rfl) ?_ | refine ga4 9 (by exact rfl) (by exact rfl) ?_)
  refine wa_done (by kernel_rfl) ?_
  refine gg ?_
  exact grt () trivial
end
end Go.Proofs.Ytofngbaefbbeiaa
