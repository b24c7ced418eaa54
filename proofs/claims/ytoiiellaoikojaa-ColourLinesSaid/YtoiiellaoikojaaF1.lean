/- Walks: colour: isGraph, Rows, Columns, Near. -/
import Derived.Test.YtoiiellaoikojaaF0
import Derived.Test.YtoiiellaoikojaaT31
import Derived.Test.YtoiiellaoikojaaTG
set_option linter.unusedVariables false
set_option linter.unusedSimpArgs false
set_option maxHeartbeats 8000000
namespace Go.Proofs.Ytoiiellaoikojaa
open Go.RowKit
theorem lpTwo {w : World} {x y : PA} {p q : Pat} (h1 : RdP w x p) (h2 : RdP w y q) : ∀ z ∈ [(x, p), (y, q)], RdP w z.1 z.2 := fun z hz => by
  simp only [List.mem_cons, List.not_mem_nil, or_false] at hz
  rcases hz with rfl | rfl
  · exact h1
  · exact h2
section
variable {p : Pat} {x : PA}
theorem isGraph_c (w : World) (hp : RdP w x p) (b : Bool) (hb : b = true ↔ IsGr p) : Calls Try.prog 51 [pvl x p].toArray w (one (.bool b) w) := by
  have op := hp.old
  unfold pvl patV
  refine calls_wc [] [] [.tmp 2] (fun _ => [.bool b]) Try.func51 rfl rfl (fun _ => rfl) Try.ntmps51 rfl (Own.nil w) rfl ?_
  refine gg ?_
  refine wl_op (ok_box rfl rfl rfl rfl rfl ?_); intro bp
  refine gg ?_
  by_cases hs : Sym p
  · have hm := hs.1
    obtain ⟨h1, h2, h3, h4, h5, h6, h7, h8⟩ := hm.toHead
    refine gc1 (fun w hst => symmetric_c (p := p) (x := x) w (op.now hst) true (by simp [hs])) (by exact rfl) ?_
    refine gg ?_
    refine glp (fun v : Int => 0 ≤ v ∧ v ≤ p.rows ∧ ∀ u : Int, 0 ≤ u → u < v → ¬ HasP p u u) (fun v => [(1, .pointer (some ⟨bp, 0, none⟩)), (8, vi p.rows), (9, vi v)])
      (fun _ => [blk bp (pcs x p) TP]) (fun v => (p.rows - v).toNat) 0 ⟨by omega, h1, fun u u0 u1 => by omega⟩ ?_
    rintro v ⟨hv0, hv1, hno⟩
    by_cases hv : v < p.rows
    · refine gg ?_
      by_cases hh : HasP p v v
      · obtain rfl : b = false := by
          cases b with
          | false => rfl
          | true => exact ((hb.1 rfl).2 v hh).elim
        refine gc1 (fun w hst => has_c (p := p) (r := v) (x := v) w (op.s.now hst) (op.c.now hst) true (by simp [hm, hh])) (by exact rfl) ?_
        refine gg ?_
        exact grt () trivial
      · refine gc1 (fun w hst => has_c (p := p) (r := v) (x := v) w (op.s.now hst) (op.c.now hst) false (by simp [hh])) (by exact rfl) ?_
        refine gg ?_
        exact gnx (v + 1) ⟨by omega, by omega, fun u u0 u1 => by
          by_cases e : u = v
          · rw [e]; exact hh
          · exact hno u u0 (by omega)⟩ (by omega)
    · obtain rfl : b = true := hb.2 ⟨hs, fun u hu => hno u (hu.in_ hm).1.1 (by have := (hu.in_ hm).1.2; omega) hu⟩
      refine gg ?_
      exact grt () trivial
  · obtain rfl : b = false := by
      cases b with
      | false => rfl
      | true => exact (hs (hb.1 rfl).1).elim
    refine gc1 (fun w hst => symmetric_c (p := p) (x := x) w (op.now hst) false (by simp [hs])) (by exact rfl) ?_
    refine gg ?_
    exact grt () trivial
theorem colRows_c (w : World) (hp : RdP w x p) :
    Calls Try.prog 15 [pvl x p].toArray w (Ret [] (fun y : PA => .tuple #[pvl y (rowsS p).1, vi (rowsS p).2]) (fun y => PatR y (rowsS p).1) (fun _ => True) w) := by
  have op := hp.old
  unfold pvl patV
  by_cases hm : May p
  · have hmt := may_turn hm
    rw [show rowsS p = (shutP p.rows.toNat p.rows (meetB p), 0) from if_pos hm]
    refine calls_wc [] [] [.cell 2 TP, .tmp 3] (fun y : PA => [pvl y (shutP p.rows.toNat p.rows (meetB p)), vi 0]) Try.func15 rfl rfl (fun _ => rfl) Try.ntmps15 rfl (Own.nil w) rfl ?_
    refine gg ?_
    refine wl_op (ok_box rfl rfl rfl rfl rfl ?_); intro bp
    refine wl_op (ok_alloc rfl rfl rfl rfl (ze_of rfl) ?_); intro rb
    refine gg ?_
    refine gc3 [] (fun w hst hst1 => turn_c (p := p) (x := x) w (op.now hst)) (by exact rfl) ?_
    (repeat (first | refine gk1 ?_ | refine gk2 ?_ | refine gk3 ?_ | refine gk0 ?_ | refine gk4 ?_))
    rintro y1 _
    dsimp only [List.cons_append, List.nil_append]
    rw [turnS_ok hm]
    refine gg ?_
    refine wl_op (ok_alloc rfl rfl rfl rfl (ze_of rfl) ?_); intro q4
    refine gg ?_
    refine gc3 [] (fun w hst hst1 => product_c (p := p) (q := turnP p) (x := x) (y := y1) w (op.now hst) (grdP hst) _ (productS_ok hm hmt (by rw [rows_turn hm]))) (by exact rfl) ?_
    (repeat (first | refine gk1 ?_ | refine gk2 ?_ | refine gk3 ?_ | refine gk0 ?_ | refine gk4 ?_))
    rintro y2 _
    dsimp only [List.cons_append, List.nil_append]
    refine gg ?_
    refine wl_op (ok_alloc rfl rfl rfl rfl (ze_of rfl) ?_); intro q6
    refine gg ?_
    refine gc3 [] (fun w hst hst1 => graph_c (p := prodP p (turnP p)) (x := y2) w (grdP hst)) (by exact rfl) ?_
    (repeat (first | refine gk1 ?_ | refine gk2 ?_ | refine gk3 ?_ | refine gk0 ?_ | refine gk4 ?_))
    rintro y3 _
    dsimp only [List.cons_append, List.nil_append]
    rw [graph_both hm]
    refine gg ?_
    exact grt y3 trivial
  · rw [show rowsS p = (zP, 180) from if_neg hm]
    refine calls_wc [] [] [.cell 2 TP, .tmp 3] (fun y : PA => [pvl y zP, vi 180]) Try.func15 rfl rfl (fun _ => rfl) Try.ntmps15 rfl (Own.nil w) rfl ?_
    refine gnil ?_
    refine gnil ?_
    refine gg ?_
    refine wl_op (ok_box rfl rfl rfl rfl rfl ?_); intro bp
    refine wl_op (ok_alloc rfl rfl rfl rfl (ze_of rfl) ?_); intro rb
    refine gg ?_
    refine gc3 [] (fun w hst hst1 => turn_c (p := p) (x := x) w (op.now hst)) (by exact rfl) ?_
    (repeat (first | refine gk1 ?_ | refine gk2 ?_ | refine gk3 ?_ | refine gk0 ?_ | refine gk4 ?_))
    rintro y1 _
    dsimp only [List.cons_append, List.nil_append]
    rw [show turnS p = (zP, 180) from if_neg hm]
    refine gg ?_
    refine wl_op (ok_alloc rfl rfl rfl rfl (ze_of rfl) ?_); intro q4
    refine gg ?_
    exact grt PA.nil trivial
theorem columns_c (w : World) (hp : RdP w x p) :
    Calls Try.prog 12 [pvl x p].toArray w (Ret [] (fun y : PA => .tuple #[pvl y (colsS p).1, vi (colsS p).2]) (fun y => PatR y (colsS p).1) (fun _ => True) w) := by
  have op := hp.old
  unfold pvl patV
  by_cases hm : May p
  · have hmt := may_turn hm
    rw [← rowsS_turn hm]
    refine calls_wc [] [] [.cell 2 TP, .tmp 3] (fun y : PA => [pvl y (rowsS (turnP p)).1, vi (rowsS (turnP p)).2]) Try.func12 rfl rfl (fun _ => rfl) Try.ntmps12 rfl (Own.nil w) rfl ?_
    refine gg ?_
    refine wl_op (ok_box rfl rfl rfl rfl rfl ?_); intro bp
    refine wl_op (ok_alloc rfl rfl rfl rfl (ze_of rfl) ?_); intro rb
    refine gg ?_
    refine gc3 [] (fun w hst hst1 => turn_c (p := p) (x := x) w (op.now hst)) (by exact rfl) ?_
    (repeat (first | refine gk1 ?_ | refine gk2 ?_ | refine gk3 ?_ | refine gk0 ?_ | refine gk4 ?_))
    rintro y1 _
    dsimp only [List.cons_append, List.nil_append]
    rw [turnS_ok hm]
    refine gg ?_
    refine wl_op (ok_alloc rfl rfl rfl rfl (ze_of rfl) ?_); intro q4
    refine gg ?_
    refine gc3 [] (fun w hst hst1 => colRows_c (p := turnP p) (x := y1) w (grdP hst)) (by exact rfl) ?_
    (repeat (first | refine gk1 ?_ | refine gk2 ?_ | refine gk3 ?_ | refine gk0 ?_ | refine gk4 ?_))
    rintro y2 _
    dsimp only [List.cons_append, List.nil_append]
    refine gg ?_
    exact grt y2 trivial
  · rw [show colsS p = (zP, 180) from if_neg hm]
    refine calls_wc [] [] [.cell 2 TP, .tmp 3] (fun y : PA => [pvl y zP, vi 180]) Try.func12 rfl rfl (fun _ => rfl) Try.ntmps12 rfl (Own.nil w) rfl ?_
    refine gnil ?_
    refine gnil ?_
    refine gg ?_
    refine wl_op (ok_box rfl rfl rfl rfl rfl ?_); intro bp
    refine wl_op (ok_alloc rfl rfl rfl rfl (ze_of rfl) ?_); intro rb
    refine gg ?_
    refine gc3 [] (fun w hst hst1 => turn_c (p := p) (x := x) w (op.now hst)) (by exact rfl) ?_
    (repeat (first | refine gk1 ?_ | refine gk2 ?_ | refine gk3 ?_ | refine gk0 ?_ | refine gk4 ?_))
    rintro y1 _
    dsimp only [List.cons_append, List.nil_append]
    rw [show turnS p = (zP, 180) from if_neg hm]
    refine gg ?_
    refine wl_op (ok_alloc rfl rfl rfl rfl (ze_of rfl) ?_); intro q4
    refine gg ?_
    exact grt PA.nil trivial
theorem near_c (w : World) (hp : RdP w x p) :
    Calls Try.prog 16 [pvl x p].toArray w (Ret [] (fun y : PA => .tuple #[pvl y (nearS p).1, vi (nearS p).2]) (fun y => PatR y (nearS p).1) (fun _ => True) w) := by
  have op := hp.old
  unfold pvl patV
  by_cases hm : May p
  · by_cases hg : IsGr p
    · obtain ⟨hal, hnear⟩ := graph_near hm hg
      rw [show nearS p = (shutP p.rows.toNat p.rows (nearB p), 0) by unfold nearS; rw [if_pos hm, if_pos hg]]
      refine calls_wc [] [] [.cell 2 TP, .tmp 3] (fun y : PA => [pvl y (shutP p.rows.toNat p.rows (nearB p)), vi 0]) Try.func16 rfl rfl (fun _ => rfl) Try.ntmps16 rfl (Own.nil w) rfl ?_
      refine gg ?_
      refine wl_op (ok_box rfl rfl rfl rfl rfl ?_); intro bp
      refine wl_op (ok_alloc rfl rfl rfl rfl (ze_of rfl) ?_); intro rb
      refine gg ?_
      refine gc1 (fun w hst => may_t (op.s.now hst) (op.c.now hst) hm) (by exact rfl) ?_
      refine gg ?_
      refine gc1 (fun w hst => isGraph_c (p := p) (x := x) w (op.now hst) true (by simp [hg])) (by exact rfl) ?_
      refine gg ?_
      refine gc3 [] (fun w hst hst1 => product_c (p := p) (q := p) (x := x) (y := x) w (op.now hst) (op.now hst) _ (productS_ok hm hm hg.1.2.1.symm)) (by exact rfl) ?_
      (repeat (first | refine gk1 ?_ | refine gk2 ?_ | refine gk3 ?_ | refine gk0 ?_ | refine gk4 ?_))
      rintro y1 _
      dsimp only [List.cons_append, List.nil_append]
      refine gg ?_
      refine wl_op (ok_alloc rfl rfl rfl rfl (ze_of rfl) ?_); intro q4
      refine gg ?_
      refine gbp [(x, p), (y1, prodP p p)] (ps := [(0, .agg (pcs x p).toArray), (1, .agg (pcs y1 (prodP p p)).toArray)]) rfl rfl rfl rfl rfl rfl (by simp) (by simp) (by kernel_rfl) ?_
      intro lb
      refine gc3 [] (fun w hst hst1 => union_c (l := [(x, p), (y1, prodP p p)]) w (grdPs hst (lpTwo (op.now hst) (grdP hst)) (by simp)) _ (unionS_ok hal)) (by exact rfl) ?_
      (repeat (first | refine gk1 ?_ | refine gk2 ?_ | refine gk3 ?_ | refine gk0 ?_ | refine gk4 ?_))
      rintro y2 _
      dsimp only [List.cons_append, List.nil_append]
      refine gg ?_
      refine wl_op (ok_alloc rfl rfl rfl rfl (ze_of rfl) ?_); intro q6
      refine gg ?_
      refine gc3 [] (fun w hst hst1 => graph_c (p := unionP [p, prodP p p]) (x := y2) w (grdP hst)) (by exact rfl) ?_
      (repeat (first | refine gk1 ?_ | refine gk2 ?_ | refine gk3 ?_ | refine gk0 ?_ | refine gk4 ?_))
      rintro y3 _
      dsimp only [List.cons_append, List.nil_append]
      rw [hnear]
      refine gg ?_
      exact grt y3 trivial
    · rw [show nearS p = (zP, 220) by unfold nearS; rw [if_pos hm, if_neg hg]]
      refine calls_wc [] [] [.cell 2 TP, .tmp 3] (fun y : PA => [pvl y zP, vi 220]) Try.func16 rfl rfl (fun _ => rfl) Try.ntmps16 rfl (Own.nil w) rfl ?_
      refine gnil ?_
      refine gnil ?_
      refine gg ?_
      refine wl_op (ok_box rfl rfl rfl rfl rfl ?_); intro bp
      refine wl_op (ok_alloc rfl rfl rfl rfl (ze_of rfl) ?_); intro rb
      refine gg ?_
      refine gc1 (fun w hst => may_t (op.s.now hst) (op.c.now hst) hm) (by exact rfl) ?_
      refine gg ?_
      refine gc1 (fun w hst => isGraph_c (p := p) (x := x) w (op.now hst) false (by simp [hg])) (by exact rfl) ?_
      refine gg ?_
      exact grt PA.nil trivial
  · rw [show nearS p = (zP, 180) by unfold nearS; rw [if_neg hm]]
    refine calls_wc [] [] [.cell 2 TP, .tmp 3] (fun y : PA => [pvl y zP, vi 180]) Try.func16 rfl rfl (fun _ => rfl) Try.ntmps16 rfl (Own.nil w) rfl ?_
    refine gnil ?_
    refine gnil ?_
    refine gg ?_
    refine wl_op (ok_box rfl rfl rfl rfl rfl ?_); intro bp
    refine wl_op (ok_alloc rfl rfl rfl rfl (ze_of rfl) ?_); intro rb
    refine gg ?_
    refine gc1 (fun w hst => may_f (op.s.now hst) (op.c.now hst) hm) (by exact rfl) ?_
    refine gg ?_
    exact grt PA.nil trivial
end
end Go.Proofs.Ytoiiellaoikojaa
