/- Walks: colours: Floor, both. -/
import Derived.Test.YtoiiellaoikojaaM2
set_option linter.unusedVariables false
set_option linter.unusedSimpArgs false
set_option maxHeartbeats 8000000
namespace Go.Proofs.Ytoiiellaoikojaa
open Go.RowKit
/-- the longest of the first rows, and 1 -/
def floTo (g : Pat) : Nat → Int
  | 0 => 1
  | r + 1 => max (floTo g r) (gt g.start ((r : Int) + 1) - gt g.start r)
theorem floTo_next {g : Pat} {r : Int} (h : 0 ≤ r) : floTo g (r + 1).toNat = max (floTo g r.toNat) (gt g.start (r + 1) - gt g.start r) := by
  rw [show (r + 1).toNat = r.toNat + 1 by omega]
  show max (floTo g r.toNat) (gt g.start ((r.toNat : Int) + 1) - gt g.start (r.toNat : Int)) = _
  rw [show ((r.toNat : Nat) : Int) = r by omega]
theorem floTo_rng {g : Pat} (h : Head g) : ∀ r : Nat, (r : Int) ≤ g.rows → 1 ≤ floTo g r ∧ floTo g r ≤ 1 + g.cols.length
  | 0, _ => ⟨Int.le_refl _, by show (1 : Int) ≤ _; omega⟩
  | r + 1, hr => by
    have ih := floTo_rng h r (by omega)
    have e1 := h.lo (r := (r : Int)) (by omega) (by omega)
    have e2 := h.hi (r := (r : Int) + 1) (by omega) (by omega)
    show 1 ≤ max (floTo g r) (gt g.start ((r : Int) + 1) - gt g.start r) ∧ max (floTo g r) (gt g.start ((r : Int) + 1) - gt g.start r) ≤ _
    omega
theorem row_len {g : Pat} (hm : May g) {r : Int} (r0 : 0 ≤ r) (r1 : r < g.rows) : ((rowOf (hasB g r)).length : Int) = gt g.start (r + 1) - gt g.start r := by
  have h := row_has hm (r := r.toNat) (by omega)
  rw [show ((r.toNat : Nat) : Int) = r by omega] at h
  have e1 := hm.toHead.lo r0 (by omega)
  have e2 := hm.toHead.hi (r := r + 1) (by omega) (by omega)
  have e3 := hm.toHead.step r0 r1
  rw [← h, sub_length g.cols e1 e3 e2]
  omega
theorem rowTo_end {f : Int → Bool} {m : Int} (h : ∀ y, f y = true → 0 ≤ y ∧ y < m) : rowTo f m = rowOf f := by
  unfold rowTo
  congr 1
  funext y
  cases hy : f y with
  | false => rfl
  | true => have := h y hy; simp; omega
theorem has_turnB {p : Pat} (hm : May p) (a b : Int) : hasB (turnP p) a b = hasB p b a := by
  rw [Bool.eq_iff_iff, hasB_iff, hasB_iff, has_turn hm]
noncomputable def floorS (kd : Int) (p : Pat) : Int := if thN kd p = 0 then 0 else if kd = 2 then floTo p p.rows.toNat else if kd = 3 then floTo (turnP p) p.width.toNat else if 0 < p.cols.length then 2 else 1
section
variable {p : Pat} {x : PA} {kd : Int}
theorem floorE_c (w : World) (hp : RdP w x p) (he : thE kd p ≠ 0) :
    Calls Try.prog 30 [vi kd, pvl x p].toArray w (one (.tuple #[vi 0, vi (thE kd p)]) w) := by
  have op := hp.old
  have htk : ∀ w, RdP w x p → _ := fun w h => takenE_c (k := kd) w h he
  generalize thE kd p = e at *
  unfold pvl patV at *
  refine calls_wc [] [] [.tmp 4, .tmp 5] (fun _ => [vi 0, vi e]) Try.func30 rfl rfl (fun _ => rfl) Try.ntmps30 rfl (Own.nil w) rfl ?_
  refine gg ?_
  refine wl_op (ok_box rfl rfl rfl rfl rfl ?_); intro bp
  refine gg ?_
  refine gc1 (fun w hst => htk w (op.now hst)) (by exact rfl) ?_
  refine gg ?_
  exact grt () trivial
theorem refFloorE_c (w : World) (hp : RdP w x p) (he : thE kd p ≠ 0) :
    Calls Try.prog 31 [vi kd, pvl x p].toArray w (one (.tuple #[vi 0, vi (thE kd p)]) w) := by
  have op := hp.old
  have hth : ∀ w, RdP w x p → _ := fun w h => things_c (p := p) (x := x) (k := kd) w h
  rw [if_neg he] at hth
  generalize thE kd p = e at *
  unfold pvl patV at *
  refine calls_wc [] [] [.tmp 4, .tmp 5] (fun _ => [vi 0, vi e]) Try.func31 rfl rfl (fun _ => rfl) Try.ntmps31 rfl (Own.nil w) rfl ?_
  refine gg ?_
  refine wl_op (ok_box rfl rfl rfl rfl rfl ?_); intro bp
  refine gg ?_
  refine gc3 [] (fun w hst hst1 => hth w (op.now hst)) (by exact rfl) ?_
  (repeat (first | refine gk1 ?_ | refine gk2 ?_ | refine gk3 ?_ | refine gk0 ?_ | refine gk4 ?_))
  rintro y _
  dsimp only [List.cons_append, List.nil_append]
  refine gg ?_
  refine wl_op (ok_alloc rfl rfl rfl rfl (ze_of rfl) ?_); intro q6
  refine gg ?_
  exact grt () trivial
theorem floorG_c (w : World) (hp : RdP w x p) (hm : May p) (hg : IsGr p) (hk : kd = 1 ∨ kd = 4 ∨ kd = 5) :
    Calls Try.prog 30 [vi kd, pvl x p].toArray w (one (.tuple #[vi (floorS kd p), vi 0]) w) := by
  have op := hp.old
  have k2 : kd ≠ 2 := by omega
  have k3 : kd ≠ 3 := by omega
  have hS : floorS kd p = if p.rows = 0 then 0 else if 0 < p.cols.length then 2 else 1 := by
    unfold floorS thN
    rw [if_neg k2, if_neg k2, if_neg k3]
  rw [hS]
  have htk : ∀ w, RdP w x p → _ := fun w h => takenG_c (k := kd) w h hm hg hk
  unfold pvl patV at *
  refine calls_wc [] [] [.tmp 4, .tmp 5] (fun _ => [vi (if p.rows = 0 then 0 else if 0 < p.cols.length then 2 else 1), vi 0]) Try.func30 rfl rfl (fun _ => rfl) Try.ntmps30 rfl (Own.nil w) rfl ?_
  refine gg ?_
  refine wl_op (ok_box rfl rfl rfl rfl rfl ?_); intro bp
  refine gg ?_
  refine gc3 [] (fun w hst hst1 => htk w (op.now hst)) (by exact rfl) ?_
  (repeat (first | refine gk1 ?_ | refine gk2 ?_ | refine gk3 ?_ | refine gk0 ?_ | refine gk4 ?_))
  rintro t _
  dsimp only [List.cons_append, List.nil_append]
  by_cases hz : p.rows = 0
  · rw [if_pos hz]
    refine gg ?_
    exact grt () trivial
  rw [if_neg hz]
  by_cases hc : 0 < p.cols.length
  · rw [if_pos hc]
    refine gg ?_
    exact grt () trivial
  · rw [if_neg hc]
    refine gg ?_
    exact grt () trivial
theorem floorcols_c (w : World) (hp : RdP w x p) (hm : May p) (hk : kd = 2) :
    Calls Try.prog 30 [vi kd, pvl x p].toArray w (one (.tuple #[vi (floorS kd p), vi 0]) w) := by
  have op := hp.old
  have os := op.s
  have oc := op.c
  obtain ⟨h1, h2, h3, h4, h5, h6, h7, h8⟩ := hm.toHead
  have hsm := hm.small
  have htk : ∀ w, RdP w x p → _ := fun w h => takencols_c (k := kd) w h hm hk
  have hN : (colsS p).1.rows = p.width := by
    rw [show colsS p = (shutP p.width.toNat p.width (meetC p), 0) from if_pos hm]
    show ((p.width.toNat : Nat) : Int) = _
    omega
  generalize (colsS p).1 = q at *
  have hS : floorS kd p = if p.width = 0 then 0 else floTo p p.rows.toNat := by
    subst hk
    unfold floorS
    rw [show thN 2 p = p.width from if_pos rfl, if_pos rfl]
  rw [hS]
  unfold pvl patV at *
  refine calls_wc [] [] [.tmp 4, .tmp 5] (fun _ => [vi (if p.width = 0 then 0 else floTo p p.rows.toNat), vi 0]) Try.func30 rfl rfl (fun _ => rfl) Try.ntmps30 rfl (Own.nil w) rfl ?_
  refine gg ?_
  refine wl_op (ok_box rfl rfl rfl rfl rfl ?_); intro bp
  refine gg ?_
  refine gc3 [] (fun w hst hst1 => htk w (op.now hst)) (by exact rfl) ?_
  (repeat (first | refine gk1 ?_ | refine gk2 ?_ | refine gk3 ?_ | refine gk0 ?_ | refine gk4 ?_))
  rintro t _
  dsimp only [List.cons_append, List.nil_append]
  rw [hN]
  by_cases hz : p.width = 0
  · rw [if_pos hz]
    refine gg ?_
    exact grt () trivial
  rw [if_neg hz]
  have HG := hm.toHead
  have g1 := h1
  refine gg ?_
  refine glp (fun r : Int => 0 ≤ r ∧ r ≤ p.rows) (fun r => [(3, .pointer (some ⟨bp, 0, none⟩)), (8, vi (floTo p r.toNat)), (37, vi p.rows), (38, vi r)]) (fun _ => [blk bp (pcs x p) TP]) (fun r => (p.rows - r).toNat) 0 ⟨by omega, g1⟩ ?_
  rintro r ⟨hr0, hr1⟩
  by_cases hr : r < p.rows
  · have e1 := HG.lo hr0 (by omega)
    have e2 := HG.hi (r := r + 1) (by omega) (by omega)
    have e3 := HG.step hr0 hr
    have e4 := HG.lo (r := r + 1) (by omega) (by omega)
    have g2 := HG.r1
    have hsl := HG.len
    have hf := floTo_rng HG r.toNat (by omega)
    refine gg ?_
    refine wc_quiet mixed (by kernel_rfl) ?_
    refine gg ?_
    refine wq_val rfl rfl rfl (val_max rfl rfl rfl) ?_
    refine gg ?_
    rw [← floTo_next hr0]
    exact gnx (r + 1) ⟨by omega, by omega⟩ (by omega)
  obtain rfl : r = p.rows := by omega
  refine gg ?_
  exact grt () trivial
theorem floorrows_c (w : World) (hp : RdP w x p) (hm : May p) (hk : kd = 3) :
    Calls Try.prog 30 [vi kd, pvl x p].toArray w (one (.tuple #[vi (floorS kd p), vi 0]) w) := by
  have op := hp.old
  have os := op.s
  have oc := op.c
  obtain ⟨h1, h2, h3, h4, h5, h6, h7, h8⟩ := hm.toHead
  have hsm := hm.small
  have htk : ∀ w, RdP w x p → _ := fun w h => takenrows_c (k := kd) w h hm hk
  have hN : (rowsS p).1.rows = p.rows := by
    rw [show rowsS p = (shutP p.rows.toNat p.rows (meetB p), 0) from if_pos hm]
    show ((p.rows.toNat : Nat) : Int) = _
    omega
  generalize (rowsS p).1 = q at *
  have hS : floorS kd p = if p.rows = 0 then 0 else floTo (turnP p) (turnP p).rows.toNat := by
    subst hk
    unfold floorS
    rw [show thN 3 p = p.rows from if_neg (by decide), if_neg (show ¬ (3 : Int) = 2 by decide), if_pos rfl, rows_turn hm]
  rw [hS]
  unfold pvl patV at *
  refine calls_wc [] [] [.tmp 4, .tmp 5] (fun _ => [vi (if p.rows = 0 then 0 else floTo (turnP p) (turnP p).rows.toNat), vi 0]) Try.func30 rfl rfl (fun _ => rfl) Try.ntmps30 rfl (Own.nil w) rfl ?_
  refine gg ?_
  refine wl_op (ok_box rfl rfl rfl rfl rfl ?_); intro bp
  refine gg ?_
  refine gc3 [] (fun w hst hst1 => htk w (op.now hst)) (by exact rfl) ?_
  (repeat (first | refine gk1 ?_ | refine gk2 ?_ | refine gk3 ?_ | refine gk0 ?_ | refine gk4 ?_))
  rintro t _
  dsimp only [List.cons_append, List.nil_append]
  rw [hN]
  by_cases hz : p.rows = 0
  · rw [if_pos hz]
    refine gg ?_
    exact grt () trivial
  rw [if_neg hz]
  have hmt := may_turn hm
  have HG := hmt.toHead
  have g1 := HG.r0
  have hsm2 := hmt.small
  refine gg ?_
  refine gc3 [] (fun w hst hst1 => turn_c (p := p) (x := x) w (op.now hst)) (by exact rfl) ?_
  (repeat (first | refine gk1 ?_ | refine gk2 ?_ | refine gk3 ?_ | refine gk0 ?_ | refine gk4 ?_))
  rintro y1 _
  dsimp only [List.cons_append, List.nil_append]
  rw [turnS_ok hm]
  refine gg ?_
  refine glp (fun r : Int => 0 ≤ r ∧ r ≤ (turnP p).rows) (fun r => [(3, .pointer (some ⟨bp, 0, none⟩)), (8, vi (floTo (turnP p) r.toNat)), (37, vi (turnP p).rows), (38, vi r)]) (fun _ => [blk bp (pcs y1 (turnP p)) TP, osl TI vi y1.A y1.c (turnP p).start, osl TI vi y1.B y1.d (turnP p).cols]) (fun r => ((turnP p).rows - r).toNat) 0 ⟨by omega, g1⟩ ?_
  rintro r ⟨hr0, hr1⟩
  by_cases hr : r < (turnP p).rows
  · have e1 := HG.lo hr0 (by omega)
    have e2 := HG.hi (r := r + 1) (by omega) (by omega)
    have e3 := HG.step hr0 hr
    have e4 := HG.lo (r := r + 1) (by omega) (by omega)
    have g2 := HG.r1
    have hsl := HG.len
    have hf := floTo_rng HG r.toNat (by omega)
    refine gg ?_
    refine wc_quiet mixed (by kernel_rfl) ?_
    refine gg ?_
    refine wq_val rfl rfl rfl (val_max rfl rfl rfl) ?_
    refine gg ?_
    rw [← floTo_next hr0]
    exact gnx (r + 1) ⟨by omega, by omega⟩ (by omega)
  obtain rfl : r = (turnP p).rows := by omega
  refine gg ?_
  exact grt () trivial
end
end Go.Proofs.Ytoiiellaoikojaa
