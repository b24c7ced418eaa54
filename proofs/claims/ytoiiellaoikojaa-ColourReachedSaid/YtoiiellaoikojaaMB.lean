/- Walks: colours: Floor, both. Walks: colours: the reference's Floor; orders refused; the law ColourBounds. Walks: colours: orders refused; Bound and Floor of all; the law ColourBounds. -/
import Derived.Test.YtoiiellaoikojaaMA
set_option linter.unusedVariables false
set_option linter.unusedSimpArgs false
set_option maxHeartbeats 8000000
namespace Go.Proofs.Ytoiiellaoikojaa
open Go.RowKit
/-- the longest of the first rows, and 1 -/
def floTo (g : Pat) : Nat → Int
  | 0 => 1
  | r + 1 => max (floTo g r) (gt g.start ((r : Int) + 1) - gt g.start r)
theorem floTo_next {g : Pat} {r : Int} (h : 0 ≤ r) : floTo g (r + 1).toNat = max (floTo g r.toNat) (gt g.start (r + 1) - gt g.start r) := by
  rw [show (r + 1).toNat = r.toNat + 1 by omega]
  show max (floTo g r.toNat) (gt g.start ((r.toNat : Int) + 1) - gt g.start (r.toNat : Int)) = _
  rw [show ((r.toNat : Nat) : Int) = r by omega]
theorem floTo_rng {g : Pat} (h : Head g) : ∀ r : Nat, (r : Int) ≤ g.rows → 1 ≤ floTo g r ∧ floTo g r ≤ 1 + g.cols.length
  | 0, _ => ⟨Int.le_refl _, by show (1 : Int) ≤ _; omega⟩
  | r + 1, hr => by
    have ih := floTo_rng h r (by omega)
    have e1 := h.lo (r := (r : Int)) (by omega) (by omega)
    have e2 := h.hi (r := (r : Int) + 1) (by omega) (by omega)
    show 1 ≤ max (floTo g r) (gt g.start ((r : Int) + 1) - gt g.start r) ∧ max (floTo g r) (gt g.start ((r : Int) + 1) - gt g.start r) ≤ _
    omega
theorem row_len {g : Pat} (hm : May g) {r : Int} (r0 : 0 ≤ r) (r1 : r < g.rows) : ((rowOf (hasB g r)).length : Int) = gt g.start (r + 1) - gt g.start r := by
  have h := row_has hm (r := r.toNat) (by omega)
  rw [show ((r.toNat : Nat) : Int) = r by omega] at h
  have e1 := hm.toHead.lo r0 (by omega)
  have e2 := hm.toHead.hi (r := r + 1) (by omega) (by omega)
  have e3 := hm.toHead.step r0 r1
  rw [← h, sub_length g.cols e1 e3 e2]
  omega
theorem rowTo_end {f : Int → Bool} {m : Int} (h : ∀ y, f y = true → 0 ≤ y ∧ y < m) : rowTo f m = rowOf f := by
  unfold rowTo
  congr 1
  funext y
  cases hy : f y with
  | false => rfl
  | true => have := h y hy; simp; omega
theorem has_turnB {p : Pat} (hm : May p) (a b : Int) : hasB (turnP p) a b = hasB p b a := by
  rw [Bool.eq_iff_iff, hasB_iff, hasB_iff, has_turn hm]
noncomputable def floorS (kd : Int) (p : Pat) : Int := if thN kd p = 0 then 0 else if kd = 2 then floTo p p.rows.toNat else if kd = 3 then floTo (turnP p) p.width.toNat else if 0 < p.cols.length then 2 else 1
section
variable {p : Pat} {x : PA} {kd : Int}
theorem floorE_c (w : World) (hp : RdP w x p) (he : thE kd p ≠ 0) :
    Calls Try.prog 30 [vi kd, pvl x p].toArray w (one (.tuple #[vi 0, vi (thE kd p)]) w) := by
  have op := hp.old
  have htk : ∀ w, RdP w x p → _ := fun w h => takenE_c (k := kd) w h he
  generalize thE kd p = e at *
  unfold pvl patV at *
  refine calls_wc [] [] [.tmp 4, .tmp 5] (fun _ => [vi 0, vi e]) Try.func30 rfl rfl (fun _ => rfl) Try.ntmps30 rfl (Own.nil w) rfl ?_
  refine gg ?_
  refine wl_op (ok_box rfl rfl rfl rfl rfl ?_); intro bp
  refine gg ?_
  refine gc1 (fun w hst => htk w (op.now hst)) (by exact rfl) ?_
  refine gg ?_
  exact grt () trivial
theorem refFloorE_c (w : World) (hp : RdP w x p) (he : thE kd p ≠ 0) :
    Calls Try.prog 31 [vi kd, pvl x p].toArray w (one (.tuple #[vi 0, vi (thE kd p)]) w) := by
  have op := hp.old
  have hth : ∀ w, RdP w x p → _ := fun w h => things_c (p := p) (x := x) (k := kd) w h
  rw [if_neg he] at hth
  generalize thE kd p = e at *
  unfold pvl patV at *
  refine calls_wc [] [] [.tmp 4, .tmp 5] (fun _ => [vi 0, vi e]) Try.func31 rfl rfl (fun _ => rfl) Try.ntmps31 rfl (Own.nil w) rfl ?_
  refine gg ?_
  refine wl_op (ok_box rfl rfl rfl rfl rfl ?_); intro bp
  refine gg ?_
  refine gc3 [] (fun w hst hst1 => hth w (op.now hst)) (by exact rfl) ?_
  (repeat (first | refine gk1 ?_ | refine gk2 ?_ | refine gk3 ?_ | refine gk0 ?_ | refine gk4 ?_))
  rintro y _
  dsimp only [List.cons_append, List.nil_append]
  refine gg ?_
  refine wl_op (ok_alloc rfl rfl rfl rfl (ze_of rfl) ?_); intro q6
  refine gg ?_
  exact grt () trivial
theorem floorG_c (w : World) (hp : RdP w x p) (hm : May p) (hg : IsGr p) (hk : kd = 1 ∨ kd = 4 ∨ kd = 5) :
    Calls Try.prog 30 [vi kd, pvl x p].toArray w (one (.tuple #[vi (floorS kd p), vi 0]) w) := by
  have op := hp.old
  have k2 : kd ≠ 2 := by omega
  have k3 : kd ≠ 3 := by omega
  have hS : floorS kd p = if p.rows = 0 then 0 else if 0 < p.cols.length then 2 else 1 := by
    unfold floorS thN
    rw [if_neg k2, if_neg k2, if_neg k3]
  rw [hS]
  have htk : ∀ w, RdP w x p → _ := fun w h => takenG_c (k := kd) w h hm hg hk
  unfold pvl patV at *
  refine calls_wc [] [] [.tmp 4, .tmp 5] (fun _ => [vi (if p.rows = 0 then 0 else if 0 < p.cols.length then 2 else 1), vi 0]) Try.func30 rfl rfl (fun _ => rfl) Try.ntmps30 rfl (Own.nil w) rfl ?_
  refine gg ?_
  refine wl_op (ok_box rfl rfl rfl rfl rfl ?_); intro bp
  refine gg ?_
  refine gc3 [] (fun w hst hst1 => htk w (op.now hst)) (by exact rfl) ?_
  (repeat (first | refine gk1 ?_ | refine gk2 ?_ | refine gk3 ?_ | refine gk0 ?_ | refine gk4 ?_))
  rintro t _
  dsimp only [List.cons_append, List.nil_append]
  by_cases hz : p.rows = 0
  · rw [if_pos hz]
    refine gg ?_
    exact grt () trivial
  rw [if_neg hz]
  by_cases hc : 0 < p.cols.length
  · rw [if_pos hc]
    refine gg ?_
    exact grt () trivial
  · rw [if_neg hc]
    refine gg ?_
    exact grt () trivial
theorem floorcols_c (w : World) (hp : RdP w x p) (hm : May p) (hk : kd = 2) :
    Calls Try.prog 30 [vi kd, pvl x p].toArray w (one (.tuple #[vi (floorS kd p), vi 0]) w) := by
  have op := hp.old
  have os := op.s
  have oc := op.c
  obtain ⟨h1, h2, h3, h4, h5, h6, h7, h8⟩ := hm.toHead
  have hsm := hm.small
  have htk : ∀ w, RdP w x p → _ := fun w h => takencols_c (k := kd) w h hm hk
  have hN : (colsS p).1.rows = p.width := by
    rw [show colsS p = (shutP p.width.toNat p.width (meetC p), 0) from if_pos hm]
    show ((p.width.toNat : Nat) : Int) = _
    omega
  generalize (colsS p).1 = q at *
  have hS : floorS kd p = if p.width = 0 then 0 else floTo p p.rows.toNat := by
    subst hk
    unfold floorS
    rw [show thN 2 p = p.width from if_pos rfl, if_pos rfl]
  rw [hS]
  unfold pvl patV at *
  refine calls_wc [] [] [.tmp 4, .tmp 5] (fun _ => [vi (if p.width = 0 then 0 else floTo p p.rows.toNat), vi 0]) Try.func30 rfl rfl (fun _ => rfl) Try.ntmps30 rfl (Own.nil w) rfl ?_
  refine gg ?_
  refine wl_op (ok_box rfl rfl rfl rfl rfl ?_); intro bp
  refine gg ?_
  refine gc3 [] (fun w hst hst1 => htk w (op.now hst)) (by exact rfl) ?_
  (repeat (first | refine gk1 ?_ | refine gk2 ?_ | refine gk3 ?_ | refine gk0 ?_ | refine gk4 ?_))
  rintro t _
  dsimp only [List.cons_append, List.nil_append]
  rw [hN]
  by_cases hz : p.width = 0
  · rw [if_pos hz]
    refine gg ?_
    exact grt () trivial
  rw [if_neg hz]
  have HG := hm.toHead
  have g1 := h1
  refine gg ?_
  refine glp (fun r : Int => 0 ≤ r ∧ r ≤ p.rows) (fun r => [(3, .pointer (some ⟨bp, 0, none⟩)), (8, vi (floTo p r.toNat)), (37, vi p.rows), (38, vi r)]) (fun _ => [blk bp (pcs x p) TP]) (fun r => (p.rows - r).toNat) 0 ⟨by omega, g1⟩ ?_
  rintro r ⟨hr0, hr1⟩
  by_cases hr : r < p.rows
  · have e1 := HG.lo hr0 (by omega)
    have e2 := HG.hi (r := r + 1) (by omega) (by omega)
    have e3 := HG.step hr0 hr
    have e4 := HG.lo (r := r + 1) (by omega) (by omega)
    have g2 := HG.r1
    have hsl := HG.len
    have hf := floTo_rng HG r.toNat (by omega)
    refine gg ?_
    refine wc_quiet mixed (by kernel_rfl) ?_
    refine gg ?_
    refine wq_val rfl rfl rfl (val_max rfl rfl rfl) ?_
    refine gg ?_
    rw [← floTo_next hr0]
    exact gnx (r + 1) ⟨by omega, by omega⟩ (by omega)
  obtain rfl : r = p.rows := by omega
  refine gg ?_
  exact grt () trivial
theorem floorrows_c (w : World) (hp : RdP w x p) (hm : May p) (hk : kd = 3) :
    Calls Try.prog 30 [vi kd, pvl x p].toArray w (one (.tuple #[vi (floorS kd p), vi 0]) w) := by
  have op := hp.old
  have os := op.s
  have oc := op.c
  obtain ⟨h1, h2, h3, h4, h5, h6, h7, h8⟩ := hm.toHead
  have hsm := hm.small
  have htk : ∀ w, RdP w x p → _ := fun w h => takenrows_c (k := kd) w h hm hk
  have hN : (rowsS p).1.rows = p.rows := by
    rw [show rowsS p = (shutP p.rows.toNat p.rows (meetB p), 0) from if_pos hm]
    show ((p.rows.toNat : Nat) : Int) = _
    omega
  generalize (rowsS p).1 = q at *
  have hS : floorS kd p = if p.rows = 0 then 0 else floTo (turnP p) (turnP p).rows.toNat := by
    subst hk
    unfold floorS
    rw [show thN 3 p = p.rows from if_neg (by decide), if_neg (show ¬ (3 : Int) = 2 by decide), if_pos rfl, rows_turn hm]
  rw [hS]
  unfold pvl patV at *
  refine calls_wc [] [] [.tmp 4, .tmp 5] (fun _ => [vi (if p.rows = 0 then 0 else floTo (turnP p) (turnP p).rows.toNat), vi 0]) Try.func30 rfl rfl (fun _ => rfl) Try.ntmps30 rfl (Own.nil w) rfl ?_
  refine gg ?_
  refine wl_op (ok_box rfl rfl rfl rfl rfl ?_); intro bp
  refine gg ?_
  refine gc3 [] (fun w hst hst1 => htk w (op.now hst)) (by exact rfl) ?_
  (repeat (first | refine gk1 ?_ | refine gk2 ?_ | refine gk3 ?_ | refine gk0 ?_ | refine gk4 ?_))
  rintro t _
  dsimp only [List.cons_append, List.nil_append]
  rw [hN]
  by_cases hz : p.rows = 0
  · rw [if_pos hz]
    refine gg ?_
    exact grt () trivial
  rw [if_neg hz]
  have hmt := may_turn hm
  have HG := hmt.toHead
  have g1 := HG.r0
  have hsm2 := hmt.small
  refine gg ?_
  refine gc3 [] (fun w hst hst1 => turn_c (p := p) (x := x) w (op.now hst)) (by exact rfl) ?_
  (repeat (first | refine gk1 ?_ | refine gk2 ?_ | refine gk3 ?_ | refine gk0 ?_ | refine gk4 ?_))
  rintro y1 _
  dsimp only [List.cons_append, List.nil_append]
  rw [turnS_ok hm]
  refine gg ?_
  refine glp (fun r : Int => 0 ≤ r ∧ r ≤ (turnP p).rows) (fun r => [(3, .pointer (some ⟨bp, 0, none⟩)), (8, vi (floTo (turnP p) r.toNat)), (37, vi (turnP p).rows), (38, vi r)]) (fun _ => [blk bp (pcs y1 (turnP p)) TP, osl TI vi y1.A y1.c (turnP p).start, osl TI vi y1.B y1.d (turnP p).cols]) (fun r => ((turnP p).rows - r).toNat) 0 ⟨by omega, g1⟩ ?_
  rintro r ⟨hr0, hr1⟩
  by_cases hr : r < (turnP p).rows
  · have e1 := HG.lo hr0 (by omega)
    have e2 := HG.hi (r := r + 1) (by omega) (by omega)
    have e3 := HG.step hr0 hr
    have e4 := HG.lo (r := r + 1) (by omega) (by omega)
    have g2 := HG.r1
    have hsl := HG.len
    have hf := floTo_rng HG r.toNat (by omega)
    refine gg ?_
    refine wc_quiet mixed (by kernel_rfl) ?_
    refine gg ?_
    refine wq_val rfl rfl rfl (val_max rfl rfl rfl) ?_
    refine gg ?_
    rw [← floTo_next hr0]
    exact gnx (r + 1) ⟨by omega, by omega⟩ (by omega)
  obtain rfl : r = (turnP p).rows := by omega
  refine gg ?_
  exact grt () trivial
end
section
variable {p : Pat} {x : PA} {kd : Int} {A : Option Addr} {c n : Nat} {l : List Int}
theorem refFloorG_c (w : World) (hp : RdP w x p) (hm : May p) (he : thE kd p = 0) (hk : kd = 1 ∨ kd = 4 ∨ kd = 5) :
    Calls Try.prog 31 [vi kd, pvl x p].toArray w (one (.tuple #[vi (floorS kd p), vi 0]) w) := by
  have op := hp.old
  have k2 : kd ≠ 2 := by omega
  have k3 : kd ≠ 3 := by omega
  have hS : floorS kd p = if p.rows = 0 then 0 else if 0 < p.cols.length then 2 else 1 := by
    unfold floorS thN
    rw [if_neg k2, if_neg k2, if_neg k3]
  rw [hS]
  have hth : ∀ w, RdP w x p → _ := fun w h => things_c (p := p) (x := x) (k := kd) w h
  rw [if_pos he, he, show thN kd p = p.rows from if_neg k2] at hth
  generalize thF kd p = F at *
  unfold pvl patV at *
  refine calls_wc [] [] [.tmp 4, .tmp 5] (fun _ => [vi (if p.rows = 0 then 0 else if 0 < p.cols.length then 2 else 1), vi 0]) Try.func31 rfl rfl (fun _ => rfl) Try.ntmps31 rfl (Own.nil w) rfl ?_
  refine gg ?_
  refine wl_op (ok_box rfl rfl rfl rfl rfl ?_); intro bp
  refine gg ?_
  refine gc3 [] (fun w hst hst1 => hth w (op.now hst)) (by exact rfl) ?_
  (repeat (first | refine gk1 ?_ | refine gk2 ?_ | refine gk3 ?_ | refine gk0 ?_ | refine gk4 ?_))
  rintro y _
  dsimp only [List.cons_append, List.nil_append]
  refine gg ?_
  refine wl_op (ok_alloc rfl rfl rfl rfl (ze_of rfl) ?_); intro q6
  refine gg ?_
  by_cases hz : p.rows = 0
  · rw [if_pos hz]
    refine gg ?_
    exact grt () trivial
  rw [if_neg hz]
  by_cases hc : 0 < p.cols.length
  · rw [if_pos hc]
    refine gg ?_
    exact grt () trivial
  · rw [if_neg hc]
    refine gg ?_
    exact grt () trivial
theorem refFloor2_c (w : World) (hp : RdP w x p) (hm : May p) (he : thE 2 p = 0) :
    Calls Try.prog 31 [vi 2, pvl x p].toArray w (one (.tuple #[vi (floorS 2 p), vi 0]) w) := by
  have op := hp.old
  obtain ⟨h1, h2, h3, h4, h5, h6, h7, h8⟩ := hm.toHead
  have hmt : May p := hm
  have HG := hmt.toHead
  have hsm := hmt.small
  have hGr : (p).rows = p.rows := rfl
  have hS : floorS 2 p = if p.width = 0 then 0 else floTo p (p).rows.toNat := by
    unfold floorS
    rw [show thN 2 p = p.width from if_pos rfl, if_pos rfl]
  rw [hS, hGr]
  have hth : ∀ w, RdP w x p → _ := fun w h => things_c (p := p) (x := x) (k := 2) w h
  rw [if_pos he, he, show thN 2 p = p.width from if_pos rfl] at hth
  have hopen : ∀ w, RdP w x p → _ := fun w h => open_c (p := p) w h.s h.c hm
  have hcell : ∀ a b : Int, hasB p a b = hasB p a b := fun _ _ => rfl
  generalize thF 2 p = F at *
  obtain ⟨m0, m1⟩ := mul_small h1 h2 h3 h4
  unfold pvl patV at *
  refine calls_wc [] [] [.tmp 4, .tmp 5] (fun _ => [vi (if p.width = 0 then 0 else floTo p p.rows.toNat), vi 0]) Try.func31 rfl rfl (fun _ => rfl) Try.ntmps31 rfl (Own.nil w) rfl ?_
  refine gg ?_
  refine wl_op (ok_box rfl rfl rfl rfl rfl ?_); intro bp
  refine gg ?_
  refine gc3 [] (fun w hst hst1 => hth w (op.now hst)) (by exact rfl) ?_
  (repeat (first | refine gk1 ?_ | refine gk2 ?_ | refine gk3 ?_ | refine gk0 ?_ | refine gk4 ?_))
  rintro y _
  dsimp only [List.cons_append, List.nil_append]
  refine gg ?_
  refine wl_op (ok_alloc rfl rfl rfl rfl (ze_of rfl) ?_); intro q6
  refine gg ?_
  by_cases hz : p.width = 0
  · rw [if_pos hz]
    refine gg ?_
    exact grt () trivial
  rw [if_neg hz]
  refine gg ?_
  refine gc3 [] (fun w hst hst1 => hopen w (op.now hst)) (by exact rfl) ?_
  (repeat (first | refine gk1 ?_ | refine gk2 ?_ | refine gk3 ?_ | refine gk0 ?_ | refine gk4 ?_))
  rintro ⟨G1, d1, on1⟩ hg1
  dsimp only [List.cons_append, List.nil_append] at hg1 ⊢
  have hgl1 := hg1.len
  refine wl_op (ok_alloc rfl rfl rfl rfl (ze_of rfl) ?_); intro q8
  refine gg ?_
  refine glp (fun r : Int => 0 ≤ r ∧ r ≤ p.rows) (fun r => [(0, vi 2), (3, .pointer (some ⟨bp, 0, none⟩)), (8, .pointer (some ⟨q8, 0, none⟩)), (9, vi (floTo p r.toNat)), (10, vi r)]) (fun _ => [osl TB vb G1 d1 on1, blk q8 (gridC p.rows p.width G1 on1.length d1) TGr, blk bp (pcs x p) TP]) (fun r => (p.rows - r).toNat) 0 ⟨by omega, by omega⟩ ?_
  rintro r ⟨hr0, hr1⟩
  by_cases hr : r < p.rows
  · have hf := floTo_rng HG r.toNat (by omega)
    have hfn := floTo_next (g := p) hr0
    have hrl := row_len hmt hr0 (by rw [hGr]; exact hr)
    refine gg ?_
    refine glp (fun d : Int => 0 ≤ d ∧ d ≤ p.width) (fun d => [(0, vi 2), (3, .pointer (some ⟨bp, 0, none⟩)), (8, .pointer (some ⟨q8, 0, none⟩)), (9, vi (floTo p r.toNat)), (10, vi r), (11, vi (rowTo (hasB p r) d).length), (12, vi d)]) (fun _ => [osl TB vb G1 d1 on1, blk q8 (gridC p.rows p.width G1 on1.length d1) TGr, blk bp (pcs x p) TP]) (fun d => (p.width - d).toNat) 0 ⟨by omega, by omega⟩ ?_ (hT := .cons rfl (.cons rfl (.cons rfl (.cons rfl (.cons rfl (.cons (look_to rfl (by rw [rowTo_zero]; rfl)) (.cons rfl .nil)))))))
    rintro d ⟨hd0, hd1⟩
    have hrt := rowTo_len (hasB p r) d
    by_cases hd : d < p.width
    · have hst := rowTo_step (f := hasB p r) hd0 (by omega)
      have hat := hg1.at_ r d hr0 hr hd0 hd
      have lat := cell_lt hr0 hr hd0 hd
      obtain ⟨m2, m3⟩ := mul_small (x := r) (y := p.width) (by omega) (by omega) h3 h4
      rw [hcell] at hst
      refine gg ?_
      cases hb : hasB p r d with
      | true =>
        rw [hb] at hat hst
        rw [if_pos rfl] at hst
        have hln : (rowTo (hasB p r) (d + 1)).length = (rowTo (hasB p r) d).length + 1 := by rw [hst, List.length_append]; rfl
        refine gc1 (fun w hst => at_c (rows := p.rows) (width := p.width) (r := r) (x := d) w (grd hst) h3 h4 (by omega) (by omega) (by omega) (by omega) (by omega) _ hat) (by exact rfl) ?_
        refine gg ?_
        rw [show (((rowTo (hasB p r) d).length : Nat) : Int) + 1 = (((rowTo (hasB p r) (d + 1)).length : Nat) : Int) by omega]
        exact gnx (d + 1) ⟨by omega, by omega⟩ (by omega)
      | false =>
        rw [hb] at hat hst
        rw [if_neg (by simp)] at hst
        refine gc1 (fun w hst => at_c (rows := p.rows) (width := p.width) (r := r) (x := d) w (grd hst) h3 h4 (by omega) (by omega) (by omega) (by omega) (by omega) _ hat) (by exact rfl) ?_
        rw [← hst]
        refine gg ?_
        exact gnx (d + 1) ⟨by omega, by omega⟩ (by omega)
    obtain rfl : d = p.width := by omega
    rw [rowTo_all (fun y hy => ((hasB_iff.1 hy).in_ hm).2.2), hrl]
    rw [rowTo_all (fun y hy => ((hasB_iff.1 hy).in_ hm).2.2)] at hrt
    by_cases hgt : floTo p r.toNat < gt (p).start (r + 1) - gt (p).start r
    · rw [show max (floTo p r.toNat) (gt (p).start (r + 1) - gt (p).start r) = gt (p).start (r + 1) - gt (p).start r by omega] at hfn
      refine gg ?_
      rw [← hfn]
      exact gnx (r + 1) ⟨by omega, by omega⟩ (by omega)
    · rw [show max (floTo p r.toNat) (gt (p).start (r + 1) - gt (p).start r) = floTo p r.toNat by omega] at hfn
      refine gg ?_
      rw [← hfn]
      exact gnx (r + 1) ⟨by omega, by omega⟩ (by omega)
  obtain rfl : r = p.rows := by omega
  have hfl := floTo_rng HG (p.rows).toNat (by omega)
  refine gg ?_
  refine glp (fun r : Int => 0 ≤ r ∧ r ≤ p.width) (fun r => [(0, vi 2), (3, .pointer (some ⟨bp, 0, none⟩)), (8, .pointer (some ⟨q8, 0, none⟩)), (9, vi (floTo p p.rows.toNat)), (13, vi r)]) (fun _ => [osl TB vb G1 d1 on1, blk q8 (gridC p.rows p.width G1 on1.length d1) TGr, blk bp (pcs x p) TP]) (fun r => (p.width - r).toNat) 0 ⟨by omega, by omega⟩ ?_
  rintro r ⟨hr0, hr1⟩
  by_cases hr : r < p.width
  · refine gg ?_
    refine glp (fun d : Int => d = 0) (fun d => [(0, vi 2), (3, .pointer (some ⟨bp, 0, none⟩)), (8, .pointer (some ⟨q8, 0, none⟩)), (9, vi (floTo p p.rows.toNat)), (13, vi r), (14, vi 0), (15, vi d)]) (fun _ => [osl TB vb G1 d1 on1, blk q8 (gridC p.rows p.width G1 on1.length d1) TGr, blk bp (pcs x p) TP]) (fun d => 0) 0 rfl ?_
    rintro d rfl
    refine gg ?_
    exact gnx (r + 1) ⟨by omega, by omega⟩ (by omega)
  obtain rfl : r = p.width := by omega
  refine gg ?_
  exact grt () trivial
theorem refFloor3_c (w : World) (hp : RdP w x p) (hm : May p) (he : thE 3 p = 0) :
    Calls Try.prog 31 [vi 3, pvl x p].toArray w (one (.tuple #[vi (floorS 3 p), vi 0]) w) := by
  have op := hp.old
  obtain ⟨h1, h2, h3, h4, h5, h6, h7, h8⟩ := hm.toHead
  have hmt : May (turnP p) := may_turn hm
  have HG := hmt.toHead
  have hsm := hmt.small
  have hGr : ((turnP p)).rows = p.width := rows_turn hm
  have hS : floorS 3 p = if p.rows = 0 then 0 else floTo (turnP p) ((turnP p)).rows.toNat := by
    unfold floorS
    rw [show thN 3 p = p.rows from if_neg (by decide), if_neg (show ¬ (3 : Int) = 2 by decide), if_pos rfl, rows_turn hm]
  rw [hS, hGr]
  have hth : ∀ w, RdP w x p → _ := fun w h => things_c (p := p) (x := x) (k := 3) w h
  rw [if_pos he, he, show thN 3 p = p.rows from if_neg (by decide)] at hth
  have hopen : ∀ w, RdP w x p → _ := fun w h => open_c (p := p) w h.s h.c hm
  have hcell : ∀ a b : Int, hasB (turnP p) a b = hasB p b a := has_turnB hm
  generalize thF 3 p = F at *
  obtain ⟨m0, m1⟩ := mul_small h1 h2 h3 h4
  unfold pvl patV at *
  refine calls_wc [] [] [.tmp 4, .tmp 5] (fun _ => [vi (if p.rows = 0 then 0 else floTo (turnP p) p.width.toNat), vi 0]) Try.func31 rfl rfl (fun _ => rfl) Try.ntmps31 rfl (Own.nil w) rfl ?_
  refine gg ?_
  refine wl_op (ok_box rfl rfl rfl rfl rfl ?_); intro bp
  refine gg ?_
  refine gc3 [] (fun w hst hst1 => hth w (op.now hst)) (by exact rfl) ?_
  (repeat (first | refine gk1 ?_ | refine gk2 ?_ | refine gk3 ?_ | refine gk0 ?_ | refine gk4 ?_))
  rintro y _
  dsimp only [List.cons_append, List.nil_append]
  refine gg ?_
  refine wl_op (ok_alloc rfl rfl rfl rfl (ze_of rfl) ?_); intro q6
  refine gg ?_
  by_cases hz : p.rows = 0
  · rw [if_pos hz]
    refine gg ?_
    exact grt () trivial
  rw [if_neg hz]
  refine gg ?_
  refine gc3 [] (fun w hst hst1 => hopen w (op.now hst)) (by exact rfl) ?_
  (repeat (first | refine gk1 ?_ | refine gk2 ?_ | refine gk3 ?_ | refine gk0 ?_ | refine gk4 ?_))
  rintro ⟨G1, d1, on1⟩ hg1
  dsimp only [List.cons_append, List.nil_append] at hg1 ⊢
  have hgl1 := hg1.len
  refine wl_op (ok_alloc rfl rfl rfl rfl (ze_of rfl) ?_); intro q8
  refine gg ?_
  refine glp (fun r : Int => 0 ≤ r ∧ r ≤ p.rows) (fun r => [(0, vi 3), (3, .pointer (some ⟨bp, 0, none⟩)), (8, .pointer (some ⟨q8, 0, none⟩)), (9, vi 1), (10, vi r)]) (fun _ => [osl TB vb G1 d1 on1, blk q8 (gridC p.rows p.width G1 on1.length d1) TGr, blk bp (pcs x p) TP]) (fun r => (p.rows - r).toNat) 0 ⟨by omega, by omega⟩ ?_
  rintro r ⟨hr0, hr1⟩
  by_cases hr : r < p.rows
  · refine gg ?_
    refine glp (fun d : Int => d = 0) (fun d => [(0, vi 3), (3, .pointer (some ⟨bp, 0, none⟩)), (8, .pointer (some ⟨q8, 0, none⟩)), (9, vi 1), (10, vi r), (11, vi 0), (12, vi d)]) (fun _ => [osl TB vb G1 d1 on1, blk q8 (gridC p.rows p.width G1 on1.length d1) TGr, blk bp (pcs x p) TP]) (fun d => 0) 0 rfl ?_
    rintro d rfl
    refine gg ?_
    exact gnx (r + 1) ⟨by omega, by omega⟩ (by omega)
  obtain rfl : r = p.rows := by omega
  refine gg ?_
  refine glp (fun r : Int => 0 ≤ r ∧ r ≤ p.width) (fun r => [(0, vi 3), (3, .pointer (some ⟨bp, 0, none⟩)), (8, .pointer (some ⟨q8, 0, none⟩)), (9, vi (floTo (turnP p) r.toNat)), (13, vi r)]) (fun _ => [osl TB vb G1 d1 on1, blk q8 (gridC p.rows p.width G1 on1.length d1) TGr, blk bp (pcs x p) TP]) (fun r => (p.width - r).toNat) 0 ⟨by omega, by omega⟩ ?_
  rintro r ⟨hr0, hr1⟩
  by_cases hr : r < p.width
  · have hf := floTo_rng HG r.toNat (by omega)
    have hfn := floTo_next (g := (turnP p)) hr0
    have hrl := row_len hmt hr0 (by rw [hGr]; exact hr)
    refine gg ?_
    refine glp (fun d : Int => 0 ≤ d ∧ d ≤ p.rows) (fun d => [(0, vi 3), (3, .pointer (some ⟨bp, 0, none⟩)), (8, .pointer (some ⟨q8, 0, none⟩)), (9, vi (floTo (turnP p) r.toNat)), (13, vi r), (14, vi (rowTo (hasB (turnP p) r) d).length), (15, vi d)]) (fun _ => [osl TB vb G1 d1 on1, blk q8 (gridC p.rows p.width G1 on1.length d1) TGr, blk bp (pcs x p) TP]) (fun d => (p.rows - d).toNat) 0 ⟨by omega, by omega⟩ ?_ (hT := .cons rfl (.cons rfl (.cons rfl (.cons rfl (.cons rfl (.cons (look_to rfl (by rw [rowTo_zero]; rfl)) (.cons rfl .nil)))))))
    rintro d ⟨hd0, hd1⟩
    have hrt := rowTo_len (hasB (turnP p) r) d
    by_cases hd : d < p.rows
    · have hst := rowTo_step (f := hasB (turnP p) r) hd0 (by omega)
      have hat := hg1.at_ d r hd0 hd hr0 hr
      have lat := cell_lt hd0 hd hr0 hr
      obtain ⟨m2, m3⟩ := mul_small (x := d) (y := p.width) (by omega) (by omega) h3 h4
      rw [hcell] at hst
      refine gg ?_
      cases hb : hasB p d r with
      | true =>
        rw [hb] at hat hst
        rw [if_pos rfl] at hst
        have hln : (rowTo (hasB (turnP p) r) (d + 1)).length = (rowTo (hasB (turnP p) r) d).length + 1 := by rw [hst, List.length_append]; rfl
        refine gc1 (fun w hst => at_c (rows := p.rows) (width := p.width) (r := d) (x := r) w (grd hst) h3 h4 (by omega) (by omega) (by omega) (by omega) (by omega) _ hat) (by exact rfl) ?_
        refine gg ?_
        rw [show (((rowTo (hasB (turnP p) r) d).length : Nat) : Int) + 1 = (((rowTo (hasB (turnP p) r) (d + 1)).length : Nat) : Int) by omega]
        exact gnx (d + 1) ⟨by omega, by omega⟩ (by omega)
      | false =>
        rw [hb] at hat hst
        rw [if_neg (by simp)] at hst
        refine gc1 (fun w hst => at_c (rows := p.rows) (width := p.width) (r := d) (x := r) w (grd hst) h3 h4 (by omega) (by omega) (by omega) (by omega) (by omega) _ hat) (by exact rfl) ?_
        rw [← hst]
        refine gg ?_
        exact gnx (d + 1) ⟨by omega, by omega⟩ (by omega)
    obtain rfl : d = p.rows := by omega
    rw [rowTo_all (fun y hy => (by rw [has_turnB hm] at hy; exact ((hasB_iff.1 hy).in_ hm).1.2)), hrl]
    rw [rowTo_all (fun y hy => (by rw [has_turnB hm] at hy; exact ((hasB_iff.1 hy).in_ hm).1.2))] at hrt
    by_cases hgt : floTo (turnP p) r.toNat < gt ((turnP p)).start (r + 1) - gt ((turnP p)).start r
    · rw [show max (floTo (turnP p) r.toNat) (gt ((turnP p)).start (r + 1) - gt ((turnP p)).start r) = gt ((turnP p)).start (r + 1) - gt ((turnP p)).start r by omega] at hfn
      refine gg ?_
      rw [← hfn]
      exact gnx (r + 1) ⟨by omega, by omega⟩ (by omega)
    · rw [show max (floTo (turnP p) r.toNat) (gt ((turnP p)).start (r + 1) - gt ((turnP p)).start r) = floTo (turnP p) r.toNat by omega] at hfn
      refine gg ?_
      rw [← hfn]
      exact gnx (r + 1) ⟨by omega, by omega⟩ (by omega)
  obtain rfl : r = p.width := by omega
  have hfl := floTo_rng HG (p.width).toNat (by omega)
  refine gg ?_
  exact grt () trivial
end
theorem thE_zero {kd : Int} {p : Pat} (he : thE kd p = 0) : May p ∧ (((kd = 1 ∨ kd = 4 ∨ kd = 5) ∧ IsGr p) ∨ kd = 2 ∨ kd = 3) := by
  unfold thE at he
  by_cases hm : May p
  · rw [if_neg (not_not_intro hm)] at he
    refine ⟨hm, ?_⟩
    by_cases h23 : kd = 2 ∨ kd = 3
    · exact .inr h23
    · rw [if_neg h23] at he
      by_cases h145 : kd = 1 ∨ kd = 4 ∨ kd = 5
      · rw [if_pos h145] at he
        by_cases hg : IsGr p
        · exact .inl ⟨h145, hg⟩
        · rw [if_neg hg] at he; exact absurd he (by decide)
      · rw [if_neg h145] at he; exact absurd he (by decide)
  · rw [if_pos hm] at he; exact absurd he (by decide)
open Classical in
theorem cols_facts {p : Pat} (hm : May p) : May (colsS p).1 ∧ (colsS p).1.rows = p.width ∧ (colsS p).1.width = p.width ∧ hasB (colsS p).1 = meetC p := by
  obtain ⟨h1, h2, h3, h4, h5, h6, h7, h8⟩ := hm.toHead
  rw [show colsS p = (shutP p.width.toNat p.width (meetC p), 0) from if_pos hm]
  have hw := meetC_within hm
  refine ⟨shut_may (by omega) (by omega) (by omega) hw, by show ((p.width.toNat : Nat) : Int) = _; omega, rfl, ?_⟩
  funext a b
  rw [Bool.eq_iff_iff, hasB_iff, has_shut (by omega) hw]
  refine ⟨fun h => h.2, fun h => ⟨?_, h⟩⟩
  unfold meetC at h
  rw [decide_eq_true_iff] at h
  obtain ⟨_, k, h1, _⟩ := h
  have := h1.in_ hm
  omega
open Classical in
theorem rows_facts {p : Pat} (hm : May p) : May (rowsS p).1 ∧ (rowsS p).1.rows = p.rows ∧ (rowsS p).1.width = p.rows ∧ hasB (rowsS p).1 = meetB p := by
  obtain ⟨h1, h2, h3, h4, h5, h6, h7, h8⟩ := hm.toHead
  rw [show rowsS p = (shutP p.rows.toNat p.rows (meetB p), 0) from if_pos hm]
  have hw := meetB_within hm
  refine ⟨shut_may (by omega) (by omega) (by omega) hw, by show ((p.rows.toNat : Nat) : Int) = _; omega, rfl, ?_⟩
  funext a b
  rw [Bool.eq_iff_iff, hasB_iff, has_shut (by omega) hw]
  refine ⟨fun h => h.2, fun h => ⟨?_, h⟩⟩
  unfold meetB at h
  rw [decide_eq_true_iff] at h
  obtain ⟨_, k, h1, _⟩ := h
  have := h1.in_ hm
  omega
section
variable {p : Pat} {x : PA} {kd : Int} {A : Option Addr} {c n : Nat} {l : List Int}
theorem ordNG_c (w : World) (hp : RdP w x p) (hl : Rds vi w A c l) (hm : May p) (hg : IsGr p) (hk : kd = 1 ∨ kd = 4 ∨ kd = 5) (ho : ¬ IsOrd l p.rows) :
    Calls Try.prog 60 [vi kd, pvl x p, .slice A l.length c].toArray w (one (.tuple #[.pointer none, vi 182]) w) := by
  have op := hp.old
  have oL := hl.old
  obtain ⟨h1, h2, h3, h4, h5, h6, h7, h8⟩ := hm.toHead
  have htk : ∀ w, RdP w x p → _ := fun w h => takenG_c (k := kd) w h hm hg hk
  unfold pvl patV at *
  refine calls_wc [] [] [.tmp 6, .tmp 7] (fun _ => [.pointer none, vi 182]) Try.func60 rfl rfl (fun _ => rfl) Try.ntmps60 rfl (Own.nil w) rfl ?_
  refine gg ?_
  refine wl_op (ok_box rfl rfl rfl rfl rfl ?_); intro bp
  refine gg ?_
  refine gc3 [] (fun w hst hst1 => htk w (op.now hst)) (by exact rfl) ?_
  (repeat (first | refine gk1 ?_ | refine gk2 ?_ | refine gk3 ?_ | refine gk0 ?_ | refine gk4 ?_))
  rintro t _
  dsimp only [List.cons_append, List.nil_append]
  refine gg ?_
  refine gc1 (fun w hst => ordCheck_c (n := p.rows) w (oL.now hst) h1 h2 182 (by simp [ho])) (by exact rfl) ?_
  refine gg ?_
  exact grt () trivial
theorem ordNcols_c (w : World) (hp : RdP w x p) (hl : Rds vi w A c l) (hm : May p) (hk : kd = 2) (ho : ¬ IsOrd l (colsS p).1.rows) :
    Calls Try.prog 60 [vi kd, pvl x p, .slice A l.length c].toArray w (one (.tuple #[.pointer none, vi 182]) w) := by
  have op := hp.old
  have oL := hl.old
  have g1 := (cols_facts hm).1.toHead.r0
  have g2 := (cols_facts hm).1.toHead.r1
  have htk : ∀ w, RdP w x p → _ := fun w h => takencols_c (k := kd) w h hm hk
  generalize (colsS p).1 = q at *
  unfold pvl patV at *
  refine calls_wc [] [] [.tmp 6, .tmp 7] (fun _ => [.pointer none, vi 182]) Try.func60 rfl rfl (fun _ => rfl) Try.ntmps60 rfl (Own.nil w) rfl ?_
  refine gg ?_
  refine wl_op (ok_box rfl rfl rfl rfl rfl ?_); intro bp
  refine gg ?_
  refine gc3 [] (fun w hst hst1 => htk w (op.now hst)) (by exact rfl) ?_
  (repeat (first | refine gk1 ?_ | refine gk2 ?_ | refine gk3 ?_ | refine gk0 ?_ | refine gk4 ?_))
  rintro t _
  dsimp only [List.cons_append, List.nil_append]
  refine gg ?_
  refine gc1 (fun w hst => ordCheck_c (n := q.rows) w (oL.now hst) g1 g2 182 (by simp [ho])) (by exact rfl) ?_
  refine gg ?_
  exact grt () trivial
theorem ordNrows_c (w : World) (hp : RdP w x p) (hl : Rds vi w A c l) (hm : May p) (hk : kd = 3) (ho : ¬ IsOrd l (rowsS p).1.rows) :
    Calls Try.prog 60 [vi kd, pvl x p, .slice A l.length c].toArray w (one (.tuple #[.pointer none, vi 182]) w) := by
  have op := hp.old
  have oL := hl.old
  have g1 := (rows_facts hm).1.toHead.r0
  have g2 := (rows_facts hm).1.toHead.r1
  have htk : ∀ w, RdP w x p → _ := fun w h => takenrows_c (k := kd) w h hm hk
  generalize (rowsS p).1 = q at *
  unfold pvl patV at *
  refine calls_wc [] [] [.tmp 6, .tmp 7] (fun _ => [.pointer none, vi 182]) Try.func60 rfl rfl (fun _ => rfl) Try.ntmps60 rfl (Own.nil w) rfl ?_
  refine gg ?_
  refine wl_op (ok_box rfl rfl rfl rfl rfl ?_); intro bp
  refine gg ?_
  refine gc3 [] (fun w hst hst1 => htk w (op.now hst)) (by exact rfl) ?_
  (repeat (first | refine gk1 ?_ | refine gk2 ?_ | refine gk3 ?_ | refine gk0 ?_ | refine gk4 ?_))
  rintro t _
  dsimp only [List.cons_append, List.nil_append]
  refine gg ?_
  refine gc1 (fun w hst => ordCheck_c (n := q.rows) w (oL.now hst) g1 g2 182 (by simp [ho])) (by exact rfl) ?_
  refine gg ?_
  exact grt () trivial
/-- Bound where ordered refuses -/
theorem boundX_c (w : World) (hp : RdP w x p) (hl : Rds vi w A c l) (e : Int) (hne : e ≠ 0) (hord : ∀ w', RdP w' x p → Rds vi w' A c l → Calls Try.prog 60 [vi kd, pvl x p, .slice A l.length c].toArray w' (one (.tuple #[.pointer none, vi e]) w')) :
    Calls Try.prog 28 [vi kd, pvl x p, .slice A l.length c].toArray w (one (.tuple #[vi 0, vi e]) w) := by
  have op := hp.old
  have oL := hl.old
  unfold pvl patV at *
  refine calls_wc [] [] [.tmp 6, .tmp 7] (fun _ => [vi 0, vi e]) Try.func28 rfl rfl (fun _ => rfl) Try.ntmps28 rfl (Own.nil w) rfl ?_
  refine gg ?_
  refine wl_op (ok_box rfl rfl rfl rfl rfl ?_); intro bp
  refine gg ?_
  refine gc1 (fun w hst => hord w (op.now hst) (oL.now hst)) (by exact rfl) ?_
  refine gg ?_
  exact grt () trivial
open Classical in
noncomputable def boundS (kd : Int) (p : Pat) (l : List Int) : Int × Int := if thE kd p ≠ 0 then (0, thE kd p) else if ¬ IsOrd l (thN kd p) then (0, 182) else (bndTo kd (thF kd p) (thN kd p).toNat l (thN kd p).toNat, 0)
open Classical in
noncomputable def floorE (kd : Int) (p : Pat) : Int × Int := if thE kd p ≠ 0 then (0, thE kd p) else (floorS kd p, 0)
theorem bound_c (w : World) (hp : RdP w x p) (hl : Rds vi w A c l) :
    Calls Try.prog 28 [vi kd, pvl x p, .slice A l.length c].toArray w (one (.tuple #[vi (boundS kd p l).1, vi (boundS kd p l).2]) w) := by
  have op := hp.old
  have oL := hl.old
  by_cases he : thE kd p = 0
  · obtain ⟨hm, hk⟩ := thE_zero he
    have h0 := hm.toHead.r0
    have hw0 := hm.toHead.w0
    by_cases ho : IsOrd l (thN kd p)
    · have hS : boundS kd p l = (bndTo kd (thF kd p) (thN kd p).toNat l (thN kd p).toNat, 0) := by
        unfold boundS; rw [if_neg (not_not_intro he), if_neg (not_not_intro ho)]
      rw [hS]
      rcases hk with ⟨hk, hg⟩ | hk | hk
      · have k2 : kd ≠ 2 := by omega
        have k3 : kd ≠ 3 := by omega
        rw [show thN kd p = p.rows from if_neg k2] at ho ⊢
        rw [show thF kd p = hasB p from (if_neg k2).trans (if_neg k3)]
        exact bound_ok (n := p.rows.toNat) (R := fun _ => []) (yf := fun _ => x) w hm (by omega) hg.1.2.1 hl (by rw [show ((p.rows.toNat : Nat) : Int) = p.rows by omega]; exact ho)
          (fun w' ho' => ordG_c w' ⟨hp.s.only ho', hp.c.only ho'⟩ (hl.only ho') hm hg hk ho) (fun t => RdB.nil op)
      · obtain ⟨f1, f2, f3, f4⟩ := cols_facts hm
        have e1 : thN kd p = (colsS p).1.rows := by rw [f2]; exact if_pos hk
        rw [e1] at ho ⊢
        rw [show thF kd p = hasB (colsS p).1 by rw [f4]; exact if_pos hk]
        exact bound_ok (n := (colsS p).1.rows.toNat) (R := fun t => PatR t.y (colsS p).1) (yf := fun t => t.y) w f1 (by omega) (by omega) hl (by rw [show (((colsS p).1.rows.toNat : Nat) : Int) = (colsS p).1.rows by omega]; exact ho)
          (fun w' ho' => ordcols_c w' ⟨hp.s.only ho', hp.c.only ho'⟩ (hl.only ho') hm hk ho) (fun t => RdB.own)
      · obtain ⟨f1, f2, f3, f4⟩ := rows_facts hm
        have e1 : thN kd p = (rowsS p).1.rows := by rw [f2]; exact if_neg (by omega)
        rw [e1] at ho ⊢
        rw [show thF kd p = hasB (rowsS p).1 by rw [f4]; exact (if_neg (by omega)).trans (if_pos hk)]
        exact bound_ok (n := (rowsS p).1.rows.toNat) (R := fun t => PatR t.y (rowsS p).1) (yf := fun t => t.y) w f1 (by omega) (by omega) hl (by rw [show (((rowsS p).1.rows.toNat : Nat) : Int) = (rowsS p).1.rows by omega]; exact ho)
          (fun w' ho' => ordrows_c w' ⟨hp.s.only ho', hp.c.only ho'⟩ (hl.only ho') hm hk ho) (fun t => RdB.own)
    · have hS : boundS kd p l = (0, 182) := by
        unfold boundS; rw [if_neg (not_not_intro he), if_pos ho]
      rw [hS]
      refine boundX_c w hp hl 182 (by decide) fun w' hp' hl' => ?_
      rcases hk with ⟨hk, hg⟩ | hk | hk
      · rw [show thN kd p = p.rows from if_neg (by omega)] at ho
        exact ordNG_c w' hp' hl' hm hg hk ho
      · rw [show thN kd p = (colsS p).1.rows by rw [(cols_facts hm).2.1]; exact if_pos hk] at ho
        exact ordNcols_c w' hp' hl' hm hk ho
      · rw [show thN kd p = (rowsS p).1.rows by rw [(rows_facts hm).2.1]; exact if_neg (by omega)] at ho
        exact ordNrows_c w' hp' hl' hm hk ho
  · have hS : boundS kd p l = (0, thE kd p) := by unfold boundS; rw [if_pos he]
    rw [hS]
    exact boundX_c w hp hl (thE kd p) he fun w' hp' hl' => ordE_c w' hp' he
theorem refBound_c (w : World) (hp : RdP w x p) (hl : Rds vi w A c l) :
    Calls Try.prog 29 [vi kd, pvl x p, .slice A l.length c].toArray w (one (.tuple #[vi (boundS kd p l).1, vi (boundS kd p l).2]) w) := by
  by_cases he : thE kd p = 0
  · obtain ⟨hm, hk⟩ := thE_zero he
    obtain ⟨h1, h2, h3, h4, h5, h6, h7, h8⟩ := hm.toHead
    have hN : 0 ≤ thN kd p ∧ thN kd p ≤ 128 := by unfold thN; split <;> omega
    by_cases ho : IsOrd l (thN kd p)
    · have hS : boundS kd p l = (bndTo kd (thF kd p) (thN kd p).toNat l (thN kd p).toNat, 0) := by
        unfold boundS; rw [if_neg (not_not_intro he), if_neg (not_not_intro ho)]
      rw [hS]
      exact refBound_ok (n := (thN kd p).toNat) w hp hl he (by omega) (by omega) (by rw [show (((thN kd p).toNat : Nat) : Int) = thN kd p by omega]; exact ho)
    · have hS : boundS kd p l = (0, 182) := by
        unfold boundS; rw [if_neg (not_not_intro he), if_pos ho]
      rw [hS]
      exact refBoundN_c w hp hl he hN.1 hN.2 ho
  · have hS : boundS kd p l = (0, thE kd p) := by unfold boundS; rw [if_pos he]
    rw [hS]
    exact refBoundE_c w hp he
theorem floor_c (w : World) (hp : RdP w x p) : Calls Try.prog 30 [vi kd, pvl x p].toArray w (one (.tuple #[vi (floorE kd p).1, vi (floorE kd p).2]) w) := by
  by_cases he : thE kd p = 0
  · rw [show floorE kd p = (floorS kd p, 0) by unfold floorE; rw [if_neg (not_not_intro he)]]
    obtain ⟨hm, ⟨hk, hg⟩ | hk | hk⟩ := thE_zero he
    · exact floorG_c w hp hm hg hk
    · exact floorcols_c w hp hm hk
    · exact floorrows_c w hp hm hk
  · rw [show floorE kd p = (0, thE kd p) by unfold floorE; rw [if_pos he]]
    exact floorE_c w hp he
theorem refFloor_c (w : World) (hp : RdP w x p) : Calls Try.prog 31 [vi kd, pvl x p].toArray w (one (.tuple #[vi (floorE kd p).1, vi (floorE kd p).2]) w) := by
  by_cases he : thE kd p = 0
  · rw [show floorE kd p = (floorS kd p, 0) by unfold floorE; rw [if_neg (not_not_intro he)]]
    obtain ⟨hm, ⟨hk, hg⟩ | rfl | rfl⟩ := thE_zero he
    · exact refFloorG_c w hp hm he hk
    · exact refFloor2_c w hp hm he
    · exact refFloor3_c w hp hm he
  · rw [show floorE kd p = (0, thE kd p) by unfold floorE; rw [if_pos he]]
    exact refFloorE_c w hp he
theorem lawColourBounds_c (w : World) (hp : RdP w x p) (hA : Rds vi w A c l) (hl : p.start.length ≤ 17592186043904) (hl2 : p.cols.length ≤ 17592186043904) (hl3 : l.length ≤ 17592186043904) :
    Calls Try.prog 6 [vi kd, pvl x p, .slice A l.length c].toArray w (one (.bool true) w) := by
  have op := hp.old
  have oA := hA.old
  have hb : ∀ (w : World) (x : PA) (A : Option Addr) (c : Nat), RdP w x p → Rds vi w A c l → _ := fun w x A c h1 h2 => bound_c (p := p) (kd := kd) (l := l) (x := x) (A := A) (c := c) w h1 h2
  have hrb : ∀ (w : World) (x : PA) (A : Option Addr) (c : Nat), RdP w x p → Rds vi w A c l → _ := fun w x A c h1 h2 => refBound_c (p := p) (kd := kd) (l := l) (x := x) (A := A) (c := c) w h1 h2
  have hf : ∀ (w : World) (x : PA), RdP w x p → _ := fun w x h1 => floor_c (p := p) (kd := kd) (x := x) w h1
  have hrf : ∀ (w : World) (x : PA), RdP w x p → _ := fun w x h1 => refFloor_c (p := p) (kd := kd) (x := x) w h1
  generalize boundS kd p l = bz at hb hrb
  generalize floorE kd p = fz at hf hrf
  obtain ⟨bz1, bz2⟩ := bz
  obtain ⟨fz1, fz2⟩ := fz
  dsimp only at hb hrb hf hrf
  unfold pvl patV
  refine calls_wc [] [] [.tmp 6] (fun _ => [.bool true]) Try.func6 rfl rfl (fun _ => rfl) Try.ntmps6 rfl (Own.nil w) rfl ?_
  refine gg ?_
  refine wl_op (ok_box rfl rfl rfl rfl rfl ?_); intro bp
  refine wl_none TIs sv ?_
  refine wl_none TIs sv ?_
  refine gg ?_
  refine wl_op (ok_alloc rfl rfl rfl rfl (ze_of rfl) ?_); intro g
  refine wl_giv (g := g) ?_
  (repeat (first | refine gk1 ?_ | refine gk2 ?_ | refine gk3 ?_ | refine gk0 ?_ | refine gk4 ?_))
  refine gg ?_
  refine gc3 [bun (Giv g ⟨none, 0, none, 0, []⟩)] (fun w hst hst1 => gpat_c (p := p) (x := x) ⟨none, 0, none, 0, []⟩ w (op.later (bun_out1 hst1)) hl hl2 (by simp) (bun_out1 hst1).own) (by exact rfl) ?_
  (repeat (first | refine gk1 ?_ | refine gk2 ?_ | refine gk3 ?_ | refine gk0 ?_ | refine gk4 ?_))
  rintro ⟨z1, e1, f1⟩ ⟨h1a, h1b, h1c⟩
  dsimp only [List.cons_append, List.nil_append] at h1a h1b h1c ⊢
  refine gg ?_
  refine gc3 [bun (Giv g z1)] (fun w hst hst1 => gints_c (l := l) z1 w (oA.later (bun_out1 hst1)) hl3 (by rw [h1a]; simp) (bun_out1 hst1).own) (by exact rfl) ?_
  (repeat (first | refine gk1 ?_ | refine gk2 ?_ | refine gk3 ?_ | refine gk0 ?_ | refine gk4 ?_))
  rintro ⟨z2, e2⟩ ⟨h2a, h2b⟩
  dsimp only [List.cons_append, List.nil_append] at h2a h2b ⊢
  have me1 : e1 ∈ z2.es := by rw [h2a, h1a]; simp
  have mf1 : f1 ∈ z2.es := by rw [h2a, h1a]; simp
  have me2 : e2 ∈ z2.es := by rw [h2a]; simp
  refine gc1 (fun w hst => hb w ⟨e1.A, e1.c, f1.A, f1.c⟩ e2.A e2.c (grdG hst me1 mf1 h1b h1c) (grdI hst me2 h2b)) (by exact rfl) ?_
  refine gg ?_
  refine gc1 (fun w hst => hrb w x A c (op.now hst) (oA.now hst)) (by exact rfl) ?_
  refine gg ?_
  refine gc3 [bun (Giv g z2)] (fun w hst hst1 => gpat_c (p := p) (x := x) z2 w (op.later (bun_out1 hst1)) hl hl2 (by rw [h2a, h1a]; simp) (bun_out1 hst1).own) (by exact rfl) ?_
  (repeat (first | refine gk1 ?_ | refine gk2 ?_ | refine gk3 ?_ | refine gk0 ?_ | refine gk4 ?_))
  rintro ⟨z3, e3, f3⟩ ⟨h3a, h3b, h3c⟩
  dsimp only [List.cons_append, List.nil_append] at h3a h3b h3c ⊢
  have me3 : e3 ∈ z3.es := by rw [h3a]; simp
  have mf3 : f3 ∈ z3.es := by rw [h3a]; simp
  refine gc1 (fun w hst => hf w ⟨e3.A, e3.c, f3.A, f3.c⟩ (grdG hst me3 mf3 h3b h3c)) (by exact rfl) ?_
  refine gg ?_
  refine gc1 (fun w hst => hrf w x (op.now hst)) (by exact rfl) ?_
  refine gg ?_
  refine gc1 (fun w hst => num_c _ w) (by exact rfl) ?_
  refine gg ?_
  refine gc1 (fun w hst => num_c _ w) (by exact rfl) ?_
  refine gg ?_
  refine gc3 [bun (Giv g z3)] (fun w hst hst1 => gintact_c z3 w (by rw [h3a, h2a, h1a]; simp) (bun_out1 hst1).own) (by exact rfl) ?_
  (repeat (first | refine gk1 ?_ | refine gk2 ?_ | refine gk3 ?_ | refine gk0 ?_ | refine gk4 ?_))
  rintro _ _
  dsimp only [List.cons_append, List.nil_append]
  refine gg ?_
  refine gc1 (fun w hst => alive_c w) (by exact rfl) ?_
  refine gg ?_
  exact grt () trivial
end
end Go.Proofs.Ytoiiellaoikojaa
