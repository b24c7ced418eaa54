/- Walks: colours: the reference's Floor; orders refused; the law ColourBounds. -/
import Derived.Test.YtoiiellaoikojaaM3
set_option linter.unusedVariables false
set_option linter.unusedSimpArgs false
set_option maxHeartbeats 8000000
namespace Go.Proofs.Ytoiiellaoikojaa
open Go.RowKit
section
variable {p : Pat} {x : PA} {kd : Int} {A : Option Addr} {c n : Nat} {l : List Int}
theorem refFloorG_c (w : World) (hp : RdP w x p) (hm : May p) (he : thE kd p = 0) (hk : kd = 1 ∨ kd = 4 ∨ kd = 5) :
    Calls Try.prog 31 [vi kd, pvl x p].toArray w (one (.tuple #[vi (floorS kd p), vi 0]) w) := by
  have op := hp.old
  have k2 : kd ≠ 2 := by omega
  have k3 : kd ≠ 3 := by omega
  have hS : floorS kd p = if p.rows = 0 then 0 else if 0 < p.cols.length then 2 else 1 := by
    unfold floorS thN
    rw [if_neg k2, if_neg k2, if_neg k3]
  rw [hS]
  have hth : ∀ w, RdP w x p → _ := fun w h => things_c (p := p) (x := x) (k := kd) w h
  rw [if_pos he, he, show thN kd p = p.rows from if_neg k2] at hth
  generalize thF kd p = F at *
  unfold pvl patV at *
  refine calls_wc [] [] [.tmp 4, .tmp 5] (fun _ => [vi (if p.rows = 0 then 0 else if 0 < p.cols.length then 2 else 1), vi 0]) Try.func31 rfl rfl (fun _ => rfl) Try.ntmps31 rfl (Own.nil w) rfl ?_
  refine gg ?_
  refine wl_op (ok_box rfl rfl rfl rfl rfl ?_); intro bp
  refine gg ?_
  refine gc3 [] (fun w hst hst1 => hth w (op.now hst)) (by exact rfl) ?_
  (repeat (first | refine gk1 ?_ | refine gk2 ?_ | refine gk3 ?_ | refine gk0 ?_ | refine gk4 ?_))
  rintro y _
  dsimp only [List.cons_append, List.nil_append]
  refine gg ?_
  refine wl_op (ok_alloc rfl rfl rfl rfl (ze_of rfl) ?_); intro q6
  refine gg ?_
  by_cases hz : p.rows = 0
  · rw [if_pos hz]
    refine gg ?_
    exact grt () trivial
  rw [if_neg hz]
  by_cases hc : 0 < p.cols.length
  · rw [if_pos hc]
    refine gg ?_
    exact grt () trivial
  · rw [if_neg hc]
    refine gg ?_
    exact grt () trivial
theorem refFloor2_c (w : World) (hp : RdP w x p) (hm : May p) (he : thE 2 p = 0) :
    Calls Try.prog 31 [vi 2, pvl x p].toArray w (one (.tuple #[vi (floorS 2 p), vi 0]) w) := by
  have op := hp.old
  obtain ⟨h1, h2, h3, h4, h5, h6, h7, h8⟩ := hm.toHead
  have hmt : May p := hm
  have HG := hmt.toHead
  have hsm := hmt.small
  have hGr : (p).rows = p.rows := rfl
  have hS : floorS 2 p = if p.width = 0 then 0 else floTo p (p).rows.toNat := by
    unfold floorS
    rw [show thN 2 p = p.width from if_pos rfl, if_pos rfl]
  rw [hS, hGr]
  have hth : ∀ w, RdP w x p → _ := fun w h => things_c (p := p) (x := x) (k := 2) w h
  rw [if_pos he, he, show thN 2 p = p.width from if_pos rfl] at hth
  have hopen : ∀ w, RdP w x p → _ := fun w h => open_c (p := p) w h.s h.c hm
  have hcell : ∀ a b : Int, hasB p a b = hasB p a b := fun _ _ => rfl
  generalize thF 2 p = F at *
  obtain ⟨m0, m1⟩ := mul_small h1 h2 h3 h4
  unfold pvl patV at *
  refine calls_wc [] [] [.tmp 4, .tmp 5] (fun _ => [vi (if p.width = 0 then 0 else floTo p p.rows.toNat), vi 0]) Try.func31 rfl rfl (fun _ => rfl) Try.ntmps31 rfl (Own.nil w) rfl ?_
  refine gg ?_
  refine wl_op (ok_box rfl rfl rfl rfl rfl ?_); intro bp
  refine gg ?_
  refine gc3 [] (fun w hst hst1 => hth w (op.now hst)) (by exact rfl) ?_
  (repeat (first | refine gk1 ?_ | refine gk2 ?_ | refine gk3 ?_ | refine gk0 ?_ | refine gk4 ?_))
  rintro y _
  dsimp only [List.cons_append, List.nil_append]
  refine gg ?_
  refine wl_op (ok_alloc rfl rfl rfl rfl (ze_of rfl) ?_); intro q6
  refine gg ?_
  by_cases hz : p.width = 0
  · rw [if_pos hz]
    refine gg ?_
    exact grt () trivial
  rw [if_neg hz]
  refine gg ?_
  refine gc3 [] (fun w hst hst1 => hopen w (op.now hst)) (by exact rfl) ?_
  (repeat (first | refine gk1 ?_ | refine gk2 ?_ | refine gk3 ?_ | refine gk0 ?_ | refine gk4 ?_))
  rintro ⟨G1, d1, on1⟩ hg1
  dsimp only [List.cons_append, List.nil_append] at hg1 ⊢
  have hgl1 := hg1.len
  refine wl_op (ok_alloc rfl rfl rfl rfl (ze_of rfl) ?_); intro q8
  refine gg ?_
  refine glp (fun r : Int => 0 ≤ r ∧ r ≤ p.rows) (fun r => [(0, vi 2), (3, .pointer (some ⟨bp, 0, none⟩)), (8, .pointer (some ⟨q8, 0, none⟩)), (9, vi (floTo p r.toNat)), (10, vi r)]) (fun _ => [osl TB vb G1 d1 on1, blk q8 (gridC p.rows p.width G1 on1.length d1) TGr, blk bp (pcs x p) TP]) (fun r => (p.rows - r).toNat) 0 ⟨by omega, by omega⟩ ?_
  rintro r ⟨hr0, hr1⟩
  by_cases hr : r < p.rows
  · have hf := floTo_rng HG r.toNat (by omega)
    have hfn := floTo_next (g := p) hr0
    have hrl := row_len hmt hr0 (by rw [hGr]; exact hr)
    refine gg ?_
    refine glp (fun d : Int => 0 ≤ d ∧ d ≤ p.width) (fun d => [(0, vi 2), (3, .pointer (some ⟨bp, 0, none⟩)), (8, .pointer (some ⟨q8, 0, none⟩)), (9, vi (floTo p r.toNat)), (10, vi r), (11, vi (rowTo (hasB p r) d).length), (12, vi d)]) (fun _ => [osl TB vb G1 d1 on1, blk q8 (gridC p.rows p.width G1 on1.length d1) TGr, blk bp (pcs x p) TP]) (fun d => (p.width - d).toNat) 0 ⟨by omega, by omega⟩ ?_ (hT := .cons rfl (.cons rfl (.cons rfl (.cons rfl (.cons rfl (.cons (look_to rfl (by rw [rowTo_zero]; rfl)) (.cons rfl .nil)))))))
    rintro d ⟨hd0, hd1⟩
    have hrt := rowTo_len (hasB p r) d
    by_cases hd : d < p.width
    · have hst := rowTo_step (f := hasB p r) hd0 (by omega)
      have hat := hg1.at_ r d hr0 hr hd0 hd
      have lat := cell_lt hr0 hr hd0 hd
      obtain ⟨m2, m3⟩ := mul_small (x := r) (y := p.width) (by omega) (by omega) h3 h4
      rw [hcell] at hst
      refine gg ?_
      cases hb : hasB p r d with
      | true =>
        rw [hb] at hat hst
        rw [if_pos rfl] at hst
        have hln : (rowTo (hasB p r) (d + 1)).length = (rowTo (hasB p r) d).length + 1 := by rw [hst, List.length_append]; rfl
        refine gc1 (fun w hst => at_c (rows := p.rows) (width := p.width) (r := r) (x := d) w (grd hst) h3 h4 (by omega) (by omega) (by omega) (by omega) (by omega) _ hat) (by exact rfl) ?_
        refine gg ?_
        rw [show (((rowTo (hasB p r) d).length : Nat) : Int) + 1 = (((rowTo (hasB p r) (d + 1)).length : Nat) : Int) by omega]
        exact gnx (d + 1) ⟨by omega, by omega⟩ (by omega)
      | false =>
        rw [hb] at hat hst
        rw [if_neg (by simp)] at hst
        refine gc1 (fun w hst => at_c (rows := p.rows) (width := p.width) (r := r) (x := d) w (grd hst) h3 h4 (by omega) (by omega) (by omega) (by omega) (by omega) _ hat) (by exact rfl) ?_
        rw [← hst]
        refine gg ?_
        exact gnx (d + 1) ⟨by omega, by omega⟩ (by omega)
    obtain rfl : d = p.width := by omega
    rw [rowTo_all (fun y hy => ((hasB_iff.1 hy).in_ hm).2.2), hrl]
    rw [rowTo_all (fun y hy => ((hasB_iff.1 hy).in_ hm).2.2)] at hrt
    by_cases hgt : floTo p r.toNat < gt (p).start (r + 1) - gt (p).start r
    · rw [show max (floTo p r.toNat) (gt (p).start (r + 1) - gt (p).start r) = gt (p).start (r + 1) - gt (p).start r by omega] at hfn
      refine gg ?_
      rw [← hfn]
      exact gnx (r + 1) ⟨by omega, by omega⟩ (by omega)
    · rw [show max (floTo p r.toNat) (gt (p).start (r + 1) - gt (p).start r) = floTo p r.toNat by omega] at hfn
      refine gg ?_
      rw [← hfn]
      exact gnx (r + 1) ⟨by omega, by omega⟩ (by omega)
  obtain rfl : r = p.rows := by omega
  have hfl := floTo_rng HG (p.rows).toNat (by omega)
  refine gg ?_
  refine glp (fun r : Int => 0 ≤ r ∧ r ≤ p.width) (fun r => [(0, vi 2), (3, .pointer (some ⟨bp, 0, none⟩)), (8, .pointer (some ⟨q8, 0, none⟩)), (9, vi (floTo p p.rows.toNat)), (13, vi r)]) (fun _ => [osl TB vb G1 d1 on1, blk q8 (gridC p.rows p.width G1 on1.length d1) TGr, blk bp (pcs x p) TP]) (fun r => (p.width - r).toNat) 0 ⟨by omega, by omega⟩ ?_
  rintro r ⟨hr0, hr1⟩
  by_cases hr : r < p.width
  · refine gg ?_
    refine glp (fun d : Int => d = 0) (fun d => [(0, vi 2), (3, .pointer (some ⟨bp, 0, none⟩)), (8, .pointer (some ⟨q8, 0, none⟩)), (9, vi (floTo p p.rows.toNat)), (13, vi r), (14, vi 0), (15, vi d)]) (fun _ => [osl TB vb G1 d1 on1, blk q8 (gridC p.rows p.width G1 on1.length d1) TGr, blk bp (pcs x p) TP]) (fun d => 0) 0 rfl ?_
    rintro d rfl
    refine gg ?_
    exact gnx (r + 1) ⟨by omega, by omega⟩ (by omega)
  obtain rfl : r = p.width := by omega
  refine gg ?_
  exact grt () trivial
theorem refFloor3_c (w : World) (hp : RdP w x p) (hm : May p) (he : thE 3 p = 0) :
    Calls Try.prog 31 [vi 3, pvl x p].toArray w (one (.tuple #[vi (floorS 3 p), vi 0]) w) := by
  have op := hp.old
  obtain ⟨h1, h2, h3, h4, h5, h6, h7, h8⟩ := hm.toHead
  have hmt : May (turnP p) := may_turn hm
  have HG := hmt.toHead
  have hsm := hmt.small
  have hGr : ((turnP p)).rows = p.width := rows_turn hm
  have hS : floorS 3 p = if p.rows = 0 then 0 else floTo (turnP p) ((turnP p)).rows.toNat := by
    unfold floorS
    rw [show thN 3 p = p.rows from if_neg (by decide), if_neg (show ¬ (3 : Int) = 2 by decide), if_pos rfl, rows_turn hm]
  rw [hS, hGr]
  have hth : ∀ w, RdP w x p → _ := fun w h => things_c (p := p) (x := x) (k := 3) w h
  rw [if_pos he, he, show thN 3 p = p.rows from if_neg (by decide)] at hth
  have hopen : ∀ w, RdP w x p → _ := fun w h => open_c (p := p) w h.s h.c hm
  have hcell : ∀ a b : Int, hasB (turnP p) a b = hasB p b a := has_turnB hm
  generalize thF 3 p = F at *
  obtain ⟨m0, m1⟩ := mul_small h1 h2 h3 h4
  unfold pvl patV at *
  refine calls_wc [] [] [.tmp 4, .tmp 5] (fun _ => [vi (if p.rows = 0 then 0 else floTo (turnP p) p.width.toNat), vi 0]) Try.func31 rfl rfl (fun _ => rfl) Try.ntmps31 rfl (Own.nil w) rfl ?_
  refine gg ?_
  refine wl_op (ok_box rfl rfl rfl rfl rfl ?_); intro bp
  refine gg ?_
  refine gc3 [] (fun w hst hst1 => hth w (op.now hst)) (by exact rfl) ?_
  (repeat (first | refine gk1 ?_ | refine gk2 ?_ | refine gk3 ?_ | refine gk0 ?_ | refine gk4 ?_))
  rintro y _
  dsimp only [List.cons_append, List.nil_append]
  refine gg ?_
  refine wl_op (ok_alloc rfl rfl rfl rfl (ze_of rfl) ?_); intro q6
  refine gg ?_
  by_cases hz : p.rows = 0
  · rw [if_pos hz]
    refine gg ?_
    exact grt () trivial
  rw [if_neg hz]
  refine gg ?_
  refine gc3 [] (fun w hst hst1 => hopen w (op.now hst)) (by exact rfl) ?_
  (repeat (first | refine gk1 ?_ | refine gk2 ?_ | refine gk3 ?_ | refine gk0 ?_ | refine gk4 ?_))
  rintro ⟨G1, d1, on1⟩ hg1
  dsimp only [List.cons_append, List.nil_append] at hg1 ⊢
  have hgl1 := hg1.len
  refine wl_op (ok_alloc rfl rfl rfl rfl (ze_of rfl) ?_); intro q8
  refine gg ?_
  refine glp (fun r : Int => 0 ≤ r ∧ r ≤ p.rows) (fun r => [(0, vi 3), (3, .pointer (some ⟨bp, 0, none⟩)), (8, .pointer (some ⟨q8, 0, none⟩)), (9, vi 1), (10, vi r)]) (fun _ => [osl TB vb G1 d1 on1, blk q8 (gridC p.rows p.width G1 on1.length d1) TGr, blk bp (pcs x p) TP]) (fun r => (p.rows - r).toNat) 0 ⟨by omega, by omega⟩ ?_
  rintro r ⟨hr0, hr1⟩
  by_cases hr : r < p.rows
  · refine gg ?_
    refine glp (fun d : Int => d = 0) (fun d => [(0, vi 3), (3, .pointer (some ⟨bp, 0, none⟩)), (8, .pointer (some ⟨q8, 0, none⟩)), (9, vi 1), (10, vi r), (11, vi 0), (12, vi d)]) (fun _ => [osl TB vb G1 d1 on1, blk q8 (gridC p.rows p.width G1 on1.length d1) TGr, blk bp (pcs x p) TP]) (fun d => 0) 0 rfl ?_
    rintro d rfl
    refine gg ?_
    exact gnx (r + 1) ⟨by omega, by omega⟩ (by omega)
  obtain rfl : r = p.rows := by omega
  refine gg ?_
  refine glp (fun r : Int => 0 ≤ r ∧ r ≤ p.width) (fun r => [(0, vi 3), (3, .pointer (some ⟨bp, 0, none⟩)), (8, .pointer (some ⟨q8, 0, none⟩)), (9, vi (floTo (turnP p) r.toNat)), (13, vi r)]) (fun _ => [osl TB vb G1 d1 on1, blk q8 (gridC p.rows p.width G1 on1.length d1) TGr, blk bp (pcs x p) TP]) (fun r => (p.width - r).toNat) 0 ⟨by omega, by omega⟩ ?_
  rintro r ⟨hr0, hr1⟩
  by_cases hr : r < p.width
  · have hf := floTo_rng HG r.toNat (by omega)
    have hfn := floTo_next (g := (turnP p)) hr0
    have hrl := row_len hmt hr0 (by rw [hGr]; exact hr)
    refine gg ?_
    refine glp (fun d : Int => 0 ≤ d ∧ d ≤ p.rows) (fun d => [(0, vi 3), (3, .pointer (some ⟨bp, 0, none⟩)), (8, .pointer (some ⟨q8, 0, none⟩)), (9, vi (floTo (turnP p) r.toNat)), (13, vi r), (14, vi (rowTo (hasB (turnP p) r) d).length), (15, vi d)]) (fun _ => [osl TB vb G1 d1 on1, blk q8 (gridC p.rows p.width G1 on1.length d1) TGr, blk bp (pcs x p) TP]) (fun d => (p.rows - d).toNat) 0 ⟨by omega, by omega⟩ ?_ (hT := .cons rfl (.cons rfl (.cons rfl (.cons rfl (.cons rfl (.cons (look_to rfl (by rw [rowTo_zero]; rfl)) (.cons rfl .nil)))))))
    rintro d ⟨hd0, hd1⟩
    have hrt := rowTo_len (hasB (turnP p) r) d
    by_cases hd : d < p.rows
    · have hst := rowTo_step (f := hasB (turnP p) r) hd0 (by omega)
      have hat := hg1.at_ d r hd0 hd hr0 hr
      have lat := cell_lt hd0 hd hr0 hr
      obtain ⟨m2, m3⟩ := mul_small (x := d) (y := p.width) (by omega) (by omega) h3 h4
      rw [hcell] at hst
      refine gg ?_
      cases hb : hasB p d r with
      | true =>
        rw [hb] at hat hst
        rw [if_pos rfl] at hst
        have hln : (rowTo (hasB (turnP p) r) (d + 1)).length = (rowTo (hasB (turnP p) r) d).length + 1 := by rw [hst, List.length_append]; rfl
        refine gc1 (fun w hst => at_c (rows := p.rows) (width := p.width) (r := d) (x := r) w (grd hst) h3 h4 (by omega) (by omega) (by omega) (by omega) (by omega) _ hat) (by exact rfl) ?_
        refine gg ?_
        rw [show (((rowTo (hasB (turnP p) r) d).length : Nat) : Int) + 1 = (((rowTo (hasB (turnP p) r) (d + 1)).length : Nat) : Int) by omega]
        exact gnx (d + 1) ⟨by omega, by omega⟩ (by omega)
      | false =>
        rw [hb] at hat hst
        rw [if_neg (by simp)] at hst
        refine gc1 (fun w hst => at_c (rows := p.rows) (width := p.width) (r := d) (x := r) w (grd hst) h3 h4 (by omega) (by omega) (by omega) (by omega) (by omega) _ hat) (by exact rfl) ?_
        rw [← hst]
        refine gg ?_
        exact gnx (d + 1) ⟨by omega, by omega⟩ (by omega)
    obtain rfl : d = p.rows := by omega
    rw [rowTo_all (fun y hy => (by rw [has_turnB hm] at hy; exact ((hasB_iff.1 hy).in_ hm).1.2)), hrl]
    rw [rowTo_all (fun y hy => (by rw [has_turnB hm] at hy; exact ((hasB_iff.1 hy).in_ hm).1.2))] at hrt
    by_cases hgt : floTo (turnP p) r.toNat < gt ((turnP p)).start (r + 1) - gt ((turnP p)).start r
    · rw [show max (floTo (turnP p) r.toNat) (gt ((turnP p)).start (r + 1) - gt ((turnP p)).start r) = gt ((turnP p)).start (r + 1) - gt ((turnP p)).start r by omega] at hfn
      refine gg ?_
      rw [← hfn]
      exact gnx (r + 1) ⟨by omega, by omega⟩ (by omega)
    · rw [show max (floTo (turnP p) r.toNat) (gt ((turnP p)).start (r + 1) - gt ((turnP p)).start r) = floTo (turnP p) r.toNat by omega] at hfn
      refine gg ?_
      rw [← hfn]
      exact gnx (r + 1) ⟨by omega, by omega⟩ (by omega)
  obtain rfl : r = p.width := by omega
  have hfl := floTo_rng HG (p.width).toNat (by omega)
  refine gg ?_
  exact grt () trivial
end
end Go.Proofs.Ytoiiellaoikojaa
