/- Greedy of every kind but the acyclic one; the law ColourLines. -/
import Derived.Test.YtoiiellaoikojaaN1
set_option linter.unusedVariables false
set_option linter.unusedSimpArgs false
set_option maxHeartbeats 8000000
namespace Go.Proofs.Ytoiiellaoikojaa
open Go.RowKit Classical
theorem ret_val {α : Type} {σ1 : List Res} {vf vf' : α → Value} {ρ : α → List Res} {φ φ' : α → Prop} {w w' : World} {e : Ending} (h : Ret σ1 vf ρ φ w e w') (hv : ∀ x, φ x → vf x = vf' x ∧ φ' x) : Ret σ1 vf' ρ φ' w e w' := by
  obtain ⟨x, h1, h2, h3⟩ := h
  exact ⟨x, by rw [h1, (hv x h2).1], (hv x h2).2, h3⟩
theorem gr_of {g : Pat} {f : Int → Int → Bool} (hm : May g) (hsq : g.rows = g.width) (hf : hasB g = f) (hs : ∀ a b, f a b = true → f b a = true) (hi : ∀ v, f v v = false) : IsGr g :=
  ⟨⟨hm, hsq, fun r c h => by rw [← hasB_iff, hf] at h ⊢; exact hs _ _ h⟩, fun v h => by rw [← hasB_iff, hf, hi] at h; cases h⟩
theorem gr_cols {p : Pat} (hm : May p) : IsGr (colsS p).1 := by
  obtain ⟨f1, f2, f3, f4⟩ := cols_facts hm
  refine gr_of f1 (by omega) f4 (fun a b h => ?_) (fun v => ?_)
  · unfold meetC at h ⊢
    rw [decide_eq_true_iff] at h ⊢
    obtain ⟨h1, k, h2, h3⟩ := h
    exact ⟨fun e => h1 e.symm, k, h3, h2⟩
  · exact decide_eq_false fun h => h.1 rfl
theorem gr_rows {p : Pat} (hm : May p) : IsGr (rowsS p).1 := by
  obtain ⟨f1, f2, f3, f4⟩ := rows_facts hm
  refine gr_of f1 (by omega) f4 (fun a b h => ?_) (fun v => ?_)
  · unfold meetB at h ⊢
    rw [decide_eq_true_iff] at h ⊢
    obtain ⟨h1, k, h2, h3⟩ := h
    exact ⟨fun e => h1 e.symm, k, h3, h2⟩
  · exact decide_eq_false fun h => h.1 rfl
theorem badB_low {k : Int} (h4 : k ≠ 4) (h5 : k ≠ 5) : badB k = badB 1 := by
  funext g n cs v c
  rw [badB_not5 h5, badB_not5 (by decide), decide_eq_false h4]
  rfl
theorem nearP_low {k : Int} (h4 : k ≠ 4) (h5 : k ≠ 5) : NearP k = NearP 1 := by
  funext g l j x
  unfold NearP
  simp [h4, h5]
theorem bndTo_low {k : Int} (h4 : k ≠ 4) (h5 : k ≠ 5) (g : Int → Int → Bool) (n : Nat) (l : List Int) : ∀ j, bndTo k g n l j = bndTo 1 g n l j
  | 0 => rfl
  | j + 1 => by
    show max _ _ = max _ _
    rw [bndTo_low h4 h5 g n l j]
    unfold nearN
    rw [nearP_low h4 h5]

noncomputable def grE (kd : Int) (p : Pat) (l : List Int) : Int := if thE kd p ≠ 0 then thE kd p else if ¬ IsOrd l (thN kd p) then 182 else 0

noncomputable def grL (kd : Int) (p : Pat) (l : List Int) : List Int := if thE kd p ≠ 0 then [] else if ¬ IsOrd l (thN kd p) then [] else greedyS kd (thF kd p) (thN kd p).toNat l
section
variable {p : Pat} {x : PA} {kd : Int} {A B : Option Addr} {c d : Nat} {l cs : List Int}
theorem greedyX_c (w : World) (hp : RdP w x p) (hl : Rds vi w A c l) (e : Int) (hne : e ≠ 0) (hord : ∀ w', RdP w' x p → Rds vi w' A c l → Calls Try.prog 60 [vi kd, pvl x p, .slice A l.length c].toArray w' (one (.tuple #[.pointer none, vi e]) w')) :
    Calls Try.prog 21 [vi kd, pvl x p, .slice A l.length c].toArray w (Ret [] (fun y : RX => .tuple #[.slice y.A y.xs.length y.c, vi 0, vi e]) (fun y => [osl TI vi y.A y.c y.xs]) (fun y => y.xs = []) w) := by
  have op := hp.old
  have oL := hl.old
  unfold pvl patV at *
  refine calls_wc [] [] [.tmp 6, .tmp 7, .tmp 8] (fun y : RX => [.slice y.A y.xs.length y.c, vi 0, vi e]) Try.func21 rfl rfl (fun _ => rfl) Try.ntmps21 rfl (Own.nil w) rfl ?_
  refine gnil ?_
  refine gg ?_
  refine wl_op (ok_box rfl rfl rfl rfl rfl ?_); intro bp
  refine gg ?_
  refine gc1 (fun w hst => hord w (op.now hst) (oL.now hst)) (by exact rfl) ?_
  refine gg ?_
  exact grt (⟨none, 0, []⟩ : RX) rfl
theorem greedyN_c (w : World) (h5 : kd ≠ 5) (hp : RdP w x p) (hl : Rds vi w A c l) :
    Calls Try.prog 21 [vi kd, pvl x p, .slice A l.length c].toArray w (Ret [] (fun y : RX => .tuple #[.slice y.A y.xs.length y.c, vi (numS (grL kd p l)), vi (grE kd p l)]) (fun y => [osl TI vi y.A y.c y.xs]) (fun y => y.xs = grL kd p l) w) := by
  have op := hp.old
  by_cases he : thE kd p = 0
  · obtain ⟨hm, hk⟩ := thE_zero he
    have h0 := hm.toHead.r0
    by_cases ho : IsOrd l (thN kd p)
    · have hL : grL kd p l = greedyS kd (thF kd p) (thN kd p).toNat l := by unfold grL; rw [if_neg (not_not_intro he), if_neg (not_not_intro ho)]
      have hE : grE kd p l = 0 := by unfold grE; rw [if_neg (not_not_intro he), if_neg (not_not_intro ho)]
      rw [hL, hE]
      rcases hk with ⟨hk, hg⟩ | hk | hk
      · have k2 : kd ≠ 2 := by omega
        have k3 : kd ≠ 3 := by omega
        rw [show thN kd p = p.rows from if_neg k2] at ho ⊢
        rw [show thF kd p = hasB p from (if_neg k2).trans (if_neg k3)]
        exact (greedy_ok (n := p.rows.toNat) (R := fun _ => []) (yf := fun _ => x) w h5 hm (by omega) hg.1.2.1 (fun a b h => by rw [← hg.sym]; exact h) hg.irr hl (by rw [show ((p.rows.toNat : Nat) : Int) = p.rows by omega]; exact ho)
          (fun w' ho' => ordG_c w' ⟨hp.s.only ho', hp.c.only ho'⟩ (hl.only ho') hm hg hk ho) (fun t => RdB.nil op)).mono fun e w' h => ret_val h fun y hy => ⟨by rw [hy], hy⟩
      · obtain ⟨f1, f2, f3, f4⟩ := cols_facts hm
        have hg := gr_cols hm
        have e1 : thN kd p = (colsS p).1.rows := by rw [f2]; exact if_pos hk
        have h0' := f1.toHead.r0
        rw [e1] at ho ⊢
        rw [show thF kd p = hasB (colsS p).1 by rw [f4]; exact if_pos hk]
        exact (greedy_ok (n := (colsS p).1.rows.toNat) (R := fun t => PatR t.y (colsS p).1) (yf := fun t => t.y) w h5 f1 (by omega) (by omega) (fun a b h => by rw [← hg.sym]; exact h) hg.irr hl (by rw [show (((colsS p).1.rows.toNat : Nat) : Int) = (colsS p).1.rows by omega]; exact ho)
          (fun w' ho' => ordcols_c w' ⟨hp.s.only ho', hp.c.only ho'⟩ (hl.only ho') hm hk ho) (fun t => RdB.own)).mono fun e w' h => ret_val h fun y hy => ⟨by rw [hy], hy⟩
      · obtain ⟨f1, f2, f3, f4⟩ := rows_facts hm
        have hg := gr_rows hm
        have e1 : thN kd p = (rowsS p).1.rows := by rw [f2]; exact if_neg (by omega)
        have h0' := f1.toHead.r0
        rw [e1] at ho ⊢
        rw [show thF kd p = hasB (rowsS p).1 by rw [f4]; exact (if_neg (by omega)).trans (if_pos hk)]
        exact (greedy_ok (n := (rowsS p).1.rows.toNat) (R := fun t => PatR t.y (rowsS p).1) (yf := fun t => t.y) w h5 f1 (by omega) (by omega) (fun a b h => by rw [← hg.sym]; exact h) hg.irr hl (by rw [show (((rowsS p).1.rows.toNat : Nat) : Int) = (rowsS p).1.rows by omega]; exact ho)
          (fun w' ho' => ordrows_c w' ⟨hp.s.only ho', hp.c.only ho'⟩ (hl.only ho') hm hk ho) (fun t => RdB.own)).mono fun e w' h => ret_val h fun y hy => ⟨by rw [hy], hy⟩
    · have hL : grL kd p l = [] := by unfold grL; rw [if_neg (not_not_intro he), if_pos ho]
      have hE : grE kd p l = 182 := by unfold grE; rw [if_neg (not_not_intro he), if_pos ho]
      rw [hL, hE]
      refine greedyX_c w hp hl 182 (by decide) fun w' hp' hl' => ?_
      rcases hk with ⟨hk, hg⟩ | hk | hk
      · rw [show thN kd p = p.rows from if_neg (by omega)] at ho
        exact ordNG_c w' hp' hl' hm hg hk ho
      · rw [show thN kd p = (colsS p).1.rows by rw [(cols_facts hm).2.1]; exact if_pos hk] at ho
        exact ordNcols_c w' hp' hl' hm hk ho
      · rw [show thN kd p = (rowsS p).1.rows by rw [(rows_facts hm).2.1]; exact if_neg (by omega)] at ho
        exact ordNrows_c w' hp' hl' hm hk ho
  · have hL : grL kd p l = [] := by unfold grL; rw [if_pos he]
    have hE : grE kd p l = thE kd p := by unfold grE; rw [if_pos he]
    rw [hL, hE]
    exact greedyX_c w hp hl (thE kd p) he fun w' hp' hl' => ordE_c w' hp' he
theorem checkL_c (w : World) (he : thE kd p = 0) (hk : kd = 1 ∨ kd = 2 ∨ kd = 3) (hp : RdP w x p) (hl : Rds vi w A c l) (hs : l.length ≤ 17592186043904) :
    Calls Try.prog 39 [vi kd, pvl x p, .slice A l.length c].toArray w (one (vi (ckE (gr kd p) (gr kd p).rows.toNat l)) w) := by
  have op := hp.old
  obtain ⟨hm, h⟩ := thE_zero he
  have h0 := hm.toHead.r0
  rcases h with ⟨hk1, hg⟩ | hk2 | hk3
  · obtain rfl : kd = 1 := by omega
    rw [show gr 1 p = p by unfold gr; rw [if_neg (by decide), if_neg (by decide)]]
    exact check_ok (R := fun _ => []) (yf := fun _ => x) w hk hm (by omega) hg.1.2.1 hp hm hl hs (fun w' ho' => tkG_c w' ⟨hp.s.only ho', hp.c.only ho'⟩ hm hg hk1) (fun t => RdB.nil op)
  · subst hk2
    rw [show gr 2 p = (colsS p).1 by unfold gr; rw [if_pos rfl]]
    obtain ⟨f1, f2, f3, f4⟩ := cols_facts hm
    have h0' := f1.toHead.r0
    exact check_ok (R := fun t => PatR t.y (colsS p).1) (yf := fun t => t.y) w hk f1 (by omega) (by omega) hp hm hl hs (fun w' ho' => tkcols_c w' ⟨hp.s.only ho', hp.c.only ho'⟩ hm rfl) (fun t => RdB.own)
  · subst hk3
    rw [show gr 3 p = (rowsS p).1 by unfold gr; rw [if_neg (by decide), if_pos rfl]]
    obtain ⟨f1, f2, f3, f4⟩ := rows_facts hm
    have h0' := f1.toHead.r0
    exact check_ok (R := fun t => PatR t.y (rowsS p).1) (yf := fun t => t.y) w hk f1 (by omega) (by omega) hp hm hl hs (fun w' ho' => tkrows_c w' ⟨hp.s.only ho', hp.c.only ho'⟩ hm rfl) (fun t => RdB.own)
theorem same_c {g : Pat} {y : PA} (w : World) (hm : May p) (hk : (kd = 2 ∧ g = (colsS p).1) ∨ (kd = 3 ∧ g = (rowsS p).1)) (hp : RdP w x p) (hq : RdP w y g) (hl : Rds vi w A c l) (hc : Rds vi w B d cs) (hs : cs.length ≤ 17592186043904) :
    Calls Try.prog 34 [vi kd, pvl x p, pvl y g, .slice A l.length c, .slice B cs.length d].toArray w (one (.bool true) w) := by
  have op := hp.old
  have oq := hq.old
  have oL := hl.old
  have oC := hc.old
  have h4 : kd ≠ 4 := by omega
  have h5 : kd ≠ 5 := by omega
  have hg : IsGr g := by
    rcases hk with ⟨_, rfl⟩ | ⟨_, rfl⟩
    · exact gr_cols hm
    · exact gr_rows hm
  have e1 : thE kd p = 0 := by
    unfold thE
    rw [if_neg (not_not_intro hm), if_pos (by omega)]
  have e2 : thE 1 g = 0 := by
    unfold thE
    rw [if_neg (not_not_intro hg.1.1), if_neg (by decide), if_pos (.inl rfl), if_pos hg]
  have hN : thN 1 g = thN kd p := by
    rw [show thN 1 g = g.rows from if_neg (by decide)]
    rcases hk with ⟨rfl, rfl⟩ | ⟨rfl, rfl⟩
    · rw [(cols_facts hm).2.1]; exact (if_pos rfl).symm
    · rw [(rows_facts hm).2.1]; exact (if_neg (by decide)).symm
  have hF : thF 1 g = thF kd p := by
    rw [show thF 1 g = hasB g from (if_neg (by decide)).trans (if_neg (by decide))]
    rcases hk with ⟨rfl, rfl⟩ | ⟨rfl, rfl⟩
    · rw [(cols_facts hm).2.2.2]; exact (if_pos rfl).symm
    · rw [(rows_facts hm).2.2.2]; exact ((if_neg (by decide)).trans (if_pos rfl)).symm
  have hG : gr kd p = g := by
    unfold gr
    rcases hk with ⟨rfl, rfl⟩ | ⟨rfl, rfl⟩
    · rw [if_pos rfl]
    · rw [if_neg (by decide), if_pos rfl]
  have hG1 : gr 1 g = g := by unfold gr; rw [if_neg (by decide), if_neg (by decide)]
  have hgl : grL kd p l = grL 1 g l := by
    unfold grL greedyS
    rw [e1, e2, hN, hF, badB_low h4 h5]
  have hge : grE kd p l = grE 1 g l := by
    unfold grE
    rw [e1, e2, hN]
  have hbs : boundS kd p l = boundS 1 g l := by
    unfold boundS
    rw [e1, e2, hN, hF, bndTo_low h4 h5]
  have c1 : ∀ w, RdP w x p → Rds vi w A c l → _ := fun w a b => greedyN_c (kd := kd) w h5 a b
  have c2 : ∀ w, RdP w y g → Rds vi w A c l → _ := fun w a b => greedyN_c (kd := 1) w (by decide) a b
  have c3 : ∀ w, RdP w x p → Rds vi w A c l → _ := fun w a b => bound_c (kd := kd) w a b
  have c4 : ∀ w, RdP w y g → Rds vi w A c l → _ := fun w a b => bound_c (kd := 1) w a b
  have c5 : ∀ w, RdP w x p → Rds vi w B d cs → _ := fun w a b => checkL_c (kd := kd) w e1 (by omega) a b hs
  have c6 : ∀ w, RdP w y g → Rds vi w B d cs → _ := fun w a b => checkL_c (kd := 1) w e2 (.inl rfl) a b hs
  rw [hgl, hge] at c1
  rw [hbs] at c3
  rw [hG] at c5
  rw [hG1] at c6
  generalize grL 1 g l = gl at c1 c2
  generalize grE 1 g l = ge at c1 c2
  generalize boundS 1 g l = bz at c3 c4
  generalize ckE g g.rows.toNat cs = ce at c5 c6
  obtain ⟨bz1, bz2⟩ := bz
  dsimp only at c3 c4
  unfold pvl patV at *
  refine calls_wc [] [] [.tmp 10] (fun _ => [.bool true]) Try.func34 rfl rfl (fun _ => rfl) Try.ntmps34 rfl (Own.nil w) rfl ?_
  refine gg ?_
  refine wl_op (ok_box rfl rfl rfl rfl rfl ?_); intro bp
  refine wl_op (ok_box rfl rfl rfl rfl rfl ?_); intro bq
  refine gg ?_
  refine gc3 [] (fun w hst hst1 => c1 w (op.now hst) (oL.now hst)) (by exact rfl) ?_
  (repeat (first | refine gk1 ?_ | refine gk2 ?_ | refine gk3 ?_ | refine gk0 ?_ | refine gk4 ?_))
  rintro y1 r1
  dsimp only [List.cons_append, List.nil_append]
  refine gg ?_
  refine gc3 [] (fun w hst hst1 => c2 w (oq.now hst) (oL.now hst)) (by exact rfl) ?_
  (repeat (first | refine gk1 ?_ | refine gk2 ?_ | refine gk3 ?_ | refine gk0 ?_ | refine gk4 ?_))
  rintro y2 r2
  dsimp only [List.cons_append, List.nil_append]
  refine gg ?_
  refine gc1 (fun w hst => sameInts_c (xs := y1.xs) (ys := y2.xs) w (grd hst) (grd hst) true (by rw [r1, r2]; simp)) (by exact rfl) ?_
  refine gg ?_
  refine gc1 (fun w hst => c3 w (op.now hst) (oL.now hst)) (by exact rfl) ?_
  refine gg ?_
  refine gc1 (fun w hst => c4 w (oq.now hst) (oL.now hst)) (by exact rfl) ?_
  refine gg ?_
  refine wc_quiet mixed (by kernel_rfl) ?_
  refine gg ?_
  refine gc2 (fun w hst => c5 w (op.now hst) (oC.now hst)) (by exact rfl) ?_
  refine gg ?_
  refine gc2 (fun w hst => c6 w (oq.now hst) (oC.now hst)) (by exact rfl) ?_
  refine gg ?_
  exact grt () trivial
theorem lawColourLines_c (w : World) (hp : RdP w x p) (hl : Rds vi w A c l) (hc : Rds vi w B d cs) (hs : cs.length ≤ 17592186043904) :
    Calls Try.prog 7 [pvl x p, .slice A l.length c, .slice B cs.length d].toArray w (one (.bool true) w) := by
  have op := hp.old
  have oL := hl.old
  have oC := hc.old
  have os := op.s
  have oc := op.c
  unfold pvl patV
  refine calls_wc [] [] [.tmp 6] (fun _ => [.bool true]) Try.func7 rfl rfl (fun _ => rfl) Try.ntmps7 rfl (Own.nil w) rfl ?_
  refine gg ?_
  refine wl_op (ok_box rfl rfl rfl rfl rfl ?_); intro bp
  refine gg ?_
  refine gc1 (fun w hst => alive_c w) (by exact rfl) ?_
  refine gg ?_
  refine gc3 [] (fun w hst hst1 => columns_c (p := p) (x := x) w (op.now hst)) (by exact rfl) ?_
  (repeat (first | refine gk1 ?_ | refine gk2 ?_ | refine gk3 ?_ | refine gk0 ?_ | refine gk4 ?_))
  rintro y1 _
  dsimp only [List.cons_append, List.nil_append]
  refine gg ?_
  refine wl_op (ok_alloc rfl rfl rfl rfl (ze_of rfl) ?_); intro q1
  refine gg ?_
  refine gc3 [] (fun w hst hst1 => colRows_c (p := p) (x := x) w (op.now hst)) (by exact rfl) ?_
  (repeat (first | refine gk1 ?_ | refine gk2 ?_ | refine gk3 ?_ | refine gk0 ?_ | refine gk4 ?_))
  rintro y2 _
  dsimp only [List.cons_append, List.nil_append]
  refine gg ?_
  refine wl_op (ok_alloc rfl rfl rfl rfl (ze_of rfl) ?_); intro q2
  refine gg ?_
  refine gc3 [] (fun w hst hst1 => turn_c (p := p) (x := x) w (op.now hst)) (by exact rfl) ?_
  (repeat (first | refine gk1 ?_ | refine gk2 ?_ | refine gk3 ?_ | refine gk0 ?_ | refine gk4 ?_))
  rintro y3 _
  dsimp only [List.cons_append, List.nil_append]
  refine gg ?_
  refine wl_op (ok_alloc rfl rfl rfl rfl (ze_of rfl) ?_); intro q3
  refine gg ?_
  by_cases hm : May p
  · refine gc1 (fun w hst => refMay_c (p := p) (w := w) (os.now hst) (oc.now hst) true (by simp [hm])) (by exact rfl) ?_
    obtain ⟨f1, f2, f3, f4⟩ := cols_facts hm
    obtain ⟨k1, k2, k3, k4⟩ := rows_facts hm
    have e1 : (colsS p).2 = 0 := by rw [show colsS p = (shutP p.width.toNat p.width (meetC p), 0) from if_pos hm]
    have e2 : (rowsS p).2 = 0 := by rw [show rowsS p = (shutP p.rows.toNat p.rows (meetB p), 0) from if_pos hm]
    have e3 := turnS_ok hm
    have r1 := rowsS_turn hm
    have r2 : colsS (turnP p) = rowsS p := by rw [← rowsS_turn (may_turn hm), turn_turn hm]
    rw [e1, e2, e3]
    dsimp only
    refine gg ?_
    refine gc3 [] (fun w hst hst1 => columns_c (p := turnP p) (x := y3) w (grdP hst)) (by exact rfl) ?_
    (repeat (first | refine gk1 ?_ | refine gk2 ?_ | refine gk3 ?_ | refine gk0 ?_ | refine gk4 ?_))
    rintro y4 _
    dsimp only [List.cons_append, List.nil_append]
    rw [r2, e2]
    refine gg ?_
    refine wl_op (ok_alloc rfl rfl rfl rfl (ze_of rfl) ?_); intro q4
    refine gg ?_
    refine gc3 [] (fun w hst hst1 => colRows_c (p := turnP p) (x := y3) w (grdP hst)) (by exact rfl) ?_
    (repeat (first | refine gk1 ?_ | refine gk2 ?_ | refine gk3 ?_ | refine gk0 ?_ | refine gk4 ?_))
    rintro y5 _
    dsimp only [List.cons_append, List.nil_append]
    rw [r1, e1]
    refine gg ?_
    refine wl_op (ok_alloc rfl rfl rfl rfl (ze_of rfl) ?_); intro q5
    refine gg ?_
    refine gc1 (fun w hst => num_c _ w) (by exact rfl) ?_
    refine gg ?_
    refine gc1 (fun w hst => num_c _ w) (by exact rfl) ?_
    refine gg ?_
    refine gc1 (fun w hst => num_c _ w) (by exact rfl) ?_
    refine gg ?_
    refine gc1 (fun w hst => num_c _ w) (by exact rfl) ?_
    refine gg ?_
    refine gc1 (fun w hst => num_c _ w) (by exact rfl) ?_
    refine gg ?_
    refine gc1 (fun w hst => samePattern_c (p := (colsS p).1) (q := (colsS p).1) (x := y1) (y := y5) w (grdP hst) (grdP hst) true (by simp)) (by exact rfl) ?_
    refine gg ?_
    refine gc1 (fun w hst => samePattern_c (p := (rowsS p).1) (q := (rowsS p).1) (x := y2) (y := y4) w (grdP hst) (grdP hst) true (by simp)) (by exact rfl) ?_
    refine gg ?_
    refine gc1 (fun w hst => same_c (p := p) (kd := 2) (x := x) (g := (colsS p).1) (y := y1) w hm (.inl ⟨rfl, rfl⟩) (op.now hst) (grdP hst) (oL.now hst) (oC.now hst) hs) (by exact rfl) ?_
    refine gg ?_
    refine gc1 (fun w hst => same_c (p := p) (kd := 3) (x := x) (g := (rowsS p).1) (y := y2) w hm (.inr ⟨rfl, rfl⟩) (op.now hst) (grdP hst) (oL.now hst) (oC.now hst) hs) (by exact rfl) ?_
    refine gg ?_
    exact grt () trivial
  · refine gc1 (fun w hst => refMay_c (p := p) (w := w) (os.now hst) (oc.now hst) false (by simp [hm])) (by exact rfl) ?_
    have e1 : (colsS p).2 = 180 := by rw [show colsS p = (zP, 180) from if_neg hm]
    have e2 : (rowsS p).2 = 180 := by rw [show rowsS p = (zP, 180) from if_neg hm]
    have e3 : (turnS p).2 = 180 := by rw [show turnS p = (zP, 180) from if_neg hm]
    rw [e1, e2, e3]
    refine gg ?_
    refine gc1 (fun w hst => num_c _ w) (by exact rfl) ?_
    refine gg ?_
    refine gc1 (fun w hst => num_c _ w) (by exact rfl) ?_
    refine gg ?_
    exact grt () trivial
end
end Go.Proofs.Ytoiiellaoikojaa
