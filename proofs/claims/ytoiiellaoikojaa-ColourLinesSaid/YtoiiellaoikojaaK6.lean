/- Walks: colours: ordered; Greedy refused; the circle of four; alive. -/
import Derived.Test.YtoiiellaoikojaaK5
set_option linter.unusedVariables false
set_option linter.unusedSimpArgs false
set_option maxHeartbeats 8000000
namespace Go.Proofs.Ytoiiellaoikojaa
open Go.RowKit
section
variable {p : Pat} {x : PA} {k : Int} {A : Option Addr} {c : Nat} {l : List Int}
theorem ordG_c (w : World) (hp : RdP w x p) (hl : Rds vi w A c l) (hm : May p) (hg : IsGr p) (hk : k = 1 ∨ k = 4 ∨ k = 5) (ho : IsOrd l p.rows) :
    Calls Try.prog 60 [vi k, pvl x p, .slice A l.length c].toArray w (Ret [] (fun t : TX => .tuple #[.pointer (some ⟨t.tb, 0, none⟩), vi 0]) (ThR (fun _ => []) (fun _ => x) k p) (fun _ => True) w) := by
  have op := hp.old
  have oL := hl.old
  obtain ⟨h1, h2, h3, h4, h5, h6, h7, h8⟩ := hm.toHead
  have htk : ∀ w, RdP w x p → _ := fun w h => takenG_c (k := k) w h hm hg hk
  unfold pvl patV at *
  refine calls_wc [] [] [.tmp 6, .tmp 7] (fun t : TX => [.pointer (some ⟨t.tb, 0, none⟩), vi 0]) Try.func60 rfl rfl (fun _ => rfl) Try.ntmps60 rfl (Own.nil w) rfl ?_
  refine gg ?_
  refine wl_op (ok_box rfl rfl rfl rfl rfl ?_); intro bp
  refine gg ?_
  refine gc3 [] (fun w hst hst1 => htk w (op.now hst)) (by exact rfl) ?_
  (repeat (first | refine gk1 ?_ | refine gk2 ?_ | refine gk3 ?_ | refine gk0 ?_ | refine gk4 ?_))
  rintro t _
  dsimp only [List.cons_append, List.nil_append]
  refine wl_bun [] ?_
  (repeat (first | refine gk1 ?_ | refine gk2 ?_ | refine gk3 ?_ | refine gk0 ?_ | refine gk4 ?_))
  refine gg ?_
  refine gc1 (fun w hst => ordCheck_c (n := p.rows) w (oL.now hst) h1 h2 0 (by simp [ho])) (by exact rfl) ?_
  refine gg ?_
  exact grt t trivial
theorem ordcols_c (w : World) (hp : RdP w x p) (hl : Rds vi w A c l) (hm : May p) (hk : k = 2) (ho : IsOrd l (colsS p).1.rows) :
    Calls Try.prog 60 [vi k, pvl x p, .slice A l.length c].toArray w (Ret [] (fun t : TX => .tuple #[.pointer (some ⟨t.tb, 0, none⟩), vi 0]) (ThR (fun t => PatR t.y (colsS p).1) (fun t => t.y) k (colsS p).1) (fun _ => True) w) := by
  have op := hp.old
  have oL := hl.old
  obtain ⟨h1, h2, h3, h4, h5, h6, h7, h8⟩ := hm.toHead
  have hmg : May (colsS p).1 := by
    rw [show colsS p = (shutP p.width.toNat p.width (meetC p), 0) from if_pos hm]
    exact shut_may (by omega) (by omega) (by omega) (meetC_within hm)
  have g1 := hmg.toHead.r0
  have g2 := hmg.toHead.r1
  have htk : ∀ w, RdP w x p → _ := fun w h => takencols_c (k := k) w h hm hk
  generalize (colsS p).1 = q at *
  unfold pvl patV at *
  refine calls_wc [] [] [.tmp 6, .tmp 7] (fun t : TX => [.pointer (some ⟨t.tb, 0, none⟩), vi 0]) Try.func60 rfl rfl (fun _ => rfl) Try.ntmps60 rfl (Own.nil w) rfl ?_
  refine gg ?_
  refine wl_op (ok_box rfl rfl rfl rfl rfl ?_); intro bp
  refine gg ?_
  refine gc3 [] (fun w hst hst1 => htk w (op.now hst)) (by exact rfl) ?_
  (repeat (first | refine gk1 ?_ | refine gk2 ?_ | refine gk3 ?_ | refine gk0 ?_ | refine gk4 ?_))
  rintro t _
  dsimp only [List.cons_append, List.nil_append]
  refine wl_bun (PatR t.y q) ?_
  (repeat (first | refine gk1 ?_ | refine gk2 ?_ | refine gk3 ?_ | refine gk0 ?_ | refine gk4 ?_))
  refine gg ?_
  refine gc1 (fun w hst => ordCheck_c (n := q.rows) w (oL.now hst) g1 g2 0 (by simp [ho])) (by exact rfl) ?_
  refine gg ?_
  exact grt t trivial
theorem ordrows_c (w : World) (hp : RdP w x p) (hl : Rds vi w A c l) (hm : May p) (hk : k = 3) (ho : IsOrd l (rowsS p).1.rows) :
    Calls Try.prog 60 [vi k, pvl x p, .slice A l.length c].toArray w (Ret [] (fun t : TX => .tuple #[.pointer (some ⟨t.tb, 0, none⟩), vi 0]) (ThR (fun t => PatR t.y (rowsS p).1) (fun t => t.y) k (rowsS p).1) (fun _ => True) w) := by
  have op := hp.old
  have oL := hl.old
  obtain ⟨h1, h2, h3, h4, h5, h6, h7, h8⟩ := hm.toHead
  have hmg : May (rowsS p).1 := by
    rw [show rowsS p = (shutP p.rows.toNat p.rows (meetB p), 0) from if_pos hm]
    exact shut_may (by omega) (by omega) (by omega) (meetB_within hm)
  have g1 := hmg.toHead.r0
  have g2 := hmg.toHead.r1
  have htk : ∀ w, RdP w x p → _ := fun w h => takenrows_c (k := k) w h hm hk
  generalize (rowsS p).1 = q at *
  unfold pvl patV at *
  refine calls_wc [] [] [.tmp 6, .tmp 7] (fun t : TX => [.pointer (some ⟨t.tb, 0, none⟩), vi 0]) Try.func60 rfl rfl (fun _ => rfl) Try.ntmps60 rfl (Own.nil w) rfl ?_
  refine gg ?_
  refine wl_op (ok_box rfl rfl rfl rfl rfl ?_); intro bp
  refine gg ?_
  refine gc3 [] (fun w hst hst1 => htk w (op.now hst)) (by exact rfl) ?_
  (repeat (first | refine gk1 ?_ | refine gk2 ?_ | refine gk3 ?_ | refine gk0 ?_ | refine gk4 ?_))
  rintro t _
  dsimp only [List.cons_append, List.nil_append]
  refine wl_bun (PatR t.y q) ?_
  (repeat (first | refine gk1 ?_ | refine gk2 ?_ | refine gk3 ?_ | refine gk0 ?_ | refine gk4 ?_))
  refine gg ?_
  refine gc1 (fun w hst => ordCheck_c (n := q.rows) w (oL.now hst) g1 g2 0 (by simp [ho])) (by exact rfl) ?_
  refine gg ?_
  exact grt t trivial
theorem ordE_c (w : World) (hp : RdP w x p) (he : thE k p ≠ 0) :
    Calls Try.prog 60 [vi k, pvl x p, .slice A l.length c].toArray w (one (.tuple #[.pointer none, vi (thE k p)]) w) := by
  have op := hp.old
  have htk : ∀ w, RdP w x p → _ := fun w h => takenE_c (k := k) w h he
  generalize thE k p = e at *
  unfold pvl patV at *
  refine calls_wc [] [] [.tmp 6, .tmp 7] (fun _ => [.pointer none, vi e]) Try.func60 rfl rfl (fun _ => rfl) Try.ntmps60 rfl (Own.nil w) rfl ?_
  refine gg ?_
  refine wl_op (ok_box rfl rfl rfl rfl rfl ?_); intro bp
  refine gg ?_
  refine gc1 (fun w hst => htk w (op.now hst)) (by exact rfl) ?_
  refine gg ?_
  exact grt () trivial
theorem greedyE_c (w : World) (hp : RdP w x p) (he : thE k p ≠ 0) :
    Calls Try.prog 21 [vi k, pvl x p, .slice A l.length c].toArray w (one (.tuple #[.slice none 0 0, vi 0, vi (thE k p)]) w) := by
  have op := hp.old
  have htk : ∀ w, RdP w x p → Calls Try.prog 60 [vi k, pvl x p, .slice A l.length c].toArray w (one (.tuple #[.pointer none, vi (thE k p)]) w) := fun w h => ordE_c w h he
  generalize thE k p = e at *
  unfold pvl patV at *
  refine calls_wc [] [] [.tmp 6, .tmp 7, .tmp 8] (fun _ => [.slice none 0 0, vi 0, vi e]) Try.func21 rfl rfl (fun _ => rfl) Try.ntmps21 rfl (Own.nil w) rfl ?_
  refine gg ?_
  refine wl_op (ok_box rfl rfl rfl rfl rfl ?_); intro bp
  refine gg ?_
  refine gc1 (fun w hst => htk w (op.now hst)) (by exact rfl) ?_
  refine gg ?_
  exact grt () trivial
end
/-! ### a circle of four -/
abbrev c4 : Pat := ⟨4, 4, [0, 2, 4, 6, 8], [1, 3, 0, 2, 1, 3, 0, 2]⟩
def c4B (u v : Int) : Bool := decide (((u = 0 ∨ u = 2) ∧ (v = 1 ∨ v = 3)) ∨ ((u = 1 ∨ u = 3) ∧ (v = 0 ∨ v = 2)))
theorem c4_row {r : Int} (r0 : 0 ≤ r) (r1 : r < 4) : gt c4.start r = 2 * r ∧ gt c4.start (r + 1) = 2 * r + 2 := by
  have : r = 0 ∨ r = 1 ∨ r = 2 ∨ r = 3 := by omega
  rcases this with rfl | rfl | rfl | rfl <;> decide
theorem c4_col {i : Int} (h0 : 0 ≤ i) (h1 : i < 8) : gt c4.cols i = (if i = 0 ∨ i = 4 then 1 else if i = 1 ∨ i = 5 then 3 else if i = 2 ∨ i = 6 then 0 else 2) := by
  have : i = 0 ∨ i = 1 ∨ i = 2 ∨ i = 3 ∨ i = 4 ∨ i = 5 ∨ i = 6 ∨ i = 7 := by omega
  rcases this with rfl | rfl | rfl | rfl | rfl | rfl | rfl | rfl <;> decide
theorem may_c4 : May c4 := by
  refine ⟨⟨by decide, by decide, by decide, by decide, by decide, by decide, by decide, ?_⟩, fun r r0 r1 i i0 i1 => ?_⟩
  · intro i i0 i1
    have i1' : i + 1 < 5 := i1
    have := c4_row (r := i) i0 (by omega)
    omega
  · have hr := c4_row r0 r1
    rw [hr.1] at i0
    rw [hr.2] at i1
    have r1' : r < 4 := r1
    have : r = 0 ∨ r = 1 ∨ r = 2 ∨ r = 3 := by omega
    have hi : i = 2 * r ∨ i = 2 * r + 1 := by omega
    rcases this with rfl | rfl | rfl | rfl <;> rcases hi with rfl | rfl <;> exact ⟨by decide, by decide, fun h => by first | decide | exact absurd h (by decide)⟩
theorem has_c4 : hasB c4 = c4B := by
  funext u v
  rw [Bool.eq_iff_iff, hasB_iff]
  unfold c4B
  rw [decide_eq_true_iff]
  constructor
  · rintro ⟨u0, u1, k, k0, k1, e⟩
    have u1' : u < 4 := u1
    have hr := c4_row u0 u1'
    rw [hr.1] at k0
    rw [hr.2] at k1
    rw [c4_col (i := k) (by omega) (by omega)] at e
    split at e
    · omega
    · split at e
      · omega
      · split at e <;> omega
  · intro h
    have hu : 0 ≤ u ∧ u < 4 := by omega
    have hr := c4_row hu.1 hu.2
    refine ⟨hu.1, hu.2, if v = 1 ∨ v = 0 then 2 * u else 2 * u + 1, by rw [hr.1]; split <;> omega, by rw [hr.2]; split <;> omega, ?_⟩
    rw [c4_col (by split <;> omega) (by split <;> omega)]
    have : v = 0 ∨ v = 1 ∨ v = 2 ∨ v = 3 := by omega
    rcases this with rfl | rfl | rfl | rfl <;> simp <;> omega
theorem gr_c4 : IsGr c4 := by
  refine ⟨⟨may_c4, rfl, fun r c h => ?_⟩, fun v h => ?_⟩
  · rw [← hasB_iff, has_c4] at h ⊢
    unfold c4B at h ⊢
    rw [decide_eq_true_iff] at h ⊢
    omega
  · rw [← hasB_iff, has_c4] at h
    unfold c4B at h
    rw [decide_eq_true_iff] at h
    omega
theorem greedy_c4 : greedyS 4 (hasB c4) 4 [0, 1, 2, 3] = [0, 1, 0, 2] := by
  unfold greedyS
  rw [has_c4, show badB 4 c4B 4 = fun cs v c => (badN c4B 4 cs v c || (decide ((4 : Int) = 4) && badS c4B 4 cs v c)) by funext cs v c; exact badB_not5 (by decide) _ _ _ _ _]
  decide
theorem ord_c4 : IsOrd [0, 1, 2, 3] 4 := by
  have h : ∀ i : Int, 0 ≤ i → i < 4 → gt [0, 1, 2, 3] i = i := fun i i0 i1 => by
    have : i = 0 ∨ i = 1 ∨ i = 2 ∨ i = 3 := by omega
    rcases this with rfl | rfl | rfl | rfl <;> decide
  exact ⟨rfl, fun i i0 i1 => by rw [h i i0 i1]; omega, fun i j i0 i1 j0 j1 e => by rw [h i i0 i1, h j j0 j1] at e; exact e⟩
theorem circle4_c (w : World) : Calls Try.prog 66 ([] : List Value).toArray w (Ret [] (fun y : PA => pvl y c4) (fun y => PatR y c4) (fun _ => True) w) := by
  refine calls_wc [] [] [.cell 0 TP] (fun y : PA => [pvl y c4]) Try.func66 rfl rfl (fun _ => rfl) Try.ntmps66 rfl (Own.nil w) rfl ?_
  refine gg ?_
  refine wl_op (ok_alloc rfl rfl rfl rfl (ze_of rfl) ?_); intro rb
  refine gg ?_
  refine wl_op (ok_buildSlice vi [0, 2, 4, 6, 8] (ps := [(0, vi 0), (1, vi 2), (2, vi 4), (3, vi 6), (4, vi 8)]) rfl rfl rfl rfl rfl (el_of rfl) (ze_of rfl) (sz_of rfl) rfl (by decide) (by decide) (by kernel_rfl) ?_)
  intro b1
  refine wl_op (ok_buildSlice vi [1, 3, 0, 2, 1, 3, 0, 2] (ps := [(0, vi 1), (1, vi 3), (2, vi 0), (3, vi 2), (4, vi 1), (5, vi 3), (6, vi 0), (7, vi 2)]) rfl rfl rfl rfl rfl (el_of rfl) (ze_of rfl) (sz_of rfl) rfl (by decide) (by decide) (by kernel_rfl) ?_)
  intro b2
  refine wl_v rfl rfl rfl (val_build (ps := [(0, vi 4), (1, vi 4), (2, .slice (some ⟨b1, 0, none⟩) 5 5), (3, .slice (some ⟨b2, 0, none⟩) 8 8)]) (cells := pcs ⟨some ⟨b1, 0, none⟩, 5, some ⟨b2, 0, none⟩, 8⟩ c4) rfl rfl (by kernel_rfl)) ?_
  refine gg ?_
  exact grt (⟨some ⟨b1, 0, none⟩, 5, some ⟨b2, 0, none⟩, 8⟩ : PA) trivial
theorem alive_c (w : World) : Calls Try.prog 27 ([] : List Value).toArray w (one (.bool true) w) := by
  have hth : thE 0 c4 = 242 := by
    unfold thE
    rw [if_neg (not_not_intro may_c4), if_neg (by decide), if_neg (by decide)]
  refine calls_wc [] [] [.tmp 0] (fun _ => [.bool true]) Try.func27 rfl rfl (fun _ => rfl) Try.ntmps27 rfl (Own.nil w) rfl ?_
  refine gg ?_
  refine gc3 [] (fun w hst hst1 => circle4_c w) (by exact rfl) ?_
  (repeat (first | refine gk1 ?_ | refine gk2 ?_ | refine gk3 ?_ | refine gk0 ?_ | refine gk4 ?_))
  rintro y1 _
  dsimp only [List.cons_append, List.nil_append]
  refine wl_op (ok_buildSlice vi [0, 1, 2, 3] (ps := [(0, vi 0), (1, vi 1), (2, vi 2), (3, vi 3)]) rfl rfl rfl rfl rfl (el_of rfl) (ze_of rfl) (sz_of rfl) rfl (by decide) (by decide) (by kernel_rfl) ?_)
  intro b1
  refine gc3 [] (fun w hst hst1 => greedy_ok (p := c4) (g := c4) (x := y1) (k := 4) (n := 4) (l := [0, 1, 2, 3]) (R := fun _ => []) (yf := fun _ => y1) w (by decide) may_c4 rfl rfl (fun a b h => by rw [← gr_c4.sym]; exact h) gr_c4.irr (grd hst) ord_c4
    (fun w' ho => ordG_c w' ⟨(grdP hst : RdP w y1 c4).s.only ho, (grdP hst : RdP w y1 c4).c.only ho⟩ ((grd hst : Rds vi w (some ⟨b1, 0, none⟩) 4 [0, 1, 2, 3]).only ho) may_c4 gr_c4 (.inr (.inl rfl)) ord_c4) (fun t => RdB.nil (grdP hst : RdP w y1 c4).old)) (by exact rfl) ?_
  (repeat (first | refine gk1 ?_ | refine gk2 ?_ | refine gk3 ?_ | refine gk0 ?_ | refine gk4 ?_))
  rintro y2 e2
  dsimp only [List.cons_append, List.nil_append]
  rw [greedy_c4] at e2
  refine gg ?_
  refine gc3 [] (fun w hst hst1 => circle4_c w) (by exact rfl) ?_
  (repeat (first | refine gk1 ?_ | refine gk2 ?_ | refine gk3 ?_ | refine gk0 ?_ | refine gk4 ?_))
  rintro y3 _
  dsimp only [List.cons_append, List.nil_append]
  refine wl_op (ok_buildSlice vi [0, 1, 2, 3] (ps := [(0, vi 0), (1, vi 1), (2, vi 2), (3, vi 3)]) rfl rfl rfl rfl rfl (el_of rfl) (ze_of rfl) (sz_of rfl) rfl (by decide) (by decide) (by kernel_rfl) ?_)
  intro b2
  refine gc1 (fun w hst => greedyE_c (k := 0) (p := c4) (x := y3) (l := [0, 1, 2, 3]) w (grdP hst) (by rw [hth]; decide)) (by exact rfl) ?_
  rw [hth]
  refine gg ?_
  refine gc1 (fun w hst => num_c _ w) (by exact rfl) ?_
  have hn2 : numS y2.xs = 3 := by rw [e2]; decide
  rw [hn2]
  refine gg ?_
  refine wl_op (ok_buildSlice vi [0, 1, 0, 2] (ps := [(0, vi 0), (1, vi 1), (2, vi 0), (3, vi 2)]) rfl rfl rfl rfl rfl (el_of rfl) (ze_of rfl) (sz_of rfl) rfl (by decide) (by decide) (by kernel_rfl) ?_)
  intro b3
  refine gc1 (fun w hst => sameInts_c (xs := y2.xs) (ys := [0, 1, 0, 2]) w (grd hst) (grd hst) true (by rw [e2]; simp)) (by exact rfl) ?_
  refine gg ?_
  refine gc1 (fun w hst => num_c _ w) (by exact rfl) ?_
  refine gg ?_
  exact grt () trivial
end Go.Proofs.Ytoiiellaoikojaa
