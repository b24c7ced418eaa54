/- Walks: colours: ordered; Greedy refused; the circle of four; alive. Walks: colours: Classes. Walks: colours: Classes, refused; the reference. Walks: the law ColourClasses. -/
import Derived.Test.YtoiiellaoikojaaKB
set_option linter.unusedVariables false
set_option linter.unusedSimpArgs false
set_option maxHeartbeats 8000000
namespace Go.Proofs.Ytoiiellaoikojaa
open Go.RowKit
section
variable {p : Pat} {x : PA} {k : Int} {A : Option Addr} {c : Nat} {l : List Int}
theorem ordG_c (w : World) (hp : RdP w x p) (hl : Rds vi w A c l) (hm : May p) (hg : IsGr p) (hk : k = 1 ∨ k = 4 ∨ k = 5) (ho : IsOrd l p.rows) :
    Calls Try.prog 60 [vi k, pvl x p, .slice A l.length c].toArray w (Ret [] (fun t : TX => .tuple #[.pointer (some ⟨t.tb, 0, none⟩), vi 0]) (ThR (fun _ => []) (fun _ => x) k p) (fun _ => True) w) := by
  have op := hp.old
  have oL := hl.old
  obtain ⟨h1, h2, h3, h4, h5, h6, h7, h8⟩ := hm.toHead
  have htk : ∀ w, RdP w x p → _ := fun w h => takenG_c (k := k) w h hm hg hk
  unfold pvl patV at *
  refine calls_wc [] [] [.tmp 6, .tmp 7] (fun t : TX => [.pointer (some ⟨t.tb, 0, none⟩), vi 0]) Try.func60 rfl rfl (fun _ => rfl) Try.ntmps60 rfl (Own.nil w) rfl ?_
  refine gg ?_
  refine wl_op (ok_box rfl rfl rfl rfl rfl ?_); intro bp
  refine gg ?_
  refine gc3 [] (fun w hst hst1 => htk w (op.now hst)) (by exact rfl) ?_
  (repeat (first | refine gk1 ?_ | refine gk2 ?_ | refine gk3 ?_ | refine gk0 ?_ | refine gk4 ?_))
  rintro t _
  dsimp only [List.cons_append, List.nil_append]
  refine wl_bun [] ?_
  (repeat (first | refine gk1 ?_ | refine gk2 ?_ | refine gk3 ?_ | refine gk0 ?_ | refine gk4 ?_))
  refine gg ?_
  refine gc1 (fun w hst => ordCheck_c (n := p.rows) w (oL.now hst) h1 h2 0 (by simp [ho])) (by exact rfl) ?_
  refine gg ?_
  exact grt t trivial
theorem ordcols_c (w : World) (hp : RdP w x p) (hl : Rds vi w A c l) (hm : May p) (hk : k = 2) (ho : IsOrd l (colsS p).1.rows) :
    Calls Try.prog 60 [vi k, pvl x p, .slice A l.length c].toArray w (Ret [] (fun t : TX => .tuple #[.pointer (some ⟨t.tb, 0, none⟩), vi 0]) (ThR (fun t => PatR t.y (colsS p).1) (fun t => t.y) k (colsS p).1) (fun _ => True) w) := by
  have op := hp.old
  have oL := hl.old
  obtain ⟨h1, h2, h3, h4, h5, h6, h7, h8⟩ := hm.toHead
  have hmg : May (colsS p).1 := by
    rw [show colsS p = (shutP p.width.toNat p.width (meetC p), 0) from if_pos hm]
    exact shut_may (by omega) (by omega) (by omega) (meetC_within hm)
  have g1 := hmg.toHead.r0
  have g2 := hmg.toHead.r1
  have htk : ∀ w, RdP w x p → _ := fun w h => takencols_c (k := k) w h hm hk
  generalize (colsS p).1 = q at *
  unfold pvl patV at *
  refine calls_wc [] [] [.tmp 6, .tmp 7] (fun t : TX => [.pointer (some ⟨t.tb, 0, none⟩), vi 0]) Try.func60 rfl rfl (fun _ => rfl) Try.ntmps60 rfl (Own.nil w) rfl ?_
  refine gg ?_
  refine wl_op (ok_box rfl rfl rfl rfl rfl ?_); intro bp
  refine gg ?_
  refine gc3 [] (fun w hst hst1 => htk w (op.now hst)) (by exact rfl) ?_
  (repeat (first | refine gk1 ?_ | refine gk2 ?_ | refine gk3 ?_ | refine gk0 ?_ | refine gk4 ?_))
  rintro t _
  dsimp only [List.cons_append, List.nil_append]
  refine wl_bun (PatR t.y q) ?_
  (repeat (first | refine gk1 ?_ | refine gk2 ?_ | refine gk3 ?_ | refine gk0 ?_ | refine gk4 ?_))
  refine gg ?_
  refine gc1 (fun w hst => ordCheck_c (n := q.rows) w (oL.now hst) g1 g2 0 (by simp [ho])) (by exact rfl) ?_
  refine gg ?_
  exact grt t trivial
theorem ordrows_c (w : World) (hp : RdP w x p) (hl : Rds vi w A c l) (hm : May p) (hk : k = 3) (ho : IsOrd l (rowsS p).1.rows) :
    Calls Try.prog 60 [vi k, pvl x p, .slice A l.length c].toArray w (Ret [] (fun t : TX => .tuple #[.pointer (some ⟨t.tb, 0, none⟩), vi 0]) (ThR (fun t => PatR t.y (rowsS p).1) (fun t => t.y) k (rowsS p).1) (fun _ => True) w) := by
  have op := hp.old
  have oL := hl.old
  obtain ⟨h1, h2, h3, h4, h5, h6, h7, h8⟩ := hm.toHead
  have hmg : May (rowsS p).1 := by
    rw [show rowsS p = (shutP p.rows.toNat p.rows (meetB p), 0) from if_pos hm]
    exact shut_may (by omega) (by omega) (by omega) (meetB_within hm)
  have g1 := hmg.toHead.r0
  have g2 := hmg.toHead.r1
  have htk : ∀ w, RdP w x p → _ := fun w h => takenrows_c (k := k) w h hm hk
  generalize (rowsS p).1 = q at *
  unfold pvl patV at *
  refine calls_wc [] [] [.tmp 6, .tmp 7] (fun t : TX => [.pointer (some ⟨t.tb, 0, none⟩), vi 0]) Try.func60 rfl rfl (fun _ => rfl) Try.ntmps60 rfl (Own.nil w) rfl ?_
  refine gg ?_
  refine wl_op (ok_box rfl rfl rfl rfl rfl ?_); intro bp
  refine gg ?_
  refine gc3 [] (fun w hst hst1 => htk w (op.now hst)) (by exact rfl) ?_
  (repeat (first | refine gk1 ?_ | refine gk2 ?_ | refine gk3 ?_ | refine gk0 ?_ | refine gk4 ?_))
  rintro t _
  dsimp only [List.cons_append, List.nil_append]
  refine wl_bun (PatR t.y q) ?_
  (repeat (first | refine gk1 ?_ | refine gk2 ?_ | refine gk3 ?_ | refine gk0 ?_ | refine gk4 ?_))
  refine gg ?_
  refine gc1 (fun w hst => ordCheck_c (n := q.rows) w (oL.now hst) g1 g2 0 (by simp [ho])) (by exact rfl) ?_
  refine gg ?_
  exact grt t trivial
theorem ordE_c (w : World) (hp : RdP w x p) (he : thE k p ≠ 0) :
    Calls Try.prog 60 [vi k, pvl x p, .slice A l.length c].toArray w (one (.tuple #[.pointer none, vi (thE k p)]) w) := by
  have op := hp.old
  have htk : ∀ w, RdP w x p → _ := fun w h => takenE_c (k := k) w h he
  generalize thE k p = e at *
  unfold pvl patV at *
  refine calls_wc [] [] [.tmp 6, .tmp 7] (fun _ => [.pointer none, vi e]) Try.func60 rfl rfl (fun _ => rfl) Try.ntmps60 rfl (Own.nil w) rfl ?_
  refine gg ?_
  refine wl_op (ok_box rfl rfl rfl rfl rfl ?_); intro bp
  refine gg ?_
  refine gc1 (fun w hst => htk w (op.now hst)) (by exact rfl) ?_
  refine gg ?_
  exact grt () trivial
theorem greedyE_c (w : World) (hp : RdP w x p) (he : thE k p ≠ 0) :
    Calls Try.prog 21 [vi k, pvl x p, .slice A l.length c].toArray w (one (.tuple #[.slice none 0 0, vi 0, vi (thE k p)]) w) := by
  have op := hp.old
  have htk : ∀ w, RdP w x p → Calls Try.prog 60 [vi k, pvl x p, .slice A l.length c].toArray w (one (.tuple #[.pointer none, vi (thE k p)]) w) := fun w h => ordE_c w h he
  generalize thE k p = e at *
  unfold pvl patV at *
  refine calls_wc [] [] [.tmp 6, .tmp 7, .tmp 8] (fun _ => [.slice none 0 0, vi 0, vi e]) Try.func21 rfl rfl (fun _ => rfl) Try.ntmps21 rfl (Own.nil w) rfl ?_
  refine gg ?_
  refine wl_op (ok_box rfl rfl rfl rfl rfl ?_); intro bp
  refine gg ?_
  refine gc1 (fun w hst => htk w (op.now hst)) (by exact rfl) ?_
  refine gg ?_
  exact grt () trivial
end
/-! ### a circle of four -/
abbrev c4 : Pat := ⟨4, 4, [0, 2, 4, 6, 8], [1, 3, 0, 2, 1, 3, 0, 2]⟩
def c4B (u v : Int) : Bool := decide (((u = 0 ∨ u = 2) ∧ (v = 1 ∨ v = 3)) ∨ ((u = 1 ∨ u = 3) ∧ (v = 0 ∨ v = 2)))
theorem c4_row {r : Int} (r0 : 0 ≤ r) (r1 : r < 4) : gt c4.start r = 2 * r ∧ gt c4.start (r + 1) = 2 * r + 2 := by
  have : r = 0 ∨ r = 1 ∨ r = 2 ∨ r = 3 := by omega
  rcases this with rfl | rfl | rfl | rfl <;> decide
theorem c4_col {i : Int} (h0 : 0 ≤ i) (h1 : i < 8) : gt c4.cols i = (if i = 0 ∨ i = 4 then 1 else if i = 1 ∨ i = 5 then 3 else if i = 2 ∨ i = 6 then 0 else 2) := by
  have : i = 0 ∨ i = 1 ∨ i = 2 ∨ i = 3 ∨ i = 4 ∨ i = 5 ∨ i = 6 ∨ i = 7 := by omega
  rcases this with rfl | rfl | rfl | rfl | rfl | rfl | rfl | rfl <;> decide
theorem may_c4 : May c4 := by
  refine ⟨⟨by decide, by decide, by decide, by decide, by decide, by decide, by decide, ?_⟩, fun r r0 r1 i i0 i1 => ?_⟩
  · intro i i0 i1
    have i1' : i + 1 < 5 := i1
    have := c4_row (r := i) i0 (by omega)
    omega
  · have hr := c4_row r0 r1
    rw [hr.1] at i0
    rw [hr.2] at i1
    have r1' : r < 4 := r1
    have : r = 0 ∨ r = 1 ∨ r = 2 ∨ r = 3 := by omega
    have hi : i = 2 * r ∨ i = 2 * r + 1 := by omega
    rcases this with rfl | rfl | rfl | rfl <;> rcases hi with rfl | rfl <;> exact ⟨by decide, by decide, fun h => by first | decide | exact absurd h (by decide)⟩
theorem has_c4 : hasB c4 = c4B := by
  funext u v
  rw [Bool.eq_iff_iff, hasB_iff]
  unfold c4B
  rw [decide_eq_true_iff]
  constructor
  · rintro ⟨u0, u1, k, k0, k1, e⟩
    have u1' : u < 4 := u1
    have hr := c4_row u0 u1'
    rw [hr.1] at k0
    rw [hr.2] at k1
    rw [c4_col (i := k) (by omega) (by omega)] at e
    split at e
    · omega
    · split at e
      · omega
      · split at e <;> omega
  · intro h
    have hu : 0 ≤ u ∧ u < 4 := by omega
    have hr := c4_row hu.1 hu.2
    refine ⟨hu.1, hu.2, if v = 1 ∨ v = 0 then 2 * u else 2 * u + 1, by rw [hr.1]; split <;> omega, by rw [hr.2]; split <;> omega, ?_⟩
    rw [c4_col (by split <;> omega) (by split <;> omega)]
    have : v = 0 ∨ v = 1 ∨ v = 2 ∨ v = 3 := by omega
    rcases this with rfl | rfl | rfl | rfl <;> simp <;> omega
theorem gr_c4 : IsGr c4 := by
  refine ⟨⟨may_c4, rfl, fun r c h => ?_⟩, fun v h => ?_⟩
  · rw [← hasB_iff, has_c4] at h ⊢
    unfold c4B at h ⊢
    rw [decide_eq_true_iff] at h ⊢
    omega
  · rw [← hasB_iff, has_c4] at h
    unfold c4B at h
    rw [decide_eq_true_iff] at h
    omega
theorem greedy_c4 : greedyS 4 (hasB c4) 4 [0, 1, 2, 3] = [0, 1, 0, 2] := by
  unfold greedyS
  rw [has_c4, show badB 4 c4B 4 = fun cs v c => (badN c4B 4 cs v c || (decide ((4 : Int) = 4) && badS c4B 4 cs v c)) by funext cs v c; exact badB_not5 (by decide) _ _ _ _ _]
  decide
theorem ord_c4 : IsOrd [0, 1, 2, 3] 4 := by
  have h : ∀ i : Int, 0 ≤ i → i < 4 → gt [0, 1, 2, 3] i = i := fun i i0 i1 => by
    have : i = 0 ∨ i = 1 ∨ i = 2 ∨ i = 3 := by omega
    rcases this with rfl | rfl | rfl | rfl <;> decide
  exact ⟨rfl, fun i i0 i1 => by rw [h i i0 i1]; omega, fun i j i0 i1 j0 j1 e => by rw [h i i0 i1, h j j0 j1] at e; exact e⟩
theorem circle4_c (w : World) : Calls Try.prog 66 ([] : List Value).toArray w (Ret [] (fun y : PA => pvl y c4) (fun y => PatR y c4) (fun _ => True) w) := by
  refine calls_wc [] [] [.cell 0 TP] (fun y : PA => [pvl y c4]) Try.func66 rfl rfl (fun _ => rfl) Try.ntmps66 rfl (Own.nil w) rfl ?_
  refine gg ?_
  refine wl_op (ok_alloc rfl rfl rfl rfl (ze_of rfl) ?_); intro rb
  refine gg ?_
  refine wl_op (ok_buildSlice vi [0, 2, 4, 6, 8] (ps := [(0, vi 0), (1, vi 2), (2, vi 4), (3, vi 6), (4, vi 8)]) rfl rfl rfl rfl rfl (el_of rfl) (ze_of rfl) (sz_of rfl) rfl (by decide) (by decide) (by kernel_rfl) ?_)
  intro b1
  refine wl_op (ok_buildSlice vi [1, 3, 0, 2, 1, 3, 0, 2] (ps := [(0, vi 1), (1, vi 3), (2, vi 0), (3, vi 2), (4, vi 1), (5, vi 3), (6, vi 0), (7, vi 2)]) rfl rfl rfl rfl rfl (el_of rfl) (ze_of rfl) (sz_of rfl) rfl (by decide) (by decide) (by kernel_rfl) ?_)
  intro b2
  refine wl_v rfl rfl rfl (val_build (ps := [(0, vi 4), (1, vi 4), (2, .slice (some ⟨b1, 0, none⟩) 5 5), (3, .slice (some ⟨b2, 0, none⟩) 8 8)]) (cells := pcs ⟨some ⟨b1, 0, none⟩, 5, some ⟨b2, 0, none⟩, 8⟩ c4) rfl rfl (by kernel_rfl)) ?_
  refine gg ?_
  exact grt (⟨some ⟨b1, 0, none⟩, 5, some ⟨b2, 0, none⟩, 8⟩ : PA) trivial
theorem alive_c (w : World) : Calls Try.prog 27 ([] : List Value).toArray w (one (.bool true) w) := by
  have hth : thE 0 c4 = 242 := by
    unfold thE
    rw [if_neg (not_not_intro may_c4), if_neg (by decide), if_neg (by decide)]
  refine calls_wc [] [] [.tmp 0] (fun _ => [.bool true]) Try.func27 rfl rfl (fun _ => rfl) Try.ntmps27 rfl (Own.nil w) rfl ?_
  refine gg ?_
  refine gc3 [] (fun w hst hst1 => circle4_c w) (by exact rfl) ?_
  (repeat (first | refine gk1 ?_ | refine gk2 ?_ | refine gk3 ?_ | refine gk0 ?_ | refine gk4 ?_))
  rintro y1 _
  dsimp only [List.cons_append, List.nil_append]
  refine wl_op (ok_buildSlice vi [0, 1, 2, 3] (ps := [(0, vi 0), (1, vi 1), (2, vi 2), (3, vi 3)]) rfl rfl rfl rfl rfl (el_of rfl) (ze_of rfl) (sz_of rfl) rfl (by decide) (by decide) (by kernel_rfl) ?_)
  intro b1
  refine gc3 [] (fun w hst hst1 => greedy_ok (p := c4) (g := c4) (x := y1) (k := 4) (n := 4) (l := [0, 1, 2, 3]) (R := fun _ => []) (yf := fun _ => y1) w (by decide) may_c4 rfl rfl (fun a b h => by rw [← gr_c4.sym]; exact h) gr_c4.irr (grd hst) ord_c4
    (fun w' ho => ordG_c w' ⟨(grdP hst : RdP w y1 c4).s.only ho, (grdP hst : RdP w y1 c4).c.only ho⟩ ((grd hst : Rds vi w (some ⟨b1, 0, none⟩) 4 [0, 1, 2, 3]).only ho) may_c4 gr_c4 (.inr (.inl rfl)) ord_c4) (fun t => RdB.nil (grdP hst : RdP w y1 c4).old)) (by exact rfl) ?_
  (repeat (first | refine gk1 ?_ | refine gk2 ?_ | refine gk3 ?_ | refine gk0 ?_ | refine gk4 ?_))
  rintro y2 e2
  dsimp only [List.cons_append, List.nil_append]
  rw [greedy_c4] at e2
  refine gg ?_
  refine gc3 [] (fun w hst hst1 => circle4_c w) (by exact rfl) ?_
  (repeat (first | refine gk1 ?_ | refine gk2 ?_ | refine gk3 ?_ | refine gk0 ?_ | refine gk4 ?_))
  rintro y3 _
  dsimp only [List.cons_append, List.nil_append]
  refine wl_op (ok_buildSlice vi [0, 1, 2, 3] (ps := [(0, vi 0), (1, vi 1), (2, vi 2), (3, vi 3)]) rfl rfl rfl rfl rfl (el_of rfl) (ze_of rfl) (sz_of rfl) rfl (by decide) (by decide) (by kernel_rfl) ?_)
  intro b2
  refine gc1 (fun w hst => greedyE_c (k := 0) (p := c4) (x := y3) (l := [0, 1, 2, 3]) w (grdP hst) (by rw [hth]; decide)) (by exact rfl) ?_
  rw [hth]
  refine gg ?_
  refine gc1 (fun w hst => num_c _ w) (by exact rfl) ?_
  have hn2 : numS y2.xs = 3 := by rw [e2]; decide
  rw [hn2]
  refine gg ?_
  refine wl_op (ok_buildSlice vi [0, 1, 0, 2] (ps := [(0, vi 0), (1, vi 1), (2, vi 0), (3, vi 2)]) rfl rfl rfl rfl rfl (el_of rfl) (ze_of rfl) (sz_of rfl) rfl (by decide) (by decide) (by kernel_rfl) ?_)
  intro b3
  refine gc1 (fun w hst => sameInts_c (xs := y2.xs) (ys := [0, 1, 0, 2]) w (grd hst) (grd hst) true (by rw [e2]; simp)) (by exact rfl) ?_
  refine gg ?_
  refine gc1 (fun w hst => num_c _ w) (by exact rfl) ?_
  refine gg ?_
  exact grt () trivial
/-! ### lists of lists of our own -/
structure RW where
  A : Option Addr
  c : Nat
  xs : List Int
instance : Inhabited RW := ⟨⟨none, 0, []⟩⟩
abbrev rwV (r : RW) : SV := (r.A, r.xs.length, r.c)
abbrev rwR (r : RW) : Res := osl TI vi r.A r.c r.xs
section
variable {P : Program} {n : Nat} {w0 w : World} {D : List Nat} {Γ : Tm} {σ : List Res} {ops : Array Oper} {os : List Oper} {Q : QQ}
theorem take_at {rows : List RW} {i : Int} (h0 : 0 ≤ i) (h1 : i < rows.length) : (rows.map rwR).Perm (rwR (gt rows i) :: ((rows.take i.toNat).map rwR ++ (rows.drop (i.toNat + 1)).map rwR)) := by
  have e : rows = rows.take i.toNat ++ gt rows i :: rows.drop (i.toNat + 1) := by
    rw [gt_elem h0 (by omega)]; simp
  conv => lhs; rw [e]
  rw [List.map_append, List.map_cons]
  exact List.perm_middle
theorem set_at {rows : List RW} {i : Int} (r : RW) (h0 : 0 ≤ i) (h1 : i < rows.length) : ((rows.set i.toNat r).map rwR).Perm (rwR r :: ((rows.take i.toNat).map rwR ++ (rows.drop (i.toNat + 1)).map rwR)) := by
  rw [List.set_eq_take_append_cons_drop, if_pos (by omega), List.map_append, List.map_cons]
  exact List.perm_middle
/-- a row is taken out -/
theorem wl_take {rows : List RW} {i : Int} (h0 : 0 ≤ i) (h1 : i < rows.length) (h : PickK (bun (rows.map rwR)) σ (fun σ' => WL P n w0 D ops os Q Γ (rwR (gt rows i) :: bun ((rows.take i.toNat).map rwR ++ (rows.drop (i.toNat + 1)).map rwR) :: σ'))) : WL P n w0 D ops os Q Γ σ := by
  obtain ⟨σ', hp, h⟩ := h
  refine .mk fun a w hs hst => h.run a w hs ?_
  have h2 := bun_out (hst.perm hp)
  have h3 := h2.perm ((take_at h0 h1).symm.append_right σ')
  have h4 : St w0 D (((rows.take i.toNat).map rwR ++ (rows.drop (i.toNat + 1)).map rwR) ++ (rwR (gt rows i) :: σ')) w := h3.perm (by
    rw [List.cons_append]
    exact List.perm_middle)
  exact (bun_in h4).perm (List.Perm.swap _ _ _)
/-- a row is put back -/
theorem wc_give {cd : Code} {rows : List RW} {i : Int} (r : RW) (h0 : 0 ≤ i) (h1 : i < rows.length) (h : SubK [rwR r, bun ((rows.take i.toNat).map rwR ++ (rows.drop (i.toNat + 1)).map rwR)] σ (fun σ' => WC P n w0 D cd Q Γ (bun ((rows.set i.toNat r).map rwR) :: σ'))) : WC P n w0 D cd Q Γ σ := by
  obtain ⟨rest, hp, h⟩ := h
  refine .mk fun a w hs hst => h.run a w hs ?_
  have h2 : St w0 D (bun ((rows.take i.toNat).map rwR ++ (rows.drop (i.toNat + 1)).map rwR) :: (rwR r :: rest)) w := (hst.perm hp).perm (List.Perm.swap _ _ _)
  have h3 := bun_out h2
  refine bun_in (h3.perm ?_)
  refine (List.Perm.append_right rest (set_at r h0 h1)).trans ?_
  rw [List.cons_append]
  exact List.perm_middle.symm
theorem wl_give {rows : List RW} {i : Int} (r : RW) (h0 : 0 ≤ i) (h1 : i < rows.length) (h : SubK [rwR r, bun ((rows.take i.toNat).map rwR ++ (rows.drop (i.toNat + 1)).map rwR)] σ (fun σ' => WL P n w0 D ops os Q Γ (bun ((rows.set i.toNat r).map rwR) :: σ'))) : WL P n w0 D ops os Q Γ σ := by
  obtain ⟨rest, hp, h⟩ := h
  refine .mk fun a w hs hst => h.run a w hs ?_
  have h2 : St w0 D (bun ((rows.take i.toNat).map rwR ++ (rows.drop (i.toNat + 1)).map rwR) :: (rwR r :: rest)) w := (hst.perm hp).perm (List.Perm.swap _ _ _)
  have h3 := bun_out h2
  refine bun_in (h3.perm ?_)
  refine (List.Perm.append_right rest (set_at r h0 h1)).trans ?_
  rw [List.cons_append]
  exact List.perm_middle.symm
theorem bun_nils (m : Nat) (h : St w0 D σ w) : St w0 D (bun ((List.replicate m (default : RW)).map rwR) :: σ) w := by
  refine bun_in ?_
  induction m with
  | zero => exact h
  | succ m ih =>
    rw [List.replicate_succ, List.map_cons, List.cons_append]
    exact pk_nil ih
theorem wl_nils (m : Nat) (h : WL P n w0 D ops os Q Γ (bun ((List.replicate m (default : RW)).map rwR) :: σ)) : WL P n w0 D ops os Q Γ σ := .mk fun a w hs hst => h.run a w hs (bun_nils m hst)
theorem wl_nilrow (rows : List RW) (h : PickK (bun (rows.map rwR)) σ (fun σ' => WL P n w0 D ops os Q Γ (bun ((rows ++ [default]).map rwR) :: σ'))) : WL P n w0 D ops os Q Γ σ := by
  obtain ⟨σ', hp, h⟩ := h
  refine .mk fun a w hs hst => h.run a w hs ?_
  have h2 : St w0 D (rwR default :: (rows.map rwR ++ σ')) w := pk_nil (bun_out (hst.perm hp))
  refine bun_in (h2.perm ?_)
  rw [List.map_append, List.append_assoc]
  exact List.perm_middle
end
/-! ### the things of each colour -/
def posTo (l : List Int) (i c : Int) : List Int := (rng i.toNat).filter (fun v => gt l v == c)
theorem posTo_zero (l : List Int) (c : Int) : posTo l 0 c = [] := rfl
theorem posTo_next {l : List Int} {i : Int} (h : 0 ≤ i) (c : Int) : posTo l (i + 1) c = if gt l i = c then posTo l i c ++ [i] else posTo l i c := by
  unfold posTo rng
  rw [show (i + 1).toNat = i.toNat + 1 by omega, List.range_succ, List.map_append, List.filter_append]
  simp only [List.map_cons, List.map_nil]
  rw [show ((i.toNat : Nat) : Int) = i by omega]
  by_cases e : gt l i = c
  · rw [if_pos e, List.filter_cons_of_pos (by simpa using e), List.filter_nil]
  · rw [if_neg e, List.filter_cons_of_neg (by simpa using e), List.filter_nil, List.append_nil]
theorem posTo_len (l : List Int) {i c : Int} (h : 0 ≤ i) : ((posTo l i c).length : Int) ≤ i := by
  have := List.length_filter_le (fun v => gt l v == c) (rng i.toNat)
  unfold posTo
  have h2 : (rng i.toNat).length = i.toNat := by simp [rng]
  omega
def clMay (l : List Int) : Prop := l.length ≤ 128 ∧ ∀ i : Int, 0 ≤ i → i < l.length → 0 ≤ gt l i ∧ gt l i ≤ 65536
theorem numS_max : ∀ (l : List Int) (c : Int), c ∈ l → c + 1 ≤ numS l := by
  have key : ∀ (l : List Int) (a : Int), a ≤ l.foldl (fun n c => max n (c + 1)) a ∧ ∀ c ∈ l, c + 1 ≤ l.foldl (fun n c => max n (c + 1)) a := by
    intro l
    induction l with
    | nil => intro a; exact ⟨Int.le_refl _, fun c h => by simp at h⟩
    | cons x l ih =>
      intro a
      obtain ⟨h1, h2⟩ := ih (max a (x + 1))
      refine ⟨Int.le_trans (show a ≤ max a (x + 1) by omega) h1, fun c hc => ?_⟩
      rcases List.mem_cons.1 hc with rfl | hc
      · have : c + 1 ≤ max a (c + 1) := by omega
        exact Int.le_trans this h1
      · exact h2 c hc
  exact fun l c h => (key l 0).2 c h
/-- the rows so far -/
structure ClI (l : List Int) (m : Nat) (i : Int) (rows : List RW) : Prop where
  len : rows.length = m
  at_ : ∀ c : Int, 0 ≤ c → c < m → (gt rows c).xs = posTo l i c
theorem gt_setR {rows : List RW} {i j : Int} {r : RW} (h0 : 0 ≤ i) (h1 : i < rows.length) (hj : 0 ≤ j) : gt (rows.set i.toNat r) j = if j = i then r else gt rows j := by
  unfold gt
  simp only [List.getD_eq_getElem?_getD, List.getElem?_set]
  by_cases h : j = i
  · subst h; rw [if_pos rfl, if_pos rfl, if_pos (by omega)]; rfl
  · rw [if_neg (by omega), if_neg h]
theorem ClI.next {l : List Int} {m : Nat} {i : Int} {rows : List RW} {A : Option Addr} {c' : Nat} (h : ClI l m i rows) (i0 : 0 ≤ i) (c0 : 0 ≤ gt l i) (c1 : gt l i < m) : ClI l m (i + 1) (rows.set (gt l i).toNat ⟨A, c', (gt rows (gt l i)).xs ++ [i]⟩) := by
  have hl := h.len
  refine ⟨by rw [List.length_set]; exact hl, fun c c0' c1' => ?_⟩
  rw [gt_setR c0 (by omega) c0', posTo_next i0]
  by_cases e : c = gt l i
  · rw [if_pos e, if_pos e.symm, e, h.at_ _ c0 c1]
  · rw [if_neg e, if_neg (fun h => e h.symm)]
    exact h.at_ c c0' c1'
theorem ClI.zero (l : List Int) (m : Nat) : ClI l m 0 (List.replicate m default) := by
  refine ⟨by simp, fun c c0 c1 => ?_⟩
  rw [gt_elem c0 (by simpa using c1)]
  simp only [List.getElem_replicate]
  rfl
theorem map_rwV_at {rows : List RW} {i : Int} (h0 : 0 ≤ i) (h1 : i < rows.length) : gt (rows.map rwV) i = rwV (gt rows i) := by
  rw [gt_elem h0 (by simpa using h1), gt_elem h0 (by simpa using h1)]
  simp
structure ClX where
  k : Int
  A : Option Addr
  c : Nat
  rows : List RW
section
variable {A : Option Addr} {c : Nat} {l : List Int}
theorem classes_c (w : World) (hA : Rds vi w A c l) (hm : clMay l) :
    Calls Try.prog 25 [.slice A l.length c].toArray w (Ret [] (fun y : ClX => .tuple #[.slice y.A y.rows.length y.c, vi 0]) (fun y => [osl TIs sv y.A y.c (y.rows.map rwV), bun (y.rows.map rwR)]) (fun y => ClI l (numS l).toNat l.length y.rows) w) := by
  have oA := hA.old
  have hl := hm.1
  have hmr : ∀ d ∈ l, -1 ≤ d ∧ d < 100000 := fun d hd => by
    obtain ⟨i, i0, i1, e⟩ := mem_gt hd
    have := hm.2 i i0 i1
    omega
  have hnr := numS_rng l (m := 65537) (fun d hd => by
    obtain ⟨i, i0, i1, e⟩ := mem_gt hd
    have := hm.2 i i0 i1
    omega) (by omega)
  refine calls_wc [] [] [.tmp 2, .tmp 3] (fun y : ClX => [.slice y.A y.rows.length y.c, vi 0]) Try.func25 rfl rfl (fun _ => rfl) Try.ntmps25 rfl (Own.nil w) rfl ?_
  refine gg ?_
  refine glp (fun k : Int => 0 ≤ k ∧ k ≤ l.length) (fun k => [(0, .slice A l.length c), (12, .slice A l.length c), (13, vi l.length), (14, vi k)]) (fun _ => []) (fun k => (l.length - k).toNat) 0 ⟨by omega, by omega⟩ ?_
  rintro k ⟨hk0, hk1⟩
  by_cases hk : k < l.length
  · have hc := hm.2 k hk0 hk
    refine gg ?_
    exact gnx (k + 1) ⟨by omega, by omega⟩ (by omega)
  obtain rfl : k = l.length := by omega
  clear hk hk0 hk1
  refine gg ?_
  refine gc1 (fun w hst => number_c w (oA.now hst) hmr (by omega)) (by exact rfl) ?_
  refine gmk sv (none, 0, 0) rfl rfl rfl rfl rfl rfl rfl rfl rfl rfl rfl hnr.1 (Int.le_refl _) (by omega) (by omega) ?_
  intro ob
  refine wl_nils (numS l).toNat ?_
  refine gg ?_
  refine glp (fun s : ClX => 0 ≤ s.k ∧ s.k ≤ l.length ∧ ClI l (numS l).toNat s.k s.rows) (fun s => [(6, .slice (some ⟨ob, 0, none⟩) (numS l).toNat (numS l).toNat), (28, .slice A l.length c), (29, vi l.length), (30, vi s.k)])
    (fun s => [osl TIs sv (some ⟨ob, 0, none⟩) (numS l).toNat (s.rows.map rwV), bun (s.rows.map rwR)]) (fun s => (l.length - s.k).toNat) ⟨0, none, 0, List.replicate (numS l).toNat default⟩ ⟨by simp, by simp, ClI.zero l _⟩ ?_ (hM := by
      dsimp only
      rw [List.map_replicate]
      refine SubK.e ?_
      (repeat (first | refine gk1 ?_ | refine gk2 ?_ | refine gk3 ?_ | refine gk0 ?_ | refine gk4 ?_))
      trivial)
  rintro ⟨k, _, _, rows⟩ ⟨hk0, hk1, hI⟩
  dsimp only at hk0 hk1 hI ⊢
  have hrl := hI.len
  have hrl2 : (rows.map rwV).length = rows.length := List.length_map _
  by_cases hk : k < l.length
  · have hc := hm.2 k hk0 hk
    have hcm := numS_max l _ (gt_mem (xs := l) hk0 hk)
    refine gg ?_
    rw [map_rwV_at hc.1 (by omega)]
    have hxl := posTo_len l (c := gt l k) hk0
    rw [← hI.at_ _ hc.1 (by omega)] at hxl
    have hnx := fun A' c' => hI.next (A := A') (c' := c') hk0 hc.1 (by omega)
    refine wl_take (rows := rows) (i := gt l k) hc.1 (by omega) ?_
    (repeat (first | refine gk1 ?_ | refine gk2 ?_ | refine gk3 ?_ | refine gk0 ?_ | refine gk4 ?_))
    generalize gt rows (gt l k) = r at hxl hnx
    rw [show sv (rwV r) = .slice r.A r.xs.length r.c from rfl]
    dsimp only [rwR]
    refine gpush (by exact rfl) (fun _ => by exact rfl) ?_ (hl := by omega)
    intro _ A' c'
    refine gg ?_
    refine gt1 (by exact rfl) ?_ (hv := by first | exact .r (x := (A', (r.xs ++ [k]).length, c')) rfl rfl hc.1 (by omega) | exact .there (.r (x := (A', (r.xs ++ [k]).length, c')) rfl rfl hc.1 (by omega)) | exact .there (.there (.r (x := (A', (r.xs ++ [k]).length, c')) rfl rfl hc.1 (by omega))))
    rw [show (rows.map rwV).set (gt l k).toNat (A', (r.xs ++ [k]).length, c') = (rows.set (gt l k).toNat ⟨A', c', r.xs ++ [k]⟩).map rwV by rw [List.map_set]]
    refine wl_give (rows := rows) (i := gt l k) ⟨A', c', r.xs ++ [k]⟩ hc.1 (by omega) ?_
    (repeat (first | refine gk1 ?_ | refine gk2 ?_ | refine gk3 ?_ | refine gk0 ?_ | refine gk4 ?_))
    refine gg ?_
    exact gnx (⟨k + 1, none, 0, rows.set (gt l k).toNat ⟨A', c', r.xs ++ [k]⟩⟩ : ClX) ⟨by dsimp only; omega, by dsimp only; omega, hnx A' c'⟩ (by dsimp only; omega)
  · obtain rfl : k = l.length := by omega
    refine gg ?_
    exact grt (⟨0, some ⟨ob, 0, none⟩, (numS l).toNat, rows⟩ : ClX) hI (h1 := ⟨.t (look_to rfl (by rw [hrl])), .t rfl, trivial⟩)
end
section
variable {P : Program} {n : Nat} {w0 w : World} {D : List Nat} {Γ : Tm} {σ : List Res} {Q : QQ}
theorem wc_take {cd : Code} {rows : List RW} {i : Int} (h0 : 0 ≤ i) (h1 : i < rows.length) (h : PickK (bun (rows.map rwR)) σ (fun σ' => WC P n w0 D cd Q Γ (rwR (gt rows i) :: bun ((rows.take i.toNat).map rwR ++ (rows.drop (i.toNat + 1)).map rwR) :: σ'))) : WC P n w0 D cd Q Γ σ := by
  obtain ⟨σ', hp, h⟩ := h
  refine .mk fun a w hs hst => h.run a w hs ?_
  have h2 := bun_out (hst.perm hp)
  have h3 := h2.perm ((take_at h0 h1).symm.append_right σ')
  have h4 : St w0 D (((rows.take i.toNat).map rwR ++ (rows.drop (i.toNat + 1)).map rwR) ++ (rwR (gt rows i) :: σ')) w := h3.perm (by
    rw [List.cons_append]
    exact List.perm_middle)
  exact (bun_in h4).perm (List.Perm.swap _ _ _)
end
theorem posTo_nil {l : List Int} {v c : Int} (h : ∀ i : Int, 0 ≤ i → i < v → gt l i ≠ c) : posTo l v c = [] := by
  unfold posTo
  rw [List.filter_eq_nil_iff]
  intro i hi
  have := mem_rng.1 hi
  simpa using h i this.1 (by omega)
section
variable {A : Option Addr} {c : Nat} {l : List Int}
theorem take_next {k : Int} (h0 : 0 ≤ k) (h1 : k < l.length) : l.take (k + 1).toNat = l.take k.toNat ++ [gt l k] := by
  rw [show (k + 1).toNat = k.toNat + 1 by omega, List.take_add_one, List.getElem?_eq_getElem (by omega), gt_elem h0 (by omega)]
  rfl
theorem take_mem {k i : Int} (i0 : 0 ≤ i) (i1 : i < k) (h1 : k ≤ l.length) : gt l i ∈ l.take k.toNat := by
  rw [gt_elem i0 (by omega)]
  exact List.mem_iff_getElem.2 ⟨i.toNat, by rw [List.length_take]; omega, by simp⟩
theorem classesE_c (w : World) (hA : Rds vi w A c l) (hm : ¬ clMay l) :
    Calls Try.prog 25 [.slice A l.length c].toArray w (one (.tuple #[.slice none 0 0, vi 240]) w) := by
  have oA := hA.old
  refine calls_wc [] [] [.tmp 2, .tmp 3] (fun _ => [.slice none 0 0, vi 240]) Try.func25 rfl rfl (fun _ => rfl) Try.ntmps25 rfl (Own.nil w) rfl ?_
  refine gg ?_
  by_cases hl : l.length ≤ 128
  · refine gg ?_
    refine glp (fun k : Int => 0 ≤ k ∧ k ≤ l.length ∧ ∀ i : Int, 0 ≤ i → i < k → 0 ≤ gt l i ∧ gt l i ≤ 65536) (fun k => [(0, .slice A l.length c), (12, .slice A l.length c), (13, vi l.length), (14, vi k)]) (fun _ => []) (fun k => (l.length - k).toNat) 0 ⟨by omega, by omega, fun i i0 i1 => by omega⟩ ?_
    rintro k ⟨hk0, hk1, hok⟩
    by_cases hk : k < l.length
    · by_cases h1 : gt l k < 0
      · refine gg ?_
        exact grt () trivial
      · by_cases h2 : 65536 < gt l k
        · refine gg ?_
          exact grt () trivial
        · refine gg ?_
          exact gnx (k + 1) ⟨by omega, by omega, fun i i0 i1 => by
            by_cases e : i = k
            · rw [e]; omega
            · exact hok i i0 (by omega)⟩ (by omega)
    · exact (hm ⟨hl, fun i i0 i1 => hok i i0 (by omega)⟩).elim
  · refine gg ?_
    exact grt () trivial
theorem mayCol_c {m : Int} (w : World) (hA : Rds vi w A c l) (b : Bool) (hb : b = true ↔ (l.length : Int) = m ∧ ∀ i : Int, 0 ≤ i → i < l.length → 0 ≤ gt l i ∧ gt l i ≤ 65536) (hl : l.length ≤ 1000000) :
    Calls Try.prog 65 [vi m, .slice A l.length c].toArray w (one (.bool b) w) := by
  have oA := hA.old
  have fals : ¬ ((l.length : Int) = m ∧ ∀ i : Int, 0 ≤ i → i < l.length → 0 ≤ gt l i ∧ gt l i ≤ 65536) → b = false := fun h => by
    cases b with
    | false => rfl
    | true => exact (h (hb.1 rfl)).elim
  refine calls_wc [] [] [.tmp 4] (fun _ => [.bool b]) Try.func65 rfl rfl (fun _ => rfl) Try.ntmps65 rfl (Own.nil w) rfl ?_
  refine gg ?_
  by_cases hl : (l.length : Int) = m
  · refine gg ?_
    refine glp (fun k : Int => 0 ≤ k ∧ k ≤ l.length ∧ ∀ i : Int, 0 ≤ i → i < k → 0 ≤ gt l i ∧ gt l i ≤ 65536) (fun k => [(1, .slice A l.length c), (5, vi k)]) (fun _ => []) (fun k => (l.length - k).toNat) 0 ⟨by omega, by omega, fun i i0 i1 => by omega⟩ ?_
    rintro k ⟨hk0, hk1, hok⟩
    by_cases hk : k < l.length
    · by_cases h1 : gt l k < 0
      · obtain rfl := fals (fun h => by have := h.2 k hk0 hk; omega)
        refine gg ?_
        exact grt () trivial
      · by_cases h2 : 65536 < gt l k
        · obtain rfl := fals (fun h => by have := h.2 k hk0 hk; omega)
          refine gg ?_
          exact grt () trivial
        · refine gg ?_
          exact gnx (k + 1) ⟨by omega, by omega, fun i i0 i1 => by
            by_cases e : i = k
            · rw [e]; omega
            · exact hok i i0 (by omega)⟩ (by omega)
    · obtain rfl : b = true := hb.2 ⟨hl, fun i i0 i1 => hok i i0 (by omega)⟩
      refine gg ?_
      exact grt () trivial
  · obtain rfl := fals (fun h => hl h.1)
    refine gg ?_
    exact grt () trivial
theorem refClassesE_c (w : World) (hA : Rds vi w A c l) (hm : ¬ clMay l) :
    Calls Try.prog 26 [.slice A l.length c].toArray w (one (.tuple #[.slice none 0 0, vi 240]) w) := by
  have oA := hA.old
  refine calls_wc [] [] [.tmp 2, .tmp 3] (fun _ => [.slice none 0 0, vi 240]) Try.func26 rfl rfl (fun _ => rfl) Try.ntmps26 rfl (Own.nil w) rfl ?_
  refine gg ?_
  by_cases hl : l.length ≤ 128
  · refine gg ?_
    refine gc1 (fun w hst => mayCol_c (m := l.length) w (oA.now hst) false (by
      constructor
      · intro h; cases h
      · intro h; exact (hm ⟨hl, h.2⟩).elim) (by omega)) (by exact rfl) ?_
    refine gg ?_
    exact grt () trivial
  · refine gg ?_
    exact grt () trivial
theorem refClasses_c (w : World) (hA : Rds vi w A c l) (hm : clMay l) :
    Calls Try.prog 26 [.slice A l.length c].toArray w (Ret [] (fun y : ClX => .tuple #[.slice y.A y.rows.length y.c, vi 0]) (fun y => [osl TIs sv y.A y.c (y.rows.map rwV), bun (y.rows.map rwR)]) (fun y => ClI l (numS l).toNat l.length y.rows) w) := by
  have oA := hA.old
  have hl := hm.1
  have hnr : ∀ k : Nat, 0 ≤ numS (l.take k) ∧ numS (l.take k) ≤ 65537 := fun k => numS_rng (l.take k) (m := 65537) (fun d hd => by
    obtain ⟨i, i0, i1, e⟩ := mem_gt (List.mem_of_mem_take hd)
    have := hm.2 i i0 i1
    omega) (by omega)
  refine calls_wc [] [] [.tmp 2, .tmp 3] (fun y : ClX => [.slice y.A y.rows.length y.c, vi 0]) Try.func26 rfl rfl (fun _ => rfl) Try.ntmps26 rfl (Own.nil w) rfl ?_
  refine gg ?_
  refine gc1 (fun w hst => mayCol_c (m := l.length) w (oA.now hst) true (by simp; exact fun i i0 i1 => hm.2 i i0 i1) (by omega)) (by exact rfl) ?_
  refine wl_none TIs sv ?_
  refine wl_bun [] ?_
  (repeat (first | refine gk1 ?_ | refine gk2 ?_ | refine gk3 ?_ | refine gk0 ?_ | refine gk4 ?_))
  refine gg ?_
  refine glp (fun s : ClX => 0 ≤ s.k ∧ s.k ≤ l.length ∧ ClI l s.rows.length s.k s.rows ∧ (s.rows.length : Int) = numS (l.take s.k.toNat)) (fun s => [(0, .slice A l.length c), (4, .slice s.A s.rows.length s.c), (5, vi s.k)])
    (fun s => [osl TIs sv s.A s.c (s.rows.map rwV), bun (s.rows.map rwR)]) (fun s => (l.length - s.k).toNat) ⟨0, none, 0, []⟩ ⟨by simp, by simp, ⟨rfl, fun d d0 d1 => by dsimp only [List.length_nil] at d1; omega⟩, rfl⟩ ?_
  rintro ⟨k, AA, cc, rows⟩ ⟨hk0, hk1, hI, hnm⟩
  dsimp only at hk0 hk1 hI hnm ⊢
  by_cases hk : k < l.length
  · have hc := hm.2 k hk0 hk
    have htk := take_next (l := l) hk0 hk
    have hsn : numS (l.take (k + 1).toNat) = max (numS (l.take k.toNat)) (gt l k + 1) := by rw [htk, numS_snoc]
    have h1r := hnr k.toNat
    refine gg ?_
    refine glp (fun s : ClX => ClI l s.rows.length k s.rows ∧ numS (l.take k.toNat) ≤ s.rows.length ∧ (s.rows.length : Int) ≤ numS (l.take (k + 1).toNat)) (fun s => [(0, .slice A l.length c), (4, .slice s.A s.rows.length s.c), (5, vi k)])
      (fun s => [osl TIs sv s.A s.c (s.rows.map rwV), bun (s.rows.map rwR)]) (fun s => (numS (l.take (k + 1).toNat) - s.rows.length).toNat) ⟨0, AA, cc, rows⟩ ⟨hI, by dsimp only; omega, by dsimp only; omega⟩ ?_
    clear hI hnm
    rintro ⟨_, AA, cc, rows⟩ ⟨hI, hn1, hn2⟩
    dsimp only at hI hn1 hn2 ⊢
    have hrl2 : (rows.map rwV).length = rows.length := List.length_map _
    by_cases hmore : (rows.length : Int) ≤ gt l k
    · have hI2 : ClI l (rows ++ [default]).length k (rows ++ [default]) := ⟨rfl, fun d d0 d1 => by
        rw [List.length_append, List.length_singleton] at d1
        by_cases e : d = rows.length
        · rw [posTo_nil (c := d) fun i i0 i1 h => by
            have := numS_max _ _ (take_mem (l := l) i0 i1 (by omega))
            omega]
          have e2 : d.toNat = rows.length := by omega
          rw [gt_elem d0 (by simp; omega)]
          simp only [e2]
          simp
          rfl
        · rw [← hI.at_ d d0 (by omega), gt_elem d0 (by simp; omega), gt_elem d0 (by omega), List.getElem_append_left (by omega)]⟩
      refine gg ?_
      refine wl_op (ok_build1 sv (none, 0, 0) rfl rfl rfl rfl rfl (el_of rfl) (ze_of rfl) rfl (sz_of rfl) rfl ?_)
      intro b1
      rw [← hrl2]
      refine wl_op (ok_append 1 sv (ys := [(none, 0, 0)]) rfl rfl rfl rfl rfl rfl rfl (el_of rfl) (ze_of rfl) rfl (sz_of rfl) (by_of rfl) ⟨_, rfl⟩ (fun w hst => osl_reads (hst.at_ 0 rfl)) (fun _ => rfl) (by simp; omega) (by simp; omega) ?_)
      intro A' c'
      refine wl_nilrow rows ?_
      (repeat (first | refine gk1 ?_ | refine gk2 ?_ | refine gk3 ?_ | refine gk0 ?_ | refine gk4 ?_))
      rw [show rows.map rwV ++ [(none, 0, 0)] = List.map rwV (rows ++ [(default : RW)]) by rw [List.map_append]; rfl]
      rw [show (List.map rwV (rows ++ [(default : RW)])).length = List.length (rows ++ [(default : RW)]) from List.length_map _]
      refine gg ?_
      exact gnx (⟨0, A', c', rows ++ [default]⟩ : ClX) ⟨hI2, by dsimp only; simp; omega, by dsimp only; simp; omega⟩ (by dsimp only; simp; omega)
    · have hnm : (rows.length : Int) = numS (l.take (k + 1).toNat) := by omega
      have hxl := posTo_len l (c := gt l k) hk0
      rw [← hI.at_ _ hc.1 (by omega)] at hxl
      have hnx : ∀ A' c', ClI l (rows.set (gt l k).toNat ⟨A', c', (gt rows (gt l k)).xs ++ [k]⟩).length (k + 1) (rows.set (gt l k).toNat ⟨A', c', (gt rows (gt l k)).xs ++ [k]⟩) := fun A' c' => by
        have := hI.next (A := A') (c' := c') hk0 hc.1 (by omega)
        rwa [List.length_set]
      refine wc_know (φ := ∃ ad, AA = some ad) (fun w hst => (grd (f := sv) (e := TIs) (A := AA) (c := cc) (xs := rows.map rwV) hst).ad_ (by omega)) ?_
      rintro ⟨ad, rfl⟩
      refine wc_take (rows := rows) (i := gt l k) hc.1 (by omega) ?_
      (repeat (first | refine gk1 ?_ | refine gk2 ?_ | refine gk3 ?_ | refine gk0 ?_ | refine gk4 ?_))
      generalize hr : gt rows (gt l k) = r at hxl hnx
      dsimp only [rwR]
      rw [← hrl2]
      refine gg ?_
      refine gwa [osl TIs sv (some ad) cc (rows.map rwV), osl TI vi r.A r.c r.xs] ?_
      (repeat (first | refine gk1 ?_ | refine gk2 ?_ | refine gk3 ?_ | refine gk0 ?_ | refine gk4 ?_))
      dsimp only [List.cons_append, List.nil_append]
      (first | refine ga1 0 (by exact rfl) (by exact rfl) ?_ | refine ga2 0 (by exact rfl) (by exact rfl) ?_ | refine ga3 0 (by exact rfl) (by exact rfl) ?_ | refine ga4 0 (by exact rfl) (by exact rfl) ?_)
      (first | refine ga1 1 (by exact rfl) (by exact rfl) ?_ | refine ga2 1 (by exact rfl) (by exact rfl) ?_ | refine ga3 1 (by exact rfl) (by exact rfl) ?_ | refine ga4 1 (by exact rfl) (by exact rfl) ?_)
      (first | refine ga1 2 (by exact rfl) (by exact rfl) ?_ | refine ga2 2 (by exact rfl) (by exact rfl) ?_ | refine ga3 2 (by exact rfl) (by exact rfl) ?_ | refine ga4 2 (by exact rfl) (by exact rfl) ?_)
      (first | refine ga1 3 (by exact rfl) (by exact rfl) ?_ | refine ga2 3 (by exact rfl) (by exact rfl) ?_ | refine ga3 3 (by exact rfl) (by exact rfl) ?_ | refine ga4 3 (by exact rfl) (by exact rfl) ?_)
      (first | refine ga1 4 (by exact rfl) (by exact rfl) ?_ | refine ga2 4 (by exact rfl) (by exact rfl) ?_ | refine ga3 4 (by exact rfl) (by exact rfl) ?_ | refine ga4 4 (by exact rfl) (by exact rfl) ?_)
      (first | refine ga1 5 (by exact rfl) (by exact rfl) ?_ | refine ga2 5 (by exact rfl) (by exact rfl) ?_ | refine ga3 5 (by exact rfl) (by exact rfl) ?_ | refine ga4 5 (by exact rfl) (by exact rfl) ?_)
      (first | refine ga1 6 (by exact rfl) (by exact rfl) ?_ | refine ga2 6 (by exact rfl) (by exact rfl) ?_ | refine ga3 6 (by exact rfl) (by exact rfl) ?_ | refine ga4 6 (by exact rfl) (by exact rfl) ?_)
      (first | refine ga1 7 (by exact rfl) (by exact rfl) ?_ | refine ga2 7 (by exact rfl) (by exact rfl) ?_ | refine ga3 7 (by exact rfl) (by exact rfl) ?_ | refine ga4 7 (by exact rfl) (by exact rfl) ?_)
      (first | refine ga1 8 (by exact rfl) (by exact rfl) ?_ | refine ga2 8 (by exact rfl) (by exact rfl) ?_ | refine ga3 8 (by exact rfl) (by exact rfl) ?_ | refine ga4 8 (by exact rfl) (by exact rfl) ?_)
      (first | refine ga1 9 (by exact rfl) (by exact rfl) ?_ | refine ga2 9 (by exact rfl) (by exact rfl) ?_ | refine ga3 9 (by exact rfl) (by exact rfl) ?_ | refine ga4 9 (by exact rfl) (by exact rfl) ?_)
      (first | refine ga1 10 (by exact rfl) (by exact rfl) ?_ | refine ga2 10 (by exact rfl) (by exact rfl) ?_ | refine ga3 10 (by exact rfl) (by exact rfl) ?_ | refine ga4 10 (by exact rfl) (by exact rfl) ?_)
      (first | refine ga1 12 (by exact rfl) (by exact rfl) ?_ | refine ga2 12 (by exact rfl) (by exact rfl) ?_ | refine ga3 12 (by exact rfl) (by exact rfl) ?_ | refine ga4 12 (by exact rfl) (by exact rfl) ?_)
      refine gaAll [11, 13] ?_
      intro j hj
      simp only [List.mem_cons, List.not_mem_nil, or_false] at hj
      rcases hj with rfl | rfl
      · refine ⟨_, rfl, ?_⟩
        refine gl0 (by exact rfl) ?_
        rw [map_rwV_at hc.1 (by omega), hr, show sv (rwV r) = .slice r.A r.xs.length r.c from rfl]
        refine ⟨by (repeat (first | exact Suf.refl | exact Suf.nil | exact Suf.app _ _ | apply Suf.cons)), ?_⟩
        refine gaOne 13 rfl ?_
        refine ok_build1 vi k rfl rfl rfl rfl rfl (el_of rfl) (ze_of rfl) rfl (sz_of rfl) rfl ?_
        intro b2
        refine ⟨by (repeat (first | exact Suf.refl | exact Suf.nil | exact Suf.app _ _ | apply Suf.cons)), ?_⟩
        refine gaOne 14 rfl ?_
        refine ok_append 2 vi (ys := [k]) rfl rfl rfl rfl rfl rfl rfl (el_of rfl) (ze_of rfl) rfl (sz_of rfl) (by_of rfl) ⟨_, rfl⟩ (fun w hst => osl_reads (hst.at_ 0 rfl)) (fun _ => rfl) (by simp; omega) (by simp; omega) ?_
        intro A' c'
        refine ⟨by (repeat (first | exact Suf.refl | exact Suf.nil | exact Suf.app _ _ | apply Suf.cons)), ?_⟩
        (first | refine ga1 15 (by exact rfl) (by exact rfl) ?_ | refine ga2 15 (by exact rfl) (by exact rfl) ?_ | refine ga3 15 (by exact rfl) (by exact rfl) ?_ | refine ga4 15 (by exact rfl) (by exact rfl) ?_)
        refine gaOne 16 rfl ?_
        refine gt0 (by exact rfl) ?_ (hv := .there (.r (x := (A', (r.xs ++ [k]).length, c')) rfl rfl hc.1 (by omega)))
        rw [show (rows.map rwV).set (gt l k).toNat (A', (r.xs ++ [k]).length, c') = (rows.set (gt l k).toNat ⟨A', c', r.xs ++ [k]⟩).map rwV by rw [List.map_set]]
        refine ⟨by (repeat (first | exact Suf.refl | exact Suf.nil | exact Suf.app _ _ | apply Suf.cons)), ?_⟩
        refine gaDone ?_
        refine wc_give (rows := rows) (i := gt l k) ⟨A', c', r.xs ++ [k]⟩ hc.1 (by omega) ?_
        (repeat (first | refine gk1 ?_ | refine gk2 ?_ | refine gk3 ?_ | refine gk0 ?_ | refine gk4 ?_))
        refine gg ?_
        rw [show (rows.map rwV).length = (rows.set (gt l k).toNat ⟨A', c', r.xs ++ [k]⟩).length by simp]
        exact gnx (⟨k + 1, some ad, cc, rows.set (gt l k).toNat ⟨A', c', r.xs ++ [k]⟩⟩ : ClX) ⟨by dsimp only; omega, by dsimp only; omega, hnx A' c', by dsimp only; rw [List.length_set, hnm]⟩ (by dsimp only; omega)
      · refine ⟨_, rfl, ?_⟩
        refine ok_build1 vi k rfl rfl rfl rfl rfl (el_of rfl) (ze_of rfl) rfl (sz_of rfl) rfl ?_
        intro b2
        refine ⟨by (repeat (first | exact Suf.refl | exact Suf.nil | exact Suf.app _ _ | apply Suf.cons)), ?_⟩
        refine gaOne 11 rfl ?_
        refine gl0 (by exact rfl) ?_
        rw [map_rwV_at hc.1 (by omega), hr, show sv (rwV r) = .slice r.A r.xs.length r.c from rfl]
        refine ⟨by (repeat (first | exact Suf.refl | exact Suf.nil | exact Suf.app _ _ | apply Suf.cons)), ?_⟩
        refine gaOne 14 rfl ?_
        refine ok_append 2 vi (ys := [k]) rfl rfl rfl rfl rfl rfl rfl (el_of rfl) (ze_of rfl) rfl (sz_of rfl) (by_of rfl) ⟨_, rfl⟩ (fun w hst => osl_reads (hst.at_ 0 rfl)) (fun _ => rfl) (by simp; omega) (by simp; omega) ?_
        intro A' c'
        refine ⟨by (repeat (first | exact Suf.refl | exact Suf.nil | exact Suf.app _ _ | apply Suf.cons)), ?_⟩
        (first | refine ga1 15 (by exact rfl) (by exact rfl) ?_ | refine ga2 15 (by exact rfl) (by exact rfl) ?_ | refine ga3 15 (by exact rfl) (by exact rfl) ?_ | refine ga4 15 (by exact rfl) (by exact rfl) ?_)
        refine gaOne 16 rfl ?_
        refine gt0 (by exact rfl) ?_ (hv := .there (.r (x := (A', (r.xs ++ [k]).length, c')) rfl rfl hc.1 (by omega)))
        rw [show (rows.map rwV).set (gt l k).toNat (A', (r.xs ++ [k]).length, c') = (rows.set (gt l k).toNat ⟨A', c', r.xs ++ [k]⟩).map rwV by rw [List.map_set]]
        refine ⟨by (repeat (first | exact Suf.refl | exact Suf.nil | exact Suf.app _ _ | apply Suf.cons)), ?_⟩
        refine gaDone ?_
        refine wc_give (rows := rows) (i := gt l k) ⟨A', c', r.xs ++ [k]⟩ hc.1 (by omega) ?_
        (repeat (first | refine gk1 ?_ | refine gk2 ?_ | refine gk3 ?_ | refine gk0 ?_ | refine gk4 ?_))
        refine gg ?_
        rw [show (rows.map rwV).length = (rows.set (gt l k).toNat ⟨A', c', r.xs ++ [k]⟩).length by simp]
        exact gnx (⟨k + 1, some ad, cc, rows.set (gt l k).toNat ⟨A', c', r.xs ++ [k]⟩⟩ : ClX) ⟨by dsimp only; omega, by dsimp only; omega, hnx A' c', by dsimp only; rw [List.length_set, hnm]⟩ (by dsimp only; omega)
  · obtain rfl : k = l.length := by omega
    rw [Int.toNat_natCast, List.take_of_length_le (Nat.le_refl _)] at hnm
    rw [show rows.length = (numS l).toNat by omega] at hI
    refine gg ?_
    exact grt (⟨0, AA, cc, rows⟩ : ClX) hI
end
section
variable {A : Option Addr} {c g : Nat} {l : List Int}
theorem gints_c (s : GS) (w : World) (hA : RdO vi w ((Giv g s).flatMap Res.fp) A c l) (hl : l.length ≤ 17592186043904) (he : s.es.length ≤ 1000) (hw : Own (Giv g s) w) :
    Calls Try.prog 22 [.pointer (some ⟨g, 0, none⟩), .slice A l.length c].toArray w (Ret [bun (Giv g s)] (fun y : GS × GE => .slice y.2.A l.length y.2.c) (fun y => [bun (Giv g y.1)]) (fun y => y.1.es = s.es ++ [y.2] ∧ y.2.xs = l ++ gMarks) w) :=
  (ints_c s w hA hl he hw).mono fun e w' h => h.bun
/-- a given list reads so -/
theorem grdI {w0 w : World} {D : List Nat} {σ : List Res} {s : GS} {e : GE} (hst : St w0 D σ w) (h1 : e ∈ s.es) (x1 : e.xs = l ++ gMarks) (h : HasR σ (bun (Giv g s)) := by (repeat (first | exact .here | refine .there ?_)) <;> fail) : Rds vi w e.A e.c l := by
  have q1 := grB hst (Giv.mem (g := g) h1).1 h
  rw [x1] at q1
  exact (osl_reads q1).pre
theorem grdW {w0 w : World} {D : List Nat} {σ : List Res} {rows : List RW} {k : Int} (hst : St w0 D σ w) (k0 : 0 ≤ k) (k1 : k < rows.length) (h : HasR σ (bun (rows.map rwR)) := by (repeat (first | exact .here | refine .there ?_)) <;> fail) : Rds vi w (gt rows k).A (gt rows k).c (gt rows k).xs :=
  osl_reads (grB (r := rwR (gt rows k)) hst (List.mem_map.2 ⟨_, gt_mem k0 k1, rfl⟩) h)
theorem lawColourClasses_c (w : World) (hA : Rds vi w A c l) (hl : l.length ≤ 17592186043904) :
    Calls Try.prog 5 [.slice A l.length c].toArray w (one (.bool true) w) := by
  have oA := hA.old
  refine calls_wc [] [] [.tmp 2] (fun _ => [.bool true]) Try.func5 rfl rfl (fun _ => rfl) Try.ntmps5 rfl (Own.nil w) rfl ?_
  refine gnil ?_
  refine gg ?_
  refine wl_none TIs sv ?_
  refine wl_none TIs sv ?_
  refine wl_op (ok_alloc rfl rfl rfl rfl (ze_of rfl) ?_); intro g
  refine wl_giv (g := g) ?_
  (repeat (first | refine gk1 ?_ | refine gk2 ?_ | refine gk3 ?_ | refine gk0 ?_ | refine gk4 ?_))
  refine gg ?_
  refine gc3 [bun (Giv g ⟨none, 0, none, 0, []⟩)] (fun w hst hst1 => gints_c ⟨none, 0, none, 0, []⟩ w (oA.later (bun_out1 hst1)) hl (by simp) (bun_out1 hst1).own) (by exact rfl) ?_
  (repeat (first | refine gk1 ?_ | refine gk2 ?_ | refine gk3 ?_ | refine gk0 ?_ | refine gk4 ?_))
  rintro ⟨z, e⟩ ⟨h1, h2⟩
  dsimp only [List.cons_append, List.nil_append] at h1 h2 ⊢
  have me : e ∈ z.es := by rw [h1]; simp
  by_cases hm : clMay l
  · refine gc3 [] (fun w hst hst1 => classes_c (l := l) w (grdI hst me h2) hm) (by exact rfl) ?_
    (repeat (first | refine gk1 ?_ | refine gk2 ?_ | refine gk3 ?_ | refine gk0 ?_ | refine gk4 ?_))
    rintro ⟨_, A1, c1, r1⟩ hI1
    dsimp only [List.cons_append, List.nil_append] at hI1 ⊢
    refine gg ?_
    refine gc3 [] (fun w hst hst1 => refClasses_c (l := l) w (oA.now hst) hm) (by exact rfl) ?_
    (repeat (first | refine gk1 ?_ | refine gk2 ?_ | refine gk3 ?_ | refine gk0 ?_ | refine gk4 ?_))
    rintro ⟨_, A2, c2, r2⟩ hI2
    dsimp only [List.cons_append, List.nil_append] at hI2 ⊢
    have l1 := hI1.len
    have l2 := hI2.len
    have m1 : (r1.map rwV).length = r1.length := List.length_map _
    have m2 : (r2.map rwV).length = r2.length := List.length_map _
    have hnr := numS_rng l (m := 65537) (fun d hd => by
      obtain ⟨i, i0, i1, e⟩ := mem_gt hd
      have := hm.2 i i0 i1
      omega) (by omega)
    refine gg ?_
    refine gc1 (fun w hst => num_c _ w) (by exact rfl) ?_
    refine gg ?_
    refine gc3 [bun (Giv g z)] (fun w hst hst1 => gintact_c z w (by rw [h1]; simp) (bun_out1 hst1).own) (by exact rfl) ?_
    (repeat (first | refine gk1 ?_ | refine gk2 ?_ | refine gk3 ?_ | refine gk0 ?_ | refine gk4 ?_))
    rintro _ _
    dsimp only [List.cons_append, List.nil_append]
    refine gg ?_
    refine gc1 (fun w hst => alive_c w) (by exact rfl) ?_
    refine gg ?_
    refine glp (fun k : Int => 0 ≤ k ∧ k ≤ r2.length) (fun k => [(4, .slice A1 r1.length c1), (6, .slice A2 r2.length c2), (8, vi k)])
      (fun k => [osl TIs sv A1 c1 (r1.map rwV), bun (r1.map rwR), osl TIs sv A2 c2 (r2.map rwV), bun (r2.map rwR)]) (fun k => (r2.length - k).toNat) 0 ⟨by omega, by omega⟩ ?_
    rintro k ⟨hk0, hk1⟩
    by_cases hk : k < r2.length
    · have e1 := hI1.at_ k hk0 (by omega)
      have e2 := hI2.at_ k hk0 (by omega)
      refine gg ?_
      refine wc_quiet mixed (by kernel_rfl) ?_
      refine gg ?_
      refine gc2 (fun w hst => (by
        rw [map_rwV_at hk0 (by omega), map_rwV_at hk0 (by omega)]
        exact sameInts_c (xs := (gt r1 k).xs) (ys := (gt r2 k).xs) w (grdW hst hk0 (by omega)) (grdW hst hk0 (by omega)) true (by rw [e1, e2]; simp) : Calls Try.prog 24 [sv (gt (r1.map rwV) k), sv (gt (r2.map rwV) k)].toArray w (one (.bool true) w))) (by exact rfl) ?_
      refine gg ?_
      exact gnx (k + 1) ⟨by omega, by omega⟩ (by omega)
    · refine gg ?_
      exact grt () trivial
  · refine gc1 (fun w hst => classesE_c (l := l) w (grdI hst me h2) hm) (by exact rfl) ?_
    refine gg ?_
    refine gc1 (fun w hst => refClassesE_c (l := l) w (oA.now hst) hm) (by exact rfl) ?_
    refine gg ?_
    refine gc1 (fun w hst => num_c _ w) (by exact rfl) ?_
    refine gg ?_
    refine gc3 [bun (Giv g z)] (fun w hst hst1 => gintact_c z w (by rw [h1]; simp) (bun_out1 hst1).own) (by exact rfl) ?_
    (repeat (first | refine gk1 ?_ | refine gk2 ?_ | refine gk3 ?_ | refine gk0 ?_ | refine gk4 ?_))
    rintro _ _
    dsimp only [List.cons_append, List.nil_append]
    refine gg ?_
    refine gc1 (fun w hst => alive_c w) (by exact rfl) ?_
    refine gg ?_
    refine glp (fun k : Int => k = 0) (fun k => [(4, .slice none 0 0), (6, .slice none 0 0), (8, vi k)]) (fun k => []) (fun k => 0) 0 rfl ?_
    rintro k rfl
    refine gg ?_
    exact grt () trivial
end
end Go.Proofs.Ytoiiellaoikojaa
