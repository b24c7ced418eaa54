/- Walks: closed (Close, Graph). Walks: the reference: closed; Close, Graph. -/
import Derived.Test.YtofngbaefbbeiaaTF
import Derived.Test.YtofngbaefbbeiaaGA
set_option linter.unusedVariables false
set_option linter.unusedSimpArgs false
set_option maxHeartbeats 8000000
namespace Go.Proofs.Ytofngbaefbbeiaa
open Go.RowKit
abbrev CloI (db tb R : Nat) (ms : List Nat) (width : Int) (d : Bool) (S : Int → Int → Bool) : List Res := [blk db [.bool d] TB, blk tb [vi width, .slice (some ⟨R, 0, none⟩) ms.length ms.length] TT, Tab R ms S]
theorem closed1_c {p : Pat} (hm : May p) (hsq : p.rows = p.width) (d : Bool) (db tb R : Nat) (ms : List Nat) (hms : (ms.length : Int) = p.rows) (k r : Int) (w : World) (h0 : 0 ≤ r) (h1 : r < p.rows) (h2 : gt p.start r ≤ k) (h3 : k < gt p.start (r + 1)) (hw : Own (CloI db tb R ms p.width d (cloU p d k)) w) :
    Calls Try.prog 137 ([vi r, vi (gt p.cols k), vi k] ++ [Value.pointer (some ⟨db, 0, none⟩), Value.pointer (some ⟨tb, 0, none⟩)]).toArray w (Ret (CloI db tb R ms p.width d (cloU p d k)) (fun _ : Unit => .tuple #[]) (fun _ => CloI db tb R ms p.width d (cloU p d (k + 1))) (fun _ => True) w) := by
  obtain ⟨c0, c1, _⟩ := hm.row r h0 h1 k h2 h3
  have hr1 := hm.toHead.r1
  by_cases hd : d = true ∨ r ≠ gt p.cols k
  · rw [cloU_mark hm h0 h1 h2 h3 hd]
    by_cases hne : r = gt p.cols k
    · obtain rfl : d = true := by
        rcases hd with h | h
        · exact h
        · exact absurd hne h
      refine calls_wc ((CloI db tb R ms p.width true (cloU p true k)).flatMap Res.fp) (CloI db tb R ms p.width true (cloU p true k)) [] (fun _ => []) Try.func137 rfl rfl (fun _ => rfl) Try.ntmps137 rfl hw rfl ?_
      refine wc_splitB R ms (cloU p true k) ?_
      (repeat (first | refine gk1 ?_ | refine gk2 ?_ | refine gk3 ?_ | refine gk0 ?_ | refine gk4 ?_))
      refine gg ?_
      refine gwa [SetsB ms (cloU p true k) []] ?_
      (repeat (first | refine gk1 ?_ | refine gk2 ?_ | refine gk3 ?_ | refine gk0 ?_ | refine gk4 ?_))
      (first | refine ga1 0 (by exact rfl) (by exact rfl) ?_ | refine ga2 0 (by exact rfl) (by exact rfl) ?_ | refine ga3 0 (by exact rfl) (by exact rfl) ?_ | refine ga4 0 (by exact rfl) (by exact rfl) ?_)
      (first | refine ga1 1 (by exact rfl) (by exact rfl) ?_ | refine ga2 1 (by exact rfl) (by exact rfl) ?_ | refine ga3 1 (by exact rfl) (by exact rfl) ?_ | refine ga4 1 (by exact rfl) (by exact rfl) ?_)
      (first | refine ga1 2 (by exact rfl) (by exact rfl) ?_ | refine ga2 2 (by exact rfl) (by exact rfl) ?_ | refine ga3 2 (by exact rfl) (by exact rfl) ?_ | refine ga4 2 (by exact rfl) (by exact rfl) ?_)
      (first | refine ga1 3 (by exact rfl) (by exact rfl) ?_ | refine ga2 3 (by exact rfl) (by exact rfl) ?_ | refine ga3 3 (by exact rfl) (by exact rfl) ?_ | refine ga4 3 (by exact rfl) (by exact rfl) ?_)
      refine ga6 4 (by exact rfl) (by exact rfl) ?_
      (first | refine ga1 5 (by exact rfl) (by exact rfl) ?_ | refine ga2 5 (by exact rfl) (by exact rfl) ?_ | refine ga3 5 (by exact rfl) (by exact rfl) ?_ | refine ga4 5 (by exact rfl) (by exact rfl) ?_)
      (first | refine ga1 6 (by exact rfl) (by exact rfl) ?_ | refine ga2 6 (by exact rfl) (by exact rfl) ?_ | refine ga3 6 (by exact rfl) (by exact rfl) ?_ | refine ga4 6 (by exact rfl) (by exact rfl) ?_)
      (first | refine ga1 7 (by exact rfl) (by exact rfl) ?_ | refine ga2 7 (by exact rfl) (by exact rfl) ?_ | refine ga3 7 (by exact rfl) (by exact rfl) ?_ | refine ga4 7 (by exact rfl) (by exact rfl) ?_)
      (first | refine ga1 8 (by exact rfl) (by exact rfl) ?_ | refine ga2 8 (by exact rfl) (by exact rfl) ?_ | refine ga3 8 (by exact rfl) (by exact rfl) ?_ | refine ga4 8 (by exact rfl) (by exact rfl) ?_)
      (first | refine ga1 9 (by exact rfl) (by exact rfl) ?_ | refine ga2 9 (by exact rfl) (by exact rfl) ?_ | refine ga3 9 (by exact rfl) (by exact rfl) ?_ | refine ga4 9 (by exact rfl) (by exact rfl) ?_)
      refine ga6 10 (by exact rfl) (by exact rfl) ?_
      (first | refine ga1 11 (by exact rfl) (by exact rfl) ?_ | refine ga2 11 (by exact rfl) (by exact rfl) ?_ | refine ga3 11 (by exact rfl) (by exact rfl) ?_ | refine ga4 11 (by exact rfl) (by exact rfl) ?_)
      (first | refine ga1 12 (by exact rfl) (by exact rfl) ?_ | refine ga2 12 (by exact rfl) (by exact rfl) ?_ | refine ga3 12 (by exact rfl) (by exact rfl) ?_ | refine ga4 12 (by exact rfl) (by exact rfl) ?_)
      (first | refine ga1 13 (by exact rfl) (by exact rfl) ?_ | refine ga2 13 (by exact rfl) (by exact rfl) ?_ | refine ga3 13 (by exact rfl) (by exact rfl) ?_ | refine ga4 13 (by exact rfl) (by exact rfl) ?_)
      refine gaOne 14 rfl ?_
      refine gme (by exact rfl) (by omega) (by omega) (by omega) (by omega) ?_
      intro s1
      refine ⟨by (repeat (first | exact Suf.refl | exact Suf.nil | exact Suf.app _ _ | apply Suf.cons)), ?_⟩
      (first | refine ga1 15 (by exact rfl) (by exact rfl) ?_ | refine ga2 15 (by exact rfl) (by exact rfl) ?_ | refine ga3 15 (by exact rfl) (by exact rfl) ?_ | refine ga4 15 (by exact rfl) (by exact rfl) ?_)
      refine gaOne 16 rfl ?_
      refine ges (by exact rfl) (by simp) ?_
      refine ⟨by (repeat (first | exact Suf.refl | exact Suf.nil | exact Suf.app _ _ | apply Suf.cons)), ?_⟩
      refine gaOne 17 rfl ?_
      refine gme (by exact rfl) (by omega) (by omega) (by omega) (by omega) ?_
      intro s2
      refine ⟨by (repeat (first | exact Suf.refl | exact Suf.nil | exact Suf.app _ _ | apply Suf.cons)), ?_⟩
      (first | refine ga1 18 (by exact rfl) (by exact rfl) ?_ | refine ga2 18 (by exact rfl) (by exact rfl) ?_ | refine ga3 18 (by exact rfl) (by exact rfl) ?_ | refine ga4 18 (by exact rfl) (by exact rfl) ?_)
      refine gaOne 19 rfl ?_
      refine ges (by exact rfl) (by simp) ?_
      refine ⟨by (repeat (first | exact Suf.refl | exact Suf.nil | exact Suf.app _ _ | apply Suf.cons)), ?_⟩
      refine wa_joinB R ?_
      (repeat (first | refine gk1 ?_ | refine gk2 ?_ | refine gk3 ?_ | refine gk0 ?_ | refine gk4 ?_))
      refine gaDone ?_
      refine gg ?_
      exact grt () trivial
    · clear hd
      refine calls_wc ((CloI db tb R ms p.width d (cloU p d k)).flatMap Res.fp) (CloI db tb R ms p.width d (cloU p d k)) [] (fun _ => []) Try.func137 rfl rfl (fun _ => rfl) Try.ntmps137 rfl hw rfl ?_
      refine wc_splitB R ms (cloU p d k) ?_
      (repeat (first | refine gk1 ?_ | refine gk2 ?_ | refine gk3 ?_ | refine gk0 ?_ | refine gk4 ?_))
      refine gg ?_
      refine gwa [SetsB ms (cloU p d k) []] ?_
      (repeat (first | refine gk1 ?_ | refine gk2 ?_ | refine gk3 ?_ | refine gk0 ?_ | refine gk4 ?_))
      (first | refine ga1 0 (by exact rfl) (by exact rfl) ?_ | refine ga2 0 (by exact rfl) (by exact rfl) ?_ | refine ga3 0 (by exact rfl) (by exact rfl) ?_ | refine ga4 0 (by exact rfl) (by exact rfl) ?_)
      (first | refine ga1 1 (by exact rfl) (by exact rfl) ?_ | refine ga2 1 (by exact rfl) (by exact rfl) ?_ | refine ga3 1 (by exact rfl) (by exact rfl) ?_ | refine ga4 1 (by exact rfl) (by exact rfl) ?_)
      (first | refine ga1 2 (by exact rfl) (by exact rfl) ?_ | refine ga2 2 (by exact rfl) (by exact rfl) ?_ | refine ga3 2 (by exact rfl) (by exact rfl) ?_ | refine ga4 2 (by exact rfl) (by exact rfl) ?_)
      (first | refine ga1 3 (by exact rfl) (by exact rfl) ?_ | refine ga2 3 (by exact rfl) (by exact rfl) ?_ | refine ga3 3 (by exact rfl) (by exact rfl) ?_ | refine ga4 3 (by exact rfl) (by exact rfl) ?_)
      refine ga6 4 (by exact rfl) (by exact rfl) ?_
      (first | refine ga1 5 (by exact rfl) (by exact rfl) ?_ | refine ga2 5 (by exact rfl) (by exact rfl) ?_ | refine ga3 5 (by exact rfl) (by exact rfl) ?_ | refine ga4 5 (by exact rfl) (by exact rfl) ?_)
      (first | refine ga1 6 (by exact rfl) (by exact rfl) ?_ | refine ga2 6 (by exact rfl) (by exact rfl) ?_ | refine ga3 6 (by exact rfl) (by exact rfl) ?_ | refine ga4 6 (by exact rfl) (by exact rfl) ?_)
      (first | refine ga1 7 (by exact rfl) (by exact rfl) ?_ | refine ga2 7 (by exact rfl) (by exact rfl) ?_ | refine ga3 7 (by exact rfl) (by exact rfl) ?_ | refine ga4 7 (by exact rfl) (by exact rfl) ?_)
      (first | refine ga1 8 (by exact rfl) (by exact rfl) ?_ | refine ga2 8 (by exact rfl) (by exact rfl) ?_ | refine ga3 8 (by exact rfl) (by exact rfl) ?_ | refine ga4 8 (by exact rfl) (by exact rfl) ?_)
      (first | refine ga1 9 (by exact rfl) (by exact rfl) ?_ | refine ga2 9 (by exact rfl) (by exact rfl) ?_ | refine ga3 9 (by exact rfl) (by exact rfl) ?_ | refine ga4 9 (by exact rfl) (by exact rfl) ?_)
      refine ga6 10 (by exact rfl) (by exact rfl) ?_
      (first | refine ga1 11 (by exact rfl) (by exact rfl) ?_ | refine ga2 11 (by exact rfl) (by exact rfl) ?_ | refine ga3 11 (by exact rfl) (by exact rfl) ?_ | refine ga4 11 (by exact rfl) (by exact rfl) ?_)
      (first | refine ga1 12 (by exact rfl) (by exact rfl) ?_ | refine ga2 12 (by exact rfl) (by exact rfl) ?_ | refine ga3 12 (by exact rfl) (by exact rfl) ?_ | refine ga4 12 (by exact rfl) (by exact rfl) ?_)
      (first | refine ga1 13 (by exact rfl) (by exact rfl) ?_ | refine ga2 13 (by exact rfl) (by exact rfl) ?_ | refine ga3 13 (by exact rfl) (by exact rfl) ?_ | refine ga4 13 (by exact rfl) (by exact rfl) ?_)
      refine gaOne 14 rfl ?_
      refine gme (by exact rfl) (by omega) (by omega) (by omega) (by omega) ?_
      intro s1
      refine ⟨by (repeat (first | exact Suf.refl | exact Suf.nil | exact Suf.app _ _ | apply Suf.cons)), ?_⟩
      (first | refine ga1 15 (by exact rfl) (by exact rfl) ?_ | refine ga2 15 (by exact rfl) (by exact rfl) ?_ | refine ga3 15 (by exact rfl) (by exact rfl) ?_ | refine ga4 15 (by exact rfl) (by exact rfl) ?_)
      refine gaOne 16 rfl ?_
      refine ges (by exact rfl) (by simp) ?_
      refine ⟨by (repeat (first | exact Suf.refl | exact Suf.nil | exact Suf.app _ _ | apply Suf.cons)), ?_⟩
      refine gaOne 17 rfl ?_
      refine gme (by exact rfl) (by omega) (by omega) (by omega) (by omega) ?_
      intro s2
      refine ⟨by (repeat (first | exact Suf.refl | exact Suf.nil | exact Suf.app _ _ | apply Suf.cons)), ?_⟩
      (first | refine ga1 18 (by exact rfl) (by exact rfl) ?_ | refine ga2 18 (by exact rfl) (by exact rfl) ?_ | refine ga3 18 (by exact rfl) (by exact rfl) ?_ | refine ga4 18 (by exact rfl) (by exact rfl) ?_)
      refine gaOne 19 rfl ?_
      refine ges (by exact rfl) (by simp) ?_
      refine ⟨by (repeat (first | exact Suf.refl | exact Suf.nil | exact Suf.app _ _ | apply Suf.cons)), ?_⟩
      refine wa_joinB R ?_
      (repeat (first | refine gk1 ?_ | refine gk2 ?_ | refine gk3 ?_ | refine gk0 ?_ | refine gk4 ?_))
      refine gaDone ?_
      refine gg ?_
      exact grt () trivial
  · obtain rfl : d = false := by
      cases d with
      | false => rfl
      | true => exact absurd (.inl rfl) hd
    have he : r = gt p.cols k := by
      by_cases e : r = gt p.cols k
      · exact e
      · exact absurd (.inr e) hd
    rw [cloU_skip hm h0 h1 h2 h3 he]
    refine calls_wc ((CloI db tb R ms p.width false (cloU p false k)).flatMap Res.fp) (CloI db tb R ms p.width false (cloU p false k)) [] (fun _ => []) Try.func137 rfl rfl (fun _ => rfl) Try.ntmps137 rfl hw rfl ?_
    refine gg ?_
    exact grt () trivial
section
variable {p : Pat} {x : PA}
theorem closed_c (w : World) (hp : RdP w x p) (d : Bool) :
    Calls Try.prog 110 [pvl x p, .bool d].toArray w (Ret [] (fun y : PA => .tuple #[pvl y (closedS p d).1, vi (closedS p d).2]) (fun y => PatR y (closedS p d).1) (fun _ => True) w) := by
  have op := hp.old
  by_cases hm : May p
  · by_cases hsq : p.rows = p.width
    · obtain ⟨h1, h2, h3, h4, h5, h6, h7, h8⟩ := hm.toHead
      rw [show closedS p d = (shutP p.rows.toNat p.width (cloB p d), 0) by unfold closedS; rw [if_neg (by simp [hm]), if_neg (by simp [hsq])]]
      dsimp only
      unfold pvl patV
      refine calls_wc [] [] [.cell 4 TP, .tmp 5] (fun y : PA => [pvl y (shutP p.rows.toNat p.width (cloB p d)), vi 0]) Try.func110 rfl rfl (fun _ => rfl) Try.ntmps110 rfl (Own.nil w) rfl ?_
      refine gg ?_
      refine wl_op (ok_box rfl rfl rfl rfl rfl ?_); intro bp
      refine wl_op (ok_box rfl rfl rfl rfl rfl ?_); intro db
      refine wl_op (ok_alloc rfl rfl rfl rfl (ze_of rfl) ?_); intro rb
      refine gg ?_
      refine gc1 (fun w hst => may_t (op.s.now hst) (op.c.now hst) hm) (by exact rfl) ?_
      refine gg ?_
      refine gc3 [] (fun w hst hst1 => blank_c (rows := p.rows) (width := p.width) w h1 h2) (by exact rfl) ?_
      (repeat (first | refine gk1 ?_ | refine gk2 ?_ | refine gk3 ?_ | refine gk0 ?_ | refine gk4 ?_))
      rintro ⟨R, ms⟩ hms
      dsimp only [List.cons_append, List.nil_append] at hms ⊢
      refine wl_op (ok_alloc rfl rfl rfl rfl (ze_of rfl) ?_); intro tb
      refine gg ?_
      rw [← cloU_zero hm d]
      refine gc3 (CloI db tb R ms p.width d (cloU p d 0)) (fun w hst hst1 => each_c hm (fun k (_ : Unit) => CloI db tb R ms p.width d (cloU p d k)) (fun _ _ => True) 137 [Value.pointer (some ⟨db, 0, none⟩), Value.pointer (some ⟨tb, 0, none⟩)] (bod_of rfl) () w (op.s.later hst1) (op.c.later hst1) trivial hst1.own (fun k r _ w h0 h1 h2 h3 _ hw => closed1_c hm hsq d db tb R ms hms k r w h0 h1 h2 h3 hw.own)) (by exact rfl) ?_
      (repeat (first | refine gk1 ?_ | refine gk2 ?_ | refine gk3 ?_ | refine gk0 ?_ | refine gk4 ?_))
      rintro _ _
      dsimp only [List.cons_append, List.nil_append]
      rw [cloU_all hm]
      refine gg ?_
      refine gc3 [Tab R ms (cloB p d)] (fun w hst hst1 => shut_c (S := cloB p d) (width := p.width) w hst1.own (by omega)) (by exact rfl) ?_
      (repeat (first | refine gk1 ?_ | refine gk2 ?_ | refine gk3 ?_ | refine gk0 ?_ | refine gk4 ?_))
      rintro y _
      dsimp only [List.cons_append, List.nil_append]
      rw [nat_cast_toNat hms]
      refine gg ?_
      exact grt y trivial
    · rw [show closedS p d = (zP, 7) by unfold closedS; rw [if_neg (by simp [hm]), if_pos hsq]]
      dsimp only
      unfold pvl patV
      refine calls_wc [] [] [.cell 4 TP, .tmp 5] (fun y : PA => [pvl y zP, vi 7]) Try.func110 rfl rfl (fun _ => rfl) Try.ntmps110 rfl (Own.nil w) rfl ?_
      refine gnil ?_
      refine gnil ?_
      refine gg ?_
      refine wl_op (ok_box rfl rfl rfl rfl rfl ?_); intro bp
      refine wl_op (ok_box rfl rfl rfl rfl rfl ?_); intro db
      refine wl_op (ok_alloc rfl rfl rfl rfl (ze_of rfl) ?_); intro rb
      refine gg ?_
      refine gc1 (fun w hst => may_t (op.s.now hst) (op.c.now hst) hm) (by exact rfl) ?_
      refine gg ?_
      exact grt PA.nil trivial
  · rw [show closedS p d = (zP, 180) by unfold closedS; rw [if_pos hm]]
    dsimp only
    unfold pvl patV
    refine calls_wc [] [] [.cell 4 TP, .tmp 5] (fun y : PA => [pvl y zP, vi 180]) Try.func110 rfl rfl (fun _ => rfl) Try.ntmps110 rfl (Own.nil w) rfl ?_
    refine gnil ?_
    refine gnil ?_
    refine gg ?_
    refine wl_op (ok_box rfl rfl rfl rfl rfl ?_); intro bp
    refine wl_op (ok_box rfl rfl rfl rfl rfl ?_); intro db
    refine wl_op (ok_alloc rfl rfl rfl rfl (ze_of rfl) ?_); intro rb
    refine gg ?_
    refine gc1 (fun w hst => may_f (op.s.now hst) (op.c.now hst) hm) (by exact rfl) ?_
    refine gg ?_
    exact grt PA.nil trivial
end
section
variable {p : Pat} {x : PA}
theorem refClosed_c (w : World) (hp : RdP w x p) (d : Bool) :
    Calls Try.prog 111 [pvl x p, .bool d].toArray w (Ret [] (fun y : PA => .tuple #[pvl y (closedS p d).1, vi (closedS p d).2]) (fun y => PatR y (closedS p d).1) (fun _ => True) w) := by
  have op := hp.old
  by_cases hm : May p
  · by_cases hsq : p.rows = p.width
    · obtain ⟨h1, h2, h3, h4, h5, h6, h7, h8⟩ := hm.toHead
      rw [show closedS p d = (shutP p.rows.toNat p.width (cloB p d), 0) by unfold closedS; rw [if_neg (by simp [hm]), if_neg (by simp [hsq])]]
      obtain ⟨m0, m1⟩ := mul_small h1 h2 h3 h4
      dsimp only
      unfold pvl patV
      refine calls_wc [] [] [.cell 4 TP, .tmp 5] (fun y : PA => [pvl y (shutP p.rows.toNat p.width (cloB p d)), vi 0]) Try.func111 rfl rfl (fun _ => rfl) Try.ntmps111 rfl (Own.nil w) rfl ?_
      refine gg ?_
      refine wl_op (ok_box rfl rfl rfl rfl rfl ?_); intro bp
      refine wl_op (ok_alloc rfl rfl rfl rfl (ze_of rfl) ?_); intro rb
      refine gg ?_
      refine gc1 (fun w hst => refMay_c (op.s.now hst) (op.c.now hst) true (by simp [hm])) (by exact rfl) ?_
      refine gg ?_
      refine gc3 [] (fun w hst hst1 => open_c w (op.s.now hst) (op.c.now hst) hm) (by exact rfl) ?_
      (repeat (first | refine gk1 ?_ | refine gk2 ?_ | refine gk3 ?_ | refine gk0 ?_ | refine gk4 ?_))
      rintro ⟨A1, c1, on1⟩ hg1
      dsimp only [List.cons_append, List.nil_append] at hg1 ⊢
      refine wl_op (ok_alloc rfl rfl rfl rfl (ze_of rfl) ?_); intro gb
      refine gg ?_
      refine gc3 [] (fun w hst hst1 => empty_c w h1 h2 h3 h4) (by exact rfl) ?_
      (repeat (first | refine gk1 ?_ | refine gk2 ?_ | refine gk3 ?_ | refine gk0 ?_ | refine gk4 ?_))
      rintro b0 _
      dsimp only [List.cons_append, List.nil_append]
      refine wl_op (ok_alloc rfl rfl rfl rfl (ze_of rfl) ?_); intro tb
      refine gg ?_
      have hgl1 := hg1.len
      refine glp (fun x : BX => 0 ≤ x.k ∧ x.k ≤ p.rows ∧ IsGrid x.on p.rows p.width (fillS (cloB p d) x.k 0)) (fun x => [(1, .bool d), (2, .pointer (some ⟨bp, 0, none⟩)), (4, .pointer (some ⟨rb, 0, none⟩)), (6, .pointer (some ⟨gb, 0, none⟩)), (7, .pointer (some ⟨tb, 0, none⟩)), (8, vi x.k)])
        (fun x => [osl TB vb (some ⟨b0, 0, none⟩) (p.rows * p.width).toNat x.on, blk tb (gridC p.rows p.width (some ⟨b0, 0, none⟩) (p.rows * p.width).toNat (p.rows * p.width).toNat) TGr, osl TB vb A1 c1 on1, blk gb (gridC p.rows p.width A1 on1.length c1) TGr, blk rb pat0 TP]) (fun x => (p.rows - x.k).toNat) ⟨0, 0, List.replicate (p.rows * p.width).toNat false⟩ ⟨by simp, h1, fill_zero (IsGrid.none m0)⟩ ?_
      rintro ⟨r, _, on⟩ ⟨hr0, hr1, hg⟩
      dsimp only at hr0 hr1 hg ⊢
      by_cases hr : r < p.rows
      · refine gg ?_
        refine glp (fun x : BX => 0 ≤ x.c ∧ x.c ≤ p.width ∧ IsGrid x.on p.rows p.width (fillS (cloB p d) r x.c)) (fun x => [(1, .bool d), (2, .pointer (some ⟨bp, 0, none⟩)), (4, .pointer (some ⟨rb, 0, none⟩)), (6, .pointer (some ⟨gb, 0, none⟩)), (7, .pointer (some ⟨tb, 0, none⟩)), (8, vi r), (9, vi x.c)])
          (fun x => [osl TB vb (some ⟨b0, 0, none⟩) (p.rows * p.width).toNat x.on, blk tb (gridC p.rows p.width (some ⟨b0, 0, none⟩) (p.rows * p.width).toNat (p.rows * p.width).toNat) TGr, osl TB vb A1 c1 on1, blk gb (gridC p.rows p.width A1 on1.length c1) TGr, blk rb pat0 TP]) (fun x => (p.width - x.c).toNat) ⟨r, 0, on⟩ ⟨by simp, h3, hg⟩ ?_
        rintro ⟨_, k, on⟩ ⟨hk0, hk1, hg⟩
        dsimp only at hk0 hk1 hg ⊢
        have hgl := hg.len
        by_cases hk : k < p.width
        · have hcell := cell_lt hr0 hr hk0 hk
          have hcell1 := cell_lt (r := k) (c := r) (rows := p.rows) (width := p.width) hk0 (by omega) hr0 (by omega)
          obtain ⟨q0, q1⟩ := mul_small (x := r) (y := p.width) hr0 (by omega) h3 h4
          have hat := hg1.at_ r k hr0 hr hk0 hk
          have hat2 := hg1.at_ k r hk0 (by omega) hr0 (by omega)
          obtain ⟨B1, hB1⟩ : ∃ b, hasB p r k = b := ⟨_, rfl⟩
          obtain ⟨B2, hB2⟩ : ∃ b, hasB p k r = b := ⟨_, rfl⟩
          have hv : cloB p d r k = ((B1 || B2) && (d || !(r == k))) := by unfold cloB; rw [hB1, hB2]
          have hstep := fill_step (F := cloB p d) hg hr0 hr hk0 hk
          rw [hv] at hstep
          rw [hB1] at hat
          rw [hB2] at hat2
          clear hB1 hB2 hv
          refine gg ?_
          refine gwa [osl TB vb (some ⟨b0, 0, none⟩) (p.rows * p.width).toNat on] ?_
          (repeat (first | refine gk1 ?_ | refine gk2 ?_ | refine gk3 ?_ | refine gk0 ?_ | refine gk4 ?_))
          (first | refine ga1 0 (by exact rfl) (by exact rfl) ?_ | refine ga2 0 (by exact rfl) (by exact rfl) ?_ | refine ga3 0 (by exact rfl) (by exact rfl) ?_ | refine ga4 0 (by exact rfl) (by exact rfl) ?_)
          (first | refine ga1 1 (by exact rfl) (by exact rfl) ?_ | refine ga2 1 (by exact rfl) (by exact rfl) ?_ | refine ga3 1 (by exact rfl) (by exact rfl) ?_ | refine ga4 1 (by exact rfl) (by exact rfl) ?_)
          (first | refine ga1 2 (by exact rfl) (by exact rfl) ?_ | refine ga2 2 (by exact rfl) (by exact rfl) ?_ | refine ga3 2 (by exact rfl) (by exact rfl) ?_ | refine ga4 2 (by exact rfl) (by exact rfl) ?_)
          (first | refine ga1 3 (by exact rfl) (by exact rfl) ?_ | refine ga2 3 (by exact rfl) (by exact rfl) ?_ | refine ga3 3 (by exact rfl) (by exact rfl) ?_ | refine ga4 3 (by exact rfl) (by exact rfl) ?_)
          (first | refine ga1 4 (by exact rfl) (by exact rfl) ?_ | refine ga2 4 (by exact rfl) (by exact rfl) ?_ | refine ga3 4 (by exact rfl) (by exact rfl) ?_ | refine ga4 4 (by exact rfl) (by exact rfl) ?_)
          (first | refine ga1 5 (by exact rfl) (by exact rfl) ?_ | refine ga2 5 (by exact rfl) (by exact rfl) ?_ | refine ga3 5 (by exact rfl) (by exact rfl) ?_ | refine ga4 5 (by exact rfl) (by exact rfl) ?_)
          (first | refine ga1 6 (by exact rfl) (by exact rfl) ?_ | refine ga2 6 (by exact rfl) (by exact rfl) ?_ | refine ga3 6 (by exact rfl) (by exact rfl) ?_ | refine ga4 6 (by exact rfl) (by exact rfl) ?_)
          (first | refine ga1 7 (by exact rfl) (by exact rfl) ?_ | refine ga2 7 (by exact rfl) (by exact rfl) ?_ | refine ga3 7 (by exact rfl) (by exact rfl) ?_ | refine ga4 7 (by exact rfl) (by exact rfl) ?_)
          (first | refine ga1 8 (by exact rfl) (by exact rfl) ?_ | refine ga2 8 (by exact rfl) (by exact rfl) ?_ | refine ga3 8 (by exact rfl) (by exact rfl) ?_ | refine ga4 8 (by exact rfl) (by exact rfl) ?_)
          (first | refine ga1 9 (by exact rfl) (by exact rfl) ?_ | refine ga2 9 (by exact rfl) (by exact rfl) ?_ | refine ga3 9 (by exact rfl) (by exact rfl) ?_ | refine ga4 9 (by exact rfl) (by exact rfl) ?_)
          (first | refine ga1 10 (by exact rfl) (by exact rfl) ?_ | refine ga2 10 (by exact rfl) (by exact rfl) ?_ | refine ga3 10 (by exact rfl) (by exact rfl) ?_ | refine ga4 10 (by exact rfl) (by exact rfl) ?_)
          refine gaOne 11 rfl ?_
          refine gc10 (fun w hst => at_c (rows := p.rows) (width := p.width) (r := r) (x := k) w (grd hst) h3 h4 hr0 (by omega) hk0 (by omega) (by omega) _ hat) (by exact rfl) ?_
          refine ⟨by (repeat (first | exact Suf.refl | exact Suf.nil | exact Suf.app _ _ | apply Suf.cons)), ?_⟩
          cases B1 with
          | true =>
            (first | refine ga1 12 (by exact rfl) (by exact rfl) ?_ | refine ga2 12 (by exact rfl) (by exact rfl) ?_ | refine ga3 12 (by exact rfl) (by exact rfl) ?_ | refine ga4 12 (by exact rfl) (by exact rfl) ?_)
            (first | refine ga1 13 (by exact rfl) (by exact rfl) ?_ | refine ga2 13 (by exact rfl) (by exact rfl) ?_ | refine ga3 13 (by exact rfl) (by exact rfl) ?_ | refine ga4 13 (by exact rfl) (by exact rfl) ?_)
            (first | refine ga1 14 (by exact rfl) (by exact rfl) ?_ | refine ga2 14 (by exact rfl) (by exact rfl) ?_ | refine ga3 14 (by exact rfl) (by exact rfl) ?_ | refine ga4 14 (by exact rfl) (by exact rfl) ?_)
            (first | refine ga1 15 (by exact rfl) (by exact rfl) ?_ | refine ga2 15 (by exact rfl) (by exact rfl) ?_ | refine ga3 15 (by exact rfl) (by exact rfl) ?_ | refine ga4 15 (by exact rfl) (by exact rfl) ?_)
            (first | refine ga1 16 (by exact rfl) (by exact rfl) ?_ | refine ga2 16 (by exact rfl) (by exact rfl) ?_ | refine ga3 16 (by exact rfl) (by exact rfl) ?_ | refine ga4 16 (by exact rfl) (by exact rfl) ?_)
            (first | refine ga1 17 (by exact rfl) (by exact rfl) ?_ | refine ga2 17 (by exact rfl) (by exact rfl) ?_ | refine ga3 17 (by exact rfl) (by exact rfl) ?_ | refine ga4 17 (by exact rfl) (by exact rfl) ?_)
            (first | refine ga1 18 (by exact rfl) (by exact rfl) ?_ | refine ga2 18 (by exact rfl) (by exact rfl) ?_ | refine ga3 18 (by exact rfl) (by exact rfl) ?_ | refine ga4 18 (by exact rfl) (by exact rfl) ?_)
            cases d with
            | true =>
              (first | refine ga1 19 (by exact rfl) (by exact rfl) ?_ | refine ga2 19 (by exact rfl) (by exact rfl) ?_ | refine ga3 19 (by exact rfl) (by exact rfl) ?_ | refine ga4 19 (by exact rfl) (by exact rfl) ?_)
              (first | refine ga1 20 (by exact rfl) (by exact rfl) ?_ | refine ga2 20 (by exact rfl) (by exact rfl) ?_ | refine ga3 20 (by exact rfl) (by exact rfl) ?_ | refine ga4 20 (by exact rfl) (by exact rfl) ?_)
              (first | refine ga1 21 (by exact rfl) (by exact rfl) ?_ | refine ga2 21 (by exact rfl) (by exact rfl) ?_ | refine ga3 21 (by exact rfl) (by exact rfl) ?_ | refine ga4 21 (by exact rfl) (by exact rfl) ?_)
              (first | refine ga1 22 (by exact rfl) (by exact rfl) ?_ | refine ga2 22 (by exact rfl) (by exact rfl) ?_ | refine ga3 22 (by exact rfl) (by exact rfl) ?_ | refine ga4 22 (by exact rfl) (by exact rfl) ?_)
              (first | refine ga1 23 (by exact rfl) (by exact rfl) ?_ | refine ga2 23 (by exact rfl) (by exact rfl) ?_ | refine ga3 23 (by exact rfl) (by exact rfl) ?_ | refine ga4 23 (by exact rfl) (by exact rfl) ?_)
              (first | refine ga1 24 (by exact rfl) (by exact rfl) ?_ | refine ga2 24 (by exact rfl) (by exact rfl) ?_ | refine ga3 24 (by exact rfl) (by exact rfl) ?_ | refine ga4 24 (by exact rfl) (by exact rfl) ?_)
              (first | refine ga1 25 (by exact rfl) (by exact rfl) ?_ | refine ga2 25 (by exact rfl) (by exact rfl) ?_ | refine ga3 25 (by exact rfl) (by exact rfl) ?_ | refine ga4 25 (by exact rfl) (by exact rfl) ?_)
              (first | refine ga1 26 (by exact rfl) (by exact rfl) ?_ | refine ga2 26 (by exact rfl) (by exact rfl) ?_ | refine ga3 26 (by exact rfl) (by exact rfl) ?_ | refine ga4 26 (by exact rfl) (by exact rfl) ?_)
              refine gaOne 27 rfl ?_
              refine gt0 (by exact rfl) ?_
              refine ⟨by (repeat (first | exact Suf.refl | exact Suf.nil | exact Suf.app _ _ | apply Suf.cons)), ?_⟩
              refine gaDone ?_
              refine gg ?_
              exact gnx (⟨r, k + 1, on.set (r * p.width + k).toNat true⟩ : BX) ⟨by dsimp only; omega, by dsimp only; omega, by simpa using hstep⟩ (by dsimp only; omega)
            | false =>
              by_cases hrk : r = k
              · (first | refine ga1 19 (by exact rfl) (by exact rfl) ?_ | refine ga2 19 (by exact rfl) (by exact rfl) ?_ | refine ga3 19 (by exact rfl) (by exact rfl) ?_ | refine ga4 19 (by exact rfl) (by exact rfl) ?_)
                (first | refine ga1 20 (by exact rfl) (by exact rfl) ?_ | refine ga2 20 (by exact rfl) (by exact rfl) ?_ | refine ga3 20 (by exact rfl) (by exact rfl) ?_ | refine ga4 20 (by exact rfl) (by exact rfl) ?_)
                (first | refine ga1 21 (by exact rfl) (by exact rfl) ?_ | refine ga2 21 (by exact rfl) (by exact rfl) ?_ | refine ga3 21 (by exact rfl) (by exact rfl) ?_ | refine ga4 21 (by exact rfl) (by exact rfl) ?_)
                (first | refine ga1 22 (by exact rfl) (by exact rfl) ?_ | refine ga2 22 (by exact rfl) (by exact rfl) ?_ | refine ga3 22 (by exact rfl) (by exact rfl) ?_ | refine ga4 22 (by exact rfl) (by exact rfl) ?_)
                (first | refine ga1 23 (by exact rfl) (by exact rfl) ?_ | refine ga2 23 (by exact rfl) (by exact rfl) ?_ | refine ga3 23 (by exact rfl) (by exact rfl) ?_ | refine ga4 23 (by exact rfl) (by exact rfl) ?_)
                (first | refine ga1 24 (by exact rfl) (by exact rfl) ?_ | refine ga2 24 (by exact rfl) (by exact rfl) ?_ | refine ga3 24 (by exact rfl) (by exact rfl) ?_ | refine ga4 24 (by exact rfl) (by exact rfl) ?_)
                (first | refine ga1 25 (by exact rfl) (by exact rfl) ?_ | refine ga2 25 (by exact rfl) (by exact rfl) ?_ | refine ga3 25 (by exact rfl) (by exact rfl) ?_ | refine ga4 25 (by exact rfl) (by exact rfl) ?_)
                (first | refine ga1 26 (by exact rfl) (by exact rfl) ?_ | refine ga2 26 (by exact rfl) (by exact rfl) ?_ | refine ga3 26 (by exact rfl) (by exact rfl) ?_ | refine ga4 26 (by exact rfl) (by exact rfl) ?_)
                refine gaOne 27 rfl ?_
                refine gt0 (by exact rfl) ?_
                refine ⟨by (repeat (first | exact Suf.refl | exact Suf.nil | exact Suf.app _ _ | apply Suf.cons)), ?_⟩
                refine gaDone ?_
                refine gg ?_
                exact gnx (⟨r, k + 1, on.set (r * p.width + k).toNat false⟩ : BX) ⟨by dsimp only; omega, by dsimp only; omega, by simpa [hrk] using hstep⟩ (by dsimp only; omega)
              · (first | refine ga1 19 (by exact rfl) (by exact rfl) ?_ | refine ga2 19 (by exact rfl) (by exact rfl) ?_ | refine ga3 19 (by exact rfl) (by exact rfl) ?_ | refine ga4 19 (by exact rfl) (by exact rfl) ?_)
                (first | refine ga1 20 (by exact rfl) (by exact rfl) ?_ | refine ga2 20 (by exact rfl) (by exact rfl) ?_ | refine ga3 20 (by exact rfl) (by exact rfl) ?_ | refine ga4 20 (by exact rfl) (by exact rfl) ?_)
                (first | refine ga1 21 (by exact rfl) (by exact rfl) ?_ | refine ga2 21 (by exact rfl) (by exact rfl) ?_ | refine ga3 21 (by exact rfl) (by exact rfl) ?_ | refine ga4 21 (by exact rfl) (by exact rfl) ?_)
                (first | refine ga1 22 (by exact rfl) (by exact rfl) ?_ | refine ga2 22 (by exact rfl) (by exact rfl) ?_ | refine ga3 22 (by exact rfl) (by exact rfl) ?_ | refine ga4 22 (by exact rfl) (by exact rfl) ?_)
                (first | refine ga1 23 (by exact rfl) (by exact rfl) ?_ | refine ga2 23 (by exact rfl) (by exact rfl) ?_ | refine ga3 23 (by exact rfl) (by exact rfl) ?_ | refine ga4 23 (by exact rfl) (by exact rfl) ?_)
                (first | refine ga1 24 (by exact rfl) (by exact rfl) ?_ | refine ga2 24 (by exact rfl) (by exact rfl) ?_ | refine ga3 24 (by exact rfl) (by exact rfl) ?_ | refine ga4 24 (by exact rfl) (by exact rfl) ?_)
                (first | refine ga1 25 (by exact rfl) (by exact rfl) ?_ | refine ga2 25 (by exact rfl) (by exact rfl) ?_ | refine ga3 25 (by exact rfl) (by exact rfl) ?_ | refine ga4 25 (by exact rfl) (by exact rfl) ?_)
                (first | refine ga1 26 (by exact rfl) (by exact rfl) ?_ | refine ga2 26 (by exact rfl) (by exact rfl) ?_ | refine ga3 26 (by exact rfl) (by exact rfl) ?_ | refine ga4 26 (by exact rfl) (by exact rfl) ?_)
                refine gaOne 27 rfl ?_
                refine gt0 (by exact rfl) ?_
                refine ⟨by (repeat (first | exact Suf.refl | exact Suf.nil | exact Suf.app _ _ | apply Suf.cons)), ?_⟩
                refine gaDone ?_
                refine gg ?_
                exact gnx (⟨r, k + 1, on.set (r * p.width + k).toNat true⟩ : BX) ⟨by dsimp only; omega, by dsimp only; omega, by rw [show (r == k) = false by simpa using hrk] at hstep; simpa using hstep⟩ (by dsimp only; omega)
          | false =>
            (first | refine ga1 12 (by exact rfl) (by exact rfl) ?_ | refine ga2 12 (by exact rfl) (by exact rfl) ?_ | refine ga3 12 (by exact rfl) (by exact rfl) ?_ | refine ga4 12 (by exact rfl) (by exact rfl) ?_)
            (first | refine ga1 13 (by exact rfl) (by exact rfl) ?_ | refine ga2 13 (by exact rfl) (by exact rfl) ?_ | refine ga3 13 (by exact rfl) (by exact rfl) ?_ | refine ga4 13 (by exact rfl) (by exact rfl) ?_)
            (first | refine ga1 14 (by exact rfl) (by exact rfl) ?_ | refine ga2 14 (by exact rfl) (by exact rfl) ?_ | refine ga3 14 (by exact rfl) (by exact rfl) ?_ | refine ga4 14 (by exact rfl) (by exact rfl) ?_)
            (first | refine ga1 15 (by exact rfl) (by exact rfl) ?_ | refine ga2 15 (by exact rfl) (by exact rfl) ?_ | refine ga3 15 (by exact rfl) (by exact rfl) ?_ | refine ga4 15 (by exact rfl) (by exact rfl) ?_)
            refine gaOne 16 rfl ?_
            refine gc10 (fun w hst => at_c (rows := p.rows) (width := p.width) (r := k) (x := r) w (grd hst) h3 h4 hk0 (by omega) hr0 (by omega) (by omega) _ hat2) (by exact rfl) ?_
            refine ⟨by (repeat (first | exact Suf.refl | exact Suf.nil | exact Suf.app _ _ | apply Suf.cons)), ?_⟩
            (first | refine ga1 17 (by exact rfl) (by exact rfl) ?_ | refine ga2 17 (by exact rfl) (by exact rfl) ?_ | refine ga3 17 (by exact rfl) (by exact rfl) ?_ | refine ga4 17 (by exact rfl) (by exact rfl) ?_)
            (first | refine ga1 18 (by exact rfl) (by exact rfl) ?_ | refine ga2 18 (by exact rfl) (by exact rfl) ?_ | refine ga3 18 (by exact rfl) (by exact rfl) ?_ | refine ga4 18 (by exact rfl) (by exact rfl) ?_)
            cases B2 with
            | true =>
              cases d with
              | true =>
                (first | refine ga1 19 (by exact rfl) (by exact rfl) ?_ | refine ga2 19 (by exact rfl) (by exact rfl) ?_ | refine ga3 19 (by exact rfl) (by exact rfl) ?_ | refine ga4 19 (by exact rfl) (by exact rfl) ?_)
                (first | refine ga1 20 (by exact rfl) (by exact rfl) ?_ | refine ga2 20 (by exact rfl) (by exact rfl) ?_ | refine ga3 20 (by exact rfl) (by exact rfl) ?_ | refine ga4 20 (by exact rfl) (by exact rfl) ?_)
                (first | refine ga1 21 (by exact rfl) (by exact rfl) ?_ | refine ga2 21 (by exact rfl) (by exact rfl) ?_ | refine ga3 21 (by exact rfl) (by exact rfl) ?_ | refine ga4 21 (by exact rfl) (by exact rfl) ?_)
                (first | refine ga1 22 (by exact rfl) (by exact rfl) ?_ | refine ga2 22 (by exact rfl) (by exact rfl) ?_ | refine ga3 22 (by exact rfl) (by exact rfl) ?_ | refine ga4 22 (by exact rfl) (by exact rfl) ?_)
                (first | refine ga1 23 (by exact rfl) (by exact rfl) ?_ | refine ga2 23 (by exact rfl) (by exact rfl) ?_ | refine ga3 23 (by exact rfl) (by exact rfl) ?_ | refine ga4 23 (by exact rfl) (by exact rfl) ?_)
                (first | refine ga1 24 (by exact rfl) (by exact rfl) ?_ | refine ga2 24 (by exact rfl) (by exact rfl) ?_ | refine ga3 24 (by exact rfl) (by exact rfl) ?_ | refine ga4 24 (by exact rfl) (by exact rfl) ?_)
                (first | refine ga1 25 (by exact rfl) (by exact rfl) ?_ | refine ga2 25 (by exact rfl) (by exact rfl) ?_ | refine ga3 25 (by exact rfl) (by exact rfl) ?_ | refine ga4 25 (by exact rfl) (by exact rfl) ?_)
                (first | refine ga1 26 (by exact rfl) (by exact rfl) ?_ | refine ga2 26 (by exact rfl) (by exact rfl) ?_ | refine ga3 26 (by exact rfl) (by exact rfl) ?_ | refine ga4 26 (by exact rfl) (by exact rfl) ?_)
                refine gaOne 27 rfl ?_
                refine gt0 (by exact rfl) ?_
                refine ⟨by (repeat (first | exact Suf.refl | exact Suf.nil | exact Suf.app _ _ | apply Suf.cons)), ?_⟩
                refine gaDone ?_
                refine gg ?_
                exact gnx (⟨r, k + 1, on.set (r * p.width + k).toNat true⟩ : BX) ⟨by dsimp only; omega, by dsimp only; omega, by simpa using hstep⟩ (by dsimp only; omega)
              | false =>
                by_cases hrk : r = k
                · (first | refine ga1 19 (by exact rfl) (by exact rfl) ?_ | refine ga2 19 (by exact rfl) (by exact rfl) ?_ | refine ga3 19 (by exact rfl) (by exact rfl) ?_ | refine ga4 19 (by exact rfl) (by exact rfl) ?_)
                  (first | refine ga1 20 (by exact rfl) (by exact rfl) ?_ | refine ga2 20 (by exact rfl) (by exact rfl) ?_ | refine ga3 20 (by exact rfl) (by exact rfl) ?_ | refine ga4 20 (by exact rfl) (by exact rfl) ?_)
                  (first | refine ga1 21 (by exact rfl) (by exact rfl) ?_ | refine ga2 21 (by exact rfl) (by exact rfl) ?_ | refine ga3 21 (by exact rfl) (by exact rfl) ?_ | refine ga4 21 (by exact rfl) (by exact rfl) ?_)
                  (first | refine ga1 22 (by exact rfl) (by exact rfl) ?_ | refine ga2 22 (by exact rfl) (by exact rfl) ?_ | refine ga3 22 (by exact rfl) (by exact rfl) ?_ | refine ga4 22 (by exact rfl) (by exact rfl) ?_)
                  (first | refine ga1 23 (by exact rfl) (by exact rfl) ?_ | refine ga2 23 (by exact rfl) (by exact rfl) ?_ | refine ga3 23 (by exact rfl) (by exact rfl) ?_ | refine ga4 23 (by exact rfl) (by exact rfl) ?_)
                  (first | refine ga1 24 (by exact rfl) (by exact rfl) ?_ | refine ga2 24 (by exact rfl) (by exact rfl) ?_ | refine ga3 24 (by exact rfl) (by exact rfl) ?_ | refine ga4 24 (by exact rfl) (by exact rfl) ?_)
                  (first | refine ga1 25 (by exact rfl) (by exact rfl) ?_ | refine ga2 25 (by exact rfl) (by exact rfl) ?_ | refine ga3 25 (by exact rfl) (by exact rfl) ?_ | refine ga4 25 (by exact rfl) (by exact rfl) ?_)
                  (first | refine ga1 26 (by exact rfl) (by exact rfl) ?_ | refine ga2 26 (by exact rfl) (by exact rfl) ?_ | refine ga3 26 (by exact rfl) (by exact rfl) ?_ | refine ga4 26 (by exact rfl) (by exact rfl) ?_)
                  refine gaOne 27 rfl ?_
                  refine gt0 (by exact rfl) ?_
                  refine ⟨by (repeat (first | exact Suf.refl | exact Suf.nil | exact Suf.app _ _ | apply Suf.cons)), ?_⟩
                  refine gaDone ?_
                  refine gg ?_
                  exact gnx (⟨r, k + 1, on.set (r * p.width + k).toNat false⟩ : BX) ⟨by dsimp only; omega, by dsimp only; omega, by simpa [hrk] using hstep⟩ (by dsimp only; omega)
                · (first | refine ga1 19 (by exact rfl) (by exact rfl) ?_ | refine ga2 19 (by exact rfl) (by exact rfl) ?_ | refine ga3 19 (by exact rfl) (by exact rfl) ?_ | refine ga4 19 (by exact rfl) (by exact rfl) ?_)
                  (first | refine ga1 20 (by exact rfl) (by exact rfl) ?_ | refine ga2 20 (by exact rfl) (by exact rfl) ?_ | refine ga3 20 (by exact rfl) (by exact rfl) ?_ | refine ga4 20 (by exact rfl) (by exact rfl) ?_)
                  (first | refine ga1 21 (by exact rfl) (by exact rfl) ?_ | refine ga2 21 (by exact rfl) (by exact rfl) ?_ | refine ga3 21 (by exact rfl) (by exact rfl) ?_ | refine ga4 21 (by exact rfl) (by exact rfl) ?_)
                  (first | refine ga1 22 (by exact rfl) (by exact rfl) ?_ | refine ga2 22 (by exact rfl) (by exact rfl) ?_ | refine ga3 22 (by exact rfl) (by exact rfl) ?_ | refine ga4 22 (by exact rfl) (by exact rfl) ?_)
                  (first | refine ga1 23 (by exact rfl) (by exact rfl) ?_ | refine ga2 23 (by exact rfl) (by exact rfl) ?_ | refine ga3 23 (by exact rfl) (by exact rfl) ?_ | refine ga4 23 (by exact rfl) (by exact rfl) ?_)
                  (first | refine ga1 24 (by exact rfl) (by exact rfl) ?_ | refine ga2 24 (by exact rfl) (by exact rfl) ?_ | refine ga3 24 (by exact rfl) (by exact rfl) ?_ | refine ga4 24 (by exact rfl) (by exact rfl) ?_)
                  (first | refine ga1 25 (by exact rfl) (by exact rfl) ?_ | refine ga2 25 (by exact rfl) (by exact rfl) ?_ | refine ga3 25 (by exact rfl) (by exact rfl) ?_ | refine ga4 25 (by exact rfl) (by exact rfl) ?_)
                  (first | refine ga1 26 (by exact rfl) (by exact rfl) ?_ | refine ga2 26 (by exact rfl) (by exact rfl) ?_ | refine ga3 26 (by exact rfl) (by exact rfl) ?_ | refine ga4 26 (by exact rfl) (by exact rfl) ?_)
                  refine gaOne 27 rfl ?_
                  refine gt0 (by exact rfl) ?_
                  refine ⟨by (repeat (first | exact Suf.refl | exact Suf.nil | exact Suf.app _ _ | apply Suf.cons)), ?_⟩
                  refine gaDone ?_
                  refine gg ?_
                  exact gnx (⟨r, k + 1, on.set (r * p.width + k).toNat true⟩ : BX) ⟨by dsimp only; omega, by dsimp only; omega, by rw [show (r == k) = false by simpa using hrk] at hstep; simpa using hstep⟩ (by dsimp only; omega)
            | false =>
              (first | refine ga1 19 (by exact rfl) (by exact rfl) ?_ | refine ga2 19 (by exact rfl) (by exact rfl) ?_ | refine ga3 19 (by exact rfl) (by exact rfl) ?_ | refine ga4 19 (by exact rfl) (by exact rfl) ?_)
              (first | refine ga1 20 (by exact rfl) (by exact rfl) ?_ | refine ga2 20 (by exact rfl) (by exact rfl) ?_ | refine ga3 20 (by exact rfl) (by exact rfl) ?_ | refine ga4 20 (by exact rfl) (by exact rfl) ?_)
              (first | refine ga1 21 (by exact rfl) (by exact rfl) ?_ | refine ga2 21 (by exact rfl) (by exact rfl) ?_ | refine ga3 21 (by exact rfl) (by exact rfl) ?_ | refine ga4 21 (by exact rfl) (by exact rfl) ?_)
              (first | refine ga1 22 (by exact rfl) (by exact rfl) ?_ | refine ga2 22 (by exact rfl) (by exact rfl) ?_ | refine ga3 22 (by exact rfl) (by exact rfl) ?_ | refine ga4 22 (by exact rfl) (by exact rfl) ?_)
              (first | refine ga1 23 (by exact rfl) (by exact rfl) ?_ | refine ga2 23 (by exact rfl) (by exact rfl) ?_ | refine ga3 23 (by exact rfl) (by exact rfl) ?_ | refine ga4 23 (by exact rfl) (by exact rfl) ?_)
              (first | refine ga1 24 (by exact rfl) (by exact rfl) ?_ | refine ga2 24 (by exact rfl) (by exact rfl) ?_ | refine ga3 24 (by exact rfl) (by exact rfl) ?_ | refine ga4 24 (by exact rfl) (by exact rfl) ?_)
              (first | refine ga1 25 (by exact rfl) (by exact rfl) ?_ | refine ga2 25 (by exact rfl) (by exact rfl) ?_ | refine ga3 25 (by exact rfl) (by exact rfl) ?_ | refine ga4 25 (by exact rfl) (by exact rfl) ?_)
              (first | refine ga1 26 (by exact rfl) (by exact rfl) ?_ | refine ga2 26 (by exact rfl) (by exact rfl) ?_ | refine ga3 26 (by exact rfl) (by exact rfl) ?_ | refine ga4 26 (by exact rfl) (by exact rfl) ?_)
              refine gaOne 27 rfl ?_
              refine gt0 (by exact rfl) ?_
              refine ⟨by (repeat (first | exact Suf.refl | exact Suf.nil | exact Suf.app _ _ | apply Suf.cons)), ?_⟩
              refine gaDone ?_
              refine gg ?_
              exact gnx (⟨r, k + 1, on.set (r * p.width + k).toNat false⟩ : BX) ⟨by dsimp only; omega, by dsimp only; omega, by simpa using hstep⟩ (by dsimp only; omega)
        · obtain rfl : k = p.width := by omega
          refine gg ?_
          exact gnx (⟨r + 1, 0, on⟩ : BX) ⟨by dsimp only; omega, by dsimp only; omega, fill_next hg⟩ (by dsimp only; omega)
      · obtain rfl : r = p.rows := by omega
        have hg' := fill_end hg
        have hgl := hg.len
        have hN : (p.rows * p.width).toNat = on.length := by omega
        have hwi := cloB_within hm hsq d
        rw [hN]
        obtain ⟨m, hwm⟩ := Int.eq_ofNat_of_zero_le h1
        rw [hwm] at hg' hwi ⊢
        rw [show ((m : Int)).toNat = m by omega] at hwi ⊢
        refine gg ?_
        refine gc3 [] (fun w hst hst1 => refShut_c (m := m) (S := cloB p d) w (grd hst) hg' (by omega) h3 h4 hwi) (by exact rfl) ?_
        (repeat (first | refine gk1 ?_ | refine gk2 ?_ | refine gk3 ?_ | refine gk0 ?_ | refine gk4 ?_))
        rintro y _
        dsimp only [List.cons_append, List.nil_append]
        refine gg ?_
        exact grt y trivial
    · rw [show closedS p d = (zP, 7) by unfold closedS; rw [if_neg (by simp [hm]), if_pos hsq]]
      dsimp only
      unfold pvl patV
      refine calls_wc [] [] [.cell 4 TP, .tmp 5] (fun y : PA => [pvl y zP, vi 7]) Try.func111 rfl rfl (fun _ => rfl) Try.ntmps111 rfl (Own.nil w) rfl ?_
      refine gnil ?_
      refine gnil ?_
      refine gg ?_
      refine wl_op (ok_box rfl rfl rfl rfl rfl ?_); intro bp
      refine wl_op (ok_alloc rfl rfl rfl rfl (ze_of rfl) ?_); intro rb
      refine gg ?_
      refine gc1 (fun w hst => refMay_c (op.s.now hst) (op.c.now hst) true (by simp [hm])) (by exact rfl) ?_
      refine gg ?_
      exact grt PA.nil trivial
  · rw [show closedS p d = (zP, 180) by unfold closedS; rw [if_pos hm]]
    dsimp only
    unfold pvl patV
    refine calls_wc [] [] [.cell 4 TP, .tmp 5] (fun y : PA => [pvl y zP, vi 180]) Try.func111 rfl rfl (fun _ => rfl) Try.ntmps111 rfl (Own.nil w) rfl ?_
    refine gnil ?_
    refine gnil ?_
    refine gg ?_
    refine wl_op (ok_box rfl rfl rfl rfl rfl ?_); intro bp
    refine wl_op (ok_alloc rfl rfl rfl rfl (ze_of rfl) ?_); intro rb
    refine gg ?_
    refine gc1 (fun w hst => refMay_c (op.s.now hst) (op.c.now hst) false (by simp [hm])) (by exact rfl) ?_
    refine gg ?_
    exact grt PA.nil trivial
theorem close_c (w : World) (hp : RdP w x p) :
    Calls Try.prog 74 [pvl x p].toArray w (Ret [] (fun y : PA => .tuple #[pvl y (closedS p true).1, vi (closedS p true).2]) (fun y => PatR y (closedS p true).1) (fun _ => True) w) := by
  have op := hp.old
  unfold pvl patV
  refine calls_wc [] [] [.cell 2 TP, .tmp 3] (fun y : PA => [pvl y (closedS p true).1, vi (closedS p true).2]) Try.func74 rfl rfl (fun _ => rfl) Try.ntmps74 rfl (Own.nil w) rfl ?_
  refine gg ?_
  refine wl_op (ok_box rfl rfl rfl rfl rfl ?_); intro bp
  refine wl_op (ok_alloc rfl rfl rfl rfl (ze_of rfl) ?_); intro rb
  refine gg ?_
  refine gc3 [] (fun w hst hst1 => closed_c (p := p) (x := x) w (op.now hst) true) (by exact rfl) ?_
  (repeat (first | refine gk1 ?_ | refine gk2 ?_ | refine gk3 ?_ | refine gk0 ?_ | refine gk4 ?_))
  rintro y _
  dsimp only [List.cons_append, List.nil_append]
  refine gg ?_
  exact grt y trivial
theorem graph_c (w : World) (hp : RdP w x p) :
    Calls Try.prog 76 [pvl x p].toArray w (Ret [] (fun y : PA => .tuple #[pvl y (closedS p false).1, vi (closedS p false).2]) (fun y => PatR y (closedS p false).1) (fun _ => True) w) := by
  have op := hp.old
  unfold pvl patV
  refine calls_wc [] [] [.cell 2 TP, .tmp 3] (fun y : PA => [pvl y (closedS p false).1, vi (closedS p false).2]) Try.func76 rfl rfl (fun _ => rfl) Try.ntmps76 rfl (Own.nil w) rfl ?_
  refine gg ?_
  refine wl_op (ok_box rfl rfl rfl rfl rfl ?_); intro bp
  refine wl_op (ok_alloc rfl rfl rfl rfl (ze_of rfl) ?_); intro rb
  refine gg ?_
  refine gc3 [] (fun w hst hst1 => closed_c (p := p) (x := x) w (op.now hst) false) (by exact rfl) ?_
  (repeat (first | refine gk1 ?_ | refine gk2 ?_ | refine gk3 ?_ | refine gk0 ?_ | refine gk4 ?_))
  rintro y _
  dsimp only [List.cons_append, List.nil_append]
  refine gg ?_
  exact grt y trivial
theorem refClose_c (w : World) (hp : RdP w x p) :
    Calls Try.prog 75 [pvl x p].toArray w (Ret [] (fun y : PA => .tuple #[pvl y (closedS p true).1, vi (closedS p true).2]) (fun y => PatR y (closedS p true).1) (fun _ => True) w) := by
  have op := hp.old
  unfold pvl patV
  refine calls_wc [] [] [.cell 2 TP, .tmp 3] (fun y : PA => [pvl y (closedS p true).1, vi (closedS p true).2]) Try.func75 rfl rfl (fun _ => rfl) Try.ntmps75 rfl (Own.nil w) rfl ?_
  refine gg ?_
  refine wl_op (ok_box rfl rfl rfl rfl rfl ?_); intro bp
  refine wl_op (ok_alloc rfl rfl rfl rfl (ze_of rfl) ?_); intro rb
  refine gg ?_
  refine gc3 [] (fun w hst hst1 => refClosed_c (p := p) (x := x) w (op.now hst) true) (by exact rfl) ?_
  (repeat (first | refine gk1 ?_ | refine gk2 ?_ | refine gk3 ?_ | refine gk0 ?_ | refine gk4 ?_))
  rintro y _
  dsimp only [List.cons_append, List.nil_append]
  refine gg ?_
  exact grt y trivial
theorem refGraph_c (w : World) (hp : RdP w x p) :
    Calls Try.prog 77 [pvl x p].toArray w (Ret [] (fun y : PA => .tuple #[pvl y (closedS p false).1, vi (closedS p false).2]) (fun y => PatR y (closedS p false).1) (fun _ => True) w) := by
  have op := hp.old
  unfold pvl patV
  refine calls_wc [] [] [.cell 2 TP, .tmp 3] (fun y : PA => [pvl y (closedS p false).1, vi (closedS p false).2]) Try.func77 rfl rfl (fun _ => rfl) Try.ntmps77 rfl (Own.nil w) rfl ?_
  refine gg ?_
  refine wl_op (ok_box rfl rfl rfl rfl rfl ?_); intro bp
  refine wl_op (ok_alloc rfl rfl rfl rfl (ze_of rfl) ?_); intro rb
  refine gg ?_
  refine gc3 [] (fun w hst hst1 => refClosed_c (p := p) (x := x) w (op.now hst) false) (by exact rfl) ?_
  (repeat (first | refine gk1 ?_ | refine gk2 ?_ | refine gk3 ?_ | refine gk0 ?_ | refine gk4 ?_))
  rintro y _
  dsimp only [List.cons_append, List.nil_append]
  refine gg ?_
  exact grt y trivial
end
end Go.Proofs.Ytofngbaefbbeiaa
