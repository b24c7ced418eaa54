/- Walks: closed (Close, Graph). Walks: the reference: closed; Close, Graph. -/
import Derived.Test.YtoiiellaoikojaaTF
import Derived.Test.YtoiiellaoikojaaGA
set_option linter.unusedVariables false
set_option linter.unusedSimpArgs false
set_option maxHeartbeats 8000000
namespace Go.Proofs.Ytoiiellaoikojaa
open Go.RowKit
abbrev CloI (db tb R : Nat) (ms : List Nat) (width : Int) (d : Bool) (S : Int → Int → Bool) : List Res := [blk db [.bool d] TB, blk tb [vi width, .slice (some ⟨R, 0, none⟩) ms.length ms.length] TT, Tab R ms S]
theorem closed1_c {p : Pat} (hm : May p) (hsq : p.rows = p.width) (d : Bool) (db tb R : Nat) (ms : List Nat) (hms : (ms.length : Int) = p.rows) (k r : Int) (w : World) (h0 : 0 ≤ r) (h1 : r < p.rows) (h2 : gt p.start r ≤ k) (h3 : k < gt p.start (r + 1)) (hw : Own (CloI db tb R ms p.width d (cloU p d k)) w) :
    Calls Try.prog 109 ([vi r, vi (gt p.cols k), vi k] ++ [Value.pointer (some ⟨db, 0, none⟩), Value.pointer (some ⟨tb, 0, none⟩)]).toArray w (Ret (CloI db tb R ms p.width d (cloU p d k)) (fun _ : Unit => .tuple #[]) (fun _ => CloI db tb R ms p.width d (cloU p d (k + 1))) (fun _ => True) w) := by
  obtain ⟨c0, c1, _⟩ := hm.row r h0 h1 k h2 h3
  have hr1 := hm.toHead.r1
  by_cases hd : d = true ∨ r ≠ gt p.cols k
  · rw [cloU_mark hm h0 h1 h2 h3 hd]
    by_cases hne : r = gt p.cols k
    · obtain rfl : d = true := by
        rcases hd with h | h
        · exact h
        · exact absurd hne h
      refine calls_wc ((CloI db tb R ms p.width true (cloU p true k)).flatMap Res.fp) (CloI db tb R ms p.width true (cloU p true k)) [] (fun _ => []) Try.func109 rfl rfl (fun _ => rfl) Try.ntmps109 rfl hw rfl ?_
      refine wc_splitB R ms (cloU p true k) ?_
      (repeat (first | refine gk1 ?_ | refine gk2 ?_ | refine gk3 ?_ | refine gk0 ?_ | refine gk4 ?_))
      refine gg ?_
      refine gwa [SetsB ms (cloU p true k) []] ?_
      (repeat (first | refine gk1 ?_ | refine gk2 ?_ | refine gk3 ?_ | refine gk0 ?_ | refine gk4 ?_))
      (first | refine ga1 0 (by exact rfl) (by exact rfl) ?_ | refine ga2 0 (by exact rfl) (by exact rfl) ?_ | refine ga3 0 (by exact rfl) (by exact rfl) ?_ | refine ga4 0 (by exact rfl) (by exact rfl) ?_)
      (first | refine ga1 1 (by exact rfl) (by exact rfl) ?_ | refine ga2 1 (by exact rfl) (by exact rfl) ?_ | refine ga3 1 (by exact rfl) (by exact rfl) ?_ | refine ga4 1 (by exact rfl) (by exact rfl) ?_)
      (first | refine ga1 2 (by exact rfl) (by exact rfl) ?_ | refine ga2 2 (by exact rfl) (by exact rfl) ?_ | refine ga3 2 (by exact rfl) (by exact rfl) ?_ | refine ga4 2 (by exact rfl) (by exact rfl) ?_)
      (first | refine ga1 3 (by exact rfl) (by exact rfl) ?_ | refine ga2 3 (by exact rfl) (by exact rfl) ?_ | refine ga3 3 (by exact rfl) (by exact rfl) ?_ | refine ga4 3 (by exact rfl) (by exact rfl) ?_)
      refine ga6 4 (by exact rfl) (by exact rfl) ?_
      (first | refine ga1 5 (by exact rfl) (by exact rfl) ?_ | refine ga2 5 (by exact rfl) (by exact rfl) ?_ | refine ga3 5 (by exact rfl) (by exact rfl) ?_ | refine ga4 5 (by exact rfl) (by exact rfl) ?_)
      (first | refine ga1 6 (by exact rfl) (by exact rfl) ?_ | refine ga2 6 (by exact rfl) (by exact rfl) ?_ | refine ga3 6 (by exact rfl) (by exact rfl) ?_ | refine ga4 6 (by exact rfl) (by exact rfl) ?_)
      (first | refine ga1 7 (by exact rfl) (by exact rfl) ?_ | refine ga2 7 (by exact rfl) (by exact rfl) ?_ | refine ga3 7 (by exact rfl) (by exact rfl) ?_ | refine ga4 7 (by exact rfl) (by exact rfl) ?_)
      (first | refine ga1 8 (by exact rfl) (by exact rfl) ?_ | refine ga2 8 (by exact rfl) (by exact rfl) ?_ | refine ga3 8 (by exact rfl) (by exact rfl) ?_ | refine ga4 8 (by exact rfl) (by exact rfl) ?_)
      (first | refine ga1 9 (by exact rfl) (by exact rfl) ?_ | refine ga2 9 (by exact rfl) (by exact rfl) ?_ | refine ga3 9 (by exact rfl) (by exact rfl) ?_ | refine ga4 9 (by exact rfl) (by exact rfl) ?_)
      refine ga6 10 (by exact rfl) (by exact rfl) ?_
      (first | refine ga1 11 (by exact rfl) (by exact rfl) ?_ | refine ga2 11 (by exact rfl) (by exact rfl) ?_ | refine ga3 11 (by exact rfl) (by exact rfl) ?_ | refine ga4 11 (by exact rfl) (by exact rfl) ?_)
      (first | refine ga1 12 (by exact rfl) (by exact rfl) ?_ | refine ga2 12 (by exact rfl) (by exact rfl) ?_ | refine ga3 12 (by exact rfl) (by exact rfl) ?_ | refine ga4 12 (by exact rfl) (by exact rfl) ?_)
      (first | refine ga1 13 (by exact rfl) (by exact rfl) ?_ | refine ga2 13 (by exact rfl) (by exact rfl) ?_ | refine ga3 13 (by exact rfl) (by exact rfl) ?_ | refine ga4 13 (by exact rfl) (by exact rfl) ?_)
      refine gaOne 14 rfl ?_
      refine gme (by exact rfl) (by omega) (by omega) (by omega) (by omega) ?_
      intro s1
      refine ⟨by (repeat (first | exact Suf.refl | exact Suf.nil | exact Suf.app _ _ | apply Suf.cons)), ?_⟩
      (first | refine ga1 15 (by exact rfl) (by exact rfl) ?_ | refine ga2 15 (by exact rfl) (by exact rfl) ?_ | refine ga3 15 (by exact rfl) (by exact rfl) ?_ | refine ga4 15 (by exact rfl) (by exact rfl) ?_)
      refine gaOne 16 rfl ?_
      refine ges (by exact rfl) (by simp) ?_
      refine ⟨by (repeat (first | exact Suf.refl | exact Suf.nil | exact Suf.app _ _ | apply Suf.cons)), ?_⟩
      refine gaOne 17 rfl ?_
      refine gme (by exact rfl) (by omega) (by omega) (by omega) (by omega) ?_
      intro s2
      refine ⟨by (repeat (first | exact Suf.refl | exact Suf.nil | exact Suf.app _ _ | apply Suf.cons)), ?_⟩
      (first | refine ga1 18 (by exact rfl) (by exact rfl) ?_ | refine ga2 18 (by exact rfl) (by exact rfl) ?_ | refine ga3 18 (by exact rfl) (by exact rfl) ?_ | refine ga4 18 (by exact rfl) (by exact rfl) ?_)
      refine gaOne 19 rfl ?_
      refine ges (by exact rfl) (by simp) ?_
      refine ⟨by (repeat (first | exact Suf.refl | exact Suf.nil | exact Suf.app _ _ | apply Suf.cons)), ?_⟩
      refine wa_joinB R ?_
      (repeat (first | refine gk1 ?_ | refine gk2 ?_ | refine gk3 ?_ | refine gk0 ?_ | refine gk4 ?_))
      refine gaDone ?_
      refine gg ?_
      exact grt () trivial
    · clear hd
      refine calls_wc ((CloI db tb R ms p.width d (cloU p d k)).flatMap Res.fp) (CloI db tb R ms p.width d (cloU p d k)) [] (fun _ => []) Try.func109 rfl rfl (fun _ => rfl) Try.ntmps109 rfl hw rfl ?_
      refine wc_splitB R ms (cloU p d k) ?_
      (repeat (first | refine gk1 ?_ | refine gk2 ?_ | refine gk3 ?_ | refine gk0 ?_ | refine gk4 ?_))
      refine gg ?_
      refine gwa [SetsB ms (cloU p d k) []] ?_
      (repeat (first | refine gk1 ?_ | refine gk2 ?_ | refine gk3 ?_ | refine gk0 ?_ | refine gk4 ?_))
      (first | refine ga1 0 (by exact rfl) (by exact rfl) ?_ | refine ga2 0 (by exact rfl) (by exact rfl) ?_ | refine ga3 0 (by exact rfl) (by exact rfl) ?_ | refine ga4 0 (by exact rfl) (by exact rfl) ?_)
      (first | refine ga1 1 (by exact rfl) (by exact rfl) ?_ | refine ga2 1 (by exact rfl) (by exact rfl) ?_ | refine ga3 1 (by exact rfl) (by exact rfl) ?_ | refine ga4 1 (by exact rfl) (by exact rfl) ?_)
      (first | refine ga1 2 (by exact rfl) (by exact rfl) ?_ | refine ga2 2 (by exact rfl) (by exact rfl) ?_ | refine ga3 2 (by exact rfl) (by exact rfl) ?_ | refine ga4 2 (by exact rfl) (by exact rfl) ?_)
      (first | refine ga1 3 (by exact rfl) (by exact rfl) ?_ | refine ga2 3 (by exact rfl) (by exact rfl) ?_ | refine ga3 3 (by exact rfl) (by exact rfl) ?_ | refine ga4 3 (by exact rfl) (by exact rfl) ?_)
      refine ga6 4 (by exact rfl) (by exact rfl) ?_
      (first | refine ga1 5 (by exact rfl) (by exact rfl) ?_ | refine ga2 5 (by exact rfl) (by exact rfl) ?_ | refine ga3 5 (by exact rfl) (by exact rfl) ?_ | refine ga4 5 (by exact rfl) (by exact rfl) ?_)
      (first | refine ga1 6 (by exact rfl) (by exact rfl) ?_ | refine ga2 6 (by exact rfl) (by exact rfl) ?_ | refine ga3 6 (by exact rfl) (by exact rfl) ?_ | refine ga4 6 (by exact rfl) (by exact rfl) ?_)
      (first | refine ga1 7 (by exact rfl) (by exact rfl) ?_ | refine ga2 7 (by exact rfl) (by exact rfl) ?_ | refine ga3 7 (by exact rfl) (by exact rfl) ?_ | refine ga4 7 (by exact rfl) (by exact rfl) ?_)
      (first | refine ga1 8 (by exact rfl) (by exact rfl) ?_ | refine ga2 8 (by exact rfl) (by exact rfl) ?_ | refine ga3 8 (by exact rfl) (by exact rfl) ?_ | refine ga4 8 (by exact rfl) (by exact rfl) ?_)
      (first | refine ga1 9 (by exact rfl) (by exact rfl) ?_ | refine ga2 9 (by exact rfl) (by exact rfl) ?_ | refine ga3 9 (by exact rfl) (by exact rfl) ?_ | refine ga4 9 (by exact rfl) (by exact rfl) ?_)
      refine ga6 10 (by exact rfl) (by exact rfl) ?_
      (first | refine ga1 11 (by exact rfl) (by exact rfl) ?_ | refine ga2 11 (by exact rfl) (by exact rfl) ?_ | refine ga3 11 (by exact rfl) (by exact rfl) ?_ | refine ga4 11 (by exact rfl) (by exact rfl) ?_)
      (first | refine ga1 12 (by exact rfl) (by exact rfl) ?_ | refine ga2 12 (by exact rfl) (by exact rfl) ?_ | refine ga3 12 (by exact rfl) (by exact rfl) ?_ | refine ga4 12 (by exact rfl) (by exact rfl) ?_)
      (first | refine ga1 13 (by exact rfl) (by exact rfl) ?_ | refine ga2 13 (by exact rfl) (by exact rfl) ?_ | refine ga3 13 (by exact rfl) (by exact rfl) ?_ | refine ga4 13 (by exact rfl) (by exact rfl) ?_)
      refine gaOne 14 rfl ?_
      refine gme (by exact rfl) (by omega) (by omega) (by omega) (by omega) ?_
      intro s1
      refine ⟨by (repeat (first | exact Suf.refl | exact Suf.nil | exact Suf.app _ _ | apply Suf.cons)), ?_⟩
      (first | refine ga1 15 (by exact rfl) (by exact rfl) ?_ | refine ga2 15 (by exact rfl) (by exact rfl) ?_ | refine ga3 15 (by exact rfl) (by exact rfl) ?_ | refine ga4 15 (by exact rfl) (by exact rfl) ?_)
      refine gaOne 16 rfl ?_
      refine ges (by exact rfl) (by simp) ?_
      refine ⟨by (repeat (first | exact Suf.refl | exact Suf.nil | exact Suf.app _ _ | apply Suf.cons)), ?_⟩
      refine gaOne 17 rfl ?_
      refine gme (by exact rfl) (by omega) (by omega) (by omega) (by omega) ?_
      intro s2
      refine ⟨by (repeat (first | exact Suf.refl | exact Suf.nil | exact Suf.app _ _ | apply Suf.cons)), ?_⟩
      (first | refine ga1 18 (by exact rfl) (by exact rfl) ?_ | refine ga2 18 (by exact rfl) (by exact rfl) ?_ | refine ga3 18 (by exact rfl) (by exact rfl) ?_ | refine ga4 18 (by exact rfl) (by exact rfl) ?_)
      refine gaOne 19 rfl ?_
      refine ges (by exact rfl) (by simp) ?_
      refine ⟨by (repeat (first | exact Suf.refl | exact Suf.nil | exact Suf.app _ _ | apply Suf.cons)), ?_⟩
      refine wa_joinB R ?_
      (repeat (first | refine gk1 ?_ | refine gk2 ?_ | refine gk3 ?_ | refine gk0 ?_ | refine gk4 ?_))
      refine gaDone ?_
      refine gg ?_
      exact grt () trivial
  · obtain rfl : d = false := by
      cases d with
      | false => rfl
      | true => exact absurd (.inl rfl) hd
    have he : r = gt p.cols k := by
      by_cases e : r = gt p.cols k
      · exact e
      · exact absurd (.inr e) hd
    rw [cloU_skip hm h0 h1 h2 h3 he]
    refine calls_wc ((CloI db tb R ms p.width false (cloU p false k)).flatMap Res.fp) (CloI db tb R ms p.width false (cloU p false k)) [] (fun _ => []) Try.func109 rfl rfl (fun _ => rfl) Try.ntmps109 rfl hw rfl ?_
    refine gg ?_
    exact grt () trivial
section
variable {p : Pat} {x : PA}
theorem closed_c (w : World) (hp : RdP w x p) (d : Bool) :
    Calls Try.prog 85 [pvl x p, .bool d].toArray w (Ret [] (fun y : PA => .tuple #[pvl y (closedS p d).1, vi (closedS p d).2]) (fun y => PatR y (closedS p d).1) (fun _ => True) w) := by
  have op := hp.old
  by_cases hm : May p
  · by_cases hsq : p.rows = p.width
    · obtain ⟨h1, h2, h3, h4, h5, h6, h7, h8⟩ := hm.toHead
      rw [show closedS p d = (shutP p.rows.toNat p.width (cloB p d), 0) by unfold closedS; rw [if_neg (by simp [hm]), if_neg (by simp [hsq])]]
      dsimp only
      unfold pvl patV
      refine calls_wc [] [] [.cell 4 TP, .tmp 5] (fun y : PA => [pvl y (shutP p.rows.toNat p.width (cloB p d)), vi 0]) Try.func85 rfl rfl (fun _ => rfl) Try.ntmps85 rfl (Own.nil w) rfl ?_
      refine gg ?_
      refine wl_op (ok_box rfl rfl rfl rfl rfl ?_); intro bp
      refine wl_op (ok_box rfl rfl rfl rfl rfl ?_); intro db
      refine wl_op (ok_alloc rfl rfl rfl rfl (ze_of rfl) ?_); intro rb
      refine gg ?_
      refine gc1 (fun w hst => may_t (op.s.now hst) (op.c.now hst) hm) (by exact rfl) ?_
      refine gg ?_
      refine gc3 [] (fun w hst hst1 => blank_c (rows := p.rows) (width := p.width) w h1 h2) (by exact rfl) ?_
      (repeat (first | refine gk1 ?_ | refine gk2 ?_ | refine gk3 ?_ | refine gk0 ?_ | refine gk4 ?_))
      rintro ⟨R, ms⟩ hms
      dsimp only [List.cons_append, List.nil_append] at hms ⊢
      refine wl_op (ok_alloc rfl rfl rfl rfl (ze_of rfl) ?_); intro tb
      refine gg ?_
      rw [← cloU_zero hm d]
      refine gc3 (CloI db tb R ms p.width d (cloU p d 0)) (fun w hst hst1 => each_c hm (fun k (_ : Unit) => CloI db tb R ms p.width d (cloU p d k)) (fun _ _ => True) 109 [Value.pointer (some ⟨db, 0, none⟩), Value.pointer (some ⟨tb, 0, none⟩)] (bod_of rfl) () w (op.s.later hst1) (op.c.later hst1) trivial hst1.own (fun k r _ w h0 h1 h2 h3 _ hw => closed1_c hm hsq d db tb R ms hms k r w h0 h1 h2 h3 hw.own)) (by exact rfl) ?_
      (repeat (first | refine gk1 ?_ | refine gk2 ?_ | refine gk3 ?_ | refine gk0 ?_ | refine gk4 ?_))
      rintro _ _
      dsimp only [List.cons_append, List.nil_append]
      rw [cloU_all hm]
      refine gg ?_
      refine gc3 [Tab R ms (cloB p d)] (fun w hst hst1 => shut_c (S := cloB p d) (width := p.width) w hst1.own (by omega)) (by exact rfl) ?_
      (repeat (first | refine gk1 ?_ | refine gk2 ?_ | refine gk3 ?_ | refine gk0 ?_ | refine gk4 ?_))
      rintro y _
      dsimp only [List.cons_append, List.nil_append]
      rw [nat_cast_toNat hms]
      refine gg ?_
      exact grt y trivial
    · rw [show closedS p d = (zP, 7) by unfold closedS; rw [if_neg (by simp [hm]), if_pos hsq]]
      dsimp only
      unfold pvl patV
      refine calls_wc [] [] [.cell 4 TP, .tmp 5] (fun y : PA => [pvl y zP, vi 7]) Try.func85 rfl rfl (fun _ => rfl) Try.ntmps85 rfl (Own.nil w) rfl ?_
      refine gnil ?_
      refine gnil ?_
      refine gg ?_
      refine wl_op (ok_box rfl rfl rfl rfl rfl ?_); intro bp
      refine wl_op (ok_box rfl rfl rfl rfl rfl ?_); intro db
      refine wl_op (ok_alloc rfl rfl rfl rfl (ze_of rfl) ?_); intro rb
      refine gg ?_
      refine gc1 (fun w hst => may_t (op.s.now hst) (op.c.now hst) hm) (by exact rfl) ?_
      refine gg ?_
      exact grt PA.nil trivial
  · rw [show closedS p d = (zP, 180) by unfold closedS; rw [if_pos hm]]
    dsimp only
    unfold pvl patV
    refine calls_wc [] [] [.cell 4 TP, .tmp 5] (fun y : PA => [pvl y zP, vi 180]) Try.func85 rfl rfl (fun _ => rfl) Try.ntmps85 rfl (Own.nil w) rfl ?_
    refine gnil ?_
    refine gnil ?_
    refine gg ?_
    refine wl_op (ok_box rfl rfl rfl rfl rfl ?_); intro bp
    refine wl_op (ok_box rfl rfl rfl rfl rfl ?_); intro db
    refine wl_op (ok_alloc rfl rfl rfl rfl (ze_of rfl) ?_); intro rb
    refine gg ?_
    refine gc1 (fun w hst => may_f (op.s.now hst) (op.c.now hst) hm) (by exact rfl) ?_
    refine gg ?_
    exact grt PA.nil trivial
end
section
variable {p : Pat} {x : PA}
theorem graph_c (w : World) (hp : RdP w x p) :
    Calls Try.prog 49 [pvl x p].toArray w (Ret [] (fun y : PA => .tuple #[pvl y (closedS p false).1, vi (closedS p false).2]) (fun y => PatR y (closedS p false).1) (fun _ => True) w) := by
  have op := hp.old
  unfold pvl patV
  refine calls_wc [] [] [.cell 2 TP, .tmp 3] (fun y : PA => [pvl y (closedS p false).1, vi (closedS p false).2]) Try.func49 rfl rfl (fun _ => rfl) Try.ntmps49 rfl (Own.nil w) rfl ?_
  refine gg ?_
  refine wl_op (ok_box rfl rfl rfl rfl rfl ?_); intro bp
  refine wl_op (ok_alloc rfl rfl rfl rfl (ze_of rfl) ?_); intro rb
  refine gg ?_
  refine gc3 [] (fun w hst hst1 => closed_c (p := p) (x := x) w (op.now hst) false) (by exact rfl) ?_
  (repeat (first | refine gk1 ?_ | refine gk2 ?_ | refine gk3 ?_ | refine gk0 ?_ | refine gk4 ?_))
  rintro y _
  dsimp only [List.cons_append, List.nil_append]
  refine gg ?_
  exact grt y trivial
end
end Go.Proofs.Ytoiiellaoikojaa
