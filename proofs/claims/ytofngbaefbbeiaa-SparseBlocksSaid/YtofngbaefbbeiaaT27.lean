/- Walks: Permute. -/
import Derived.Test.YtofngbaefbbeiaaTF
import Derived.Test.YtofngbaefbbeiaaT26
import Derived.Test.YtofngbaefbbeiaaGA
set_option linter.unusedVariables false
set_option linter.unusedSimpArgs false
set_option maxHeartbeats 8000000
namespace Go.Proofs.Ytofngbaefbbeiaa
open Go.RowKit
abbrev PerI (tb R rb cb : Nat) (ms : List Nat) (width : Int) (x y : RX) (S : Int → Int → Bool) : List Res :=
  [blk tb [vi width, .slice (some ⟨R, 0, none⟩) ms.length ms.length] TT, Tab R ms S, blk rb [.slice x.A x.xs.length x.c] TIs, blk cb [.slice y.A y.xs.length y.c] TIs, osl TI vi x.A x.c x.xs, osl TI vi y.A y.c y.xs]
theorem permute1_c {p : Pat} (hm : May p) (tb R rb cb : Nat) (ms : List Nat) (hms : (ms.length : Int) = p.rows) (x y : RX) (hx : (x.xs.length : Int) = p.rows) (hy : (y.xs.length : Int) = p.width) (hxr : ∀ i, 0 ≤ i → i < p.rows → 0 ≤ gt x.xs i ∧ gt x.xs i < p.rows) (hyr : ∀ i, 0 ≤ i → i < p.width → 0 ≤ gt y.xs i ∧ gt y.xs i < p.width)
    (k r : Int) (w : World) (h0 : 0 ≤ r) (h1 : r < p.rows) (h2 : gt p.start r ≤ k) (h3 : k < gt p.start (r + 1)) (hw : Own (PerI tb R rb cb ms p.width x y (permU p x.xs y.xs k)) w) :
    Calls Try.prog 89 ([vi r, vi (gt p.cols k), vi k] ++ [Value.pointer (some ⟨tb, 0, none⟩), Value.pointer (some ⟨rb, 0, none⟩), Value.pointer (some ⟨cb, 0, none⟩)]).toArray w (Ret (PerI tb R rb cb ms p.width x y (permU p x.xs y.xs k)) (fun _ : Unit => .tuple #[]) (fun _ => PerI tb R rb cb ms p.width x y (permU p x.xs y.xs (k + 1))) (fun _ => True) w) := by
  obtain ⟨c0, c1, _⟩ := hm.row r h0 h1 k h2 h3
  have hr1 := hm.toHead.r1
  have hw1 := hm.toHead.w1
  have hxk := hxr r h0 h1
  have hyk := hyr _ c0 c1
  rw [permU_step hm h0 h1 h2 h3]
  obtain ⟨Ax, cx, xs⟩ := x
  obtain ⟨Ay, cy, ys⟩ := y
  dsimp only at hx hy hxk hyk hw ⊢
  refine calls_wc ((PerI tb R rb cb ms p.width ⟨Ax, cx, xs⟩ ⟨Ay, cy, ys⟩ (permU p xs ys k)).flatMap Res.fp) (PerI tb R rb cb ms p.width ⟨Ax, cx, xs⟩ ⟨Ay, cy, ys⟩ (permU p xs ys k)) [] (fun _ => []) Try.func89 rfl rfl (fun _ => rfl) Try.ntmps89 rfl hw rfl ?_
  dsimp only [PerI]
  refine wc_splitK R ms (permU p xs ys k) ?_
  (repeat (first | refine gk1 ?_ | refine gk2 ?_ | refine gk3 ?_ | refine gk0 ?_ | refine gk4 ?_))
  refine gg ?_
  refine gwa [SetsM ms (permU p xs ys k)] ?_
  (repeat (first | refine gk1 ?_ | refine gk2 ?_ | refine gk3 ?_ | refine gk0 ?_ | refine gk4 ?_))
  (first | refine ga1 0 (by exact rfl) (by exact rfl) ?_ | refine ga2 0 (by exact rfl) (by exact rfl) ?_ | refine ga3 0 (by exact rfl) (by exact rfl) ?_ | refine ga4 0 (by exact rfl) (by exact rfl) ?_)
  (first | refine ga1 1 (by exact rfl) (by exact rfl) ?_ | refine ga2 1 (by exact rfl) (by exact rfl) ?_ | refine ga3 1 (by exact rfl) (by exact rfl) ?_ | refine ga4 1 (by exact rfl) (by exact rfl) ?_)
  (first | refine ga1 2 (by exact rfl) (by exact rfl) ?_ | refine ga2 2 (by exact rfl) (by exact rfl) ?_ | refine ga3 2 (by exact rfl) (by exact rfl) ?_ | refine ga4 2 (by exact rfl) (by exact rfl) ?_)
  (first | refine ga1 3 (by exact rfl) (by exact rfl) ?_ | refine ga2 3 (by exact rfl) (by exact rfl) ?_ | refine ga3 3 (by exact rfl) (by exact rfl) ?_ | refine ga4 3 (by exact rfl) (by exact rfl) ?_)
  (first | refine ga1 4 (by exact rfl) (by exact rfl) ?_ | refine ga2 4 (by exact rfl) (by exact rfl) ?_ | refine ga3 4 (by exact rfl) (by exact rfl) ?_ | refine ga4 4 (by exact rfl) (by exact rfl) ?_)
  (first | refine ga1 5 (by exact rfl) (by exact rfl) ?_ | refine ga2 5 (by exact rfl) (by exact rfl) ?_ | refine ga3 5 (by exact rfl) (by exact rfl) ?_ | refine ga4 5 (by exact rfl) (by exact rfl) ?_)
  (first | refine ga1 6 (by exact rfl) (by exact rfl) ?_ | refine ga2 6 (by exact rfl) (by exact rfl) ?_ | refine ga3 6 (by exact rfl) (by exact rfl) ?_ | refine ga4 6 (by exact rfl) (by exact rfl) ?_)
  refine ga6 7 (by exact rfl) (by exact rfl) ?_
  (first | refine ga1 8 (by exact rfl) (by exact rfl) ?_ | refine ga2 8 (by exact rfl) (by exact rfl) ?_ | refine ga3 8 (by exact rfl) (by exact rfl) ?_ | refine ga4 8 (by exact rfl) (by exact rfl) ?_)
  (first | refine ga1 9 (by exact rfl) (by exact rfl) ?_ | refine ga2 9 (by exact rfl) (by exact rfl) ?_ | refine ga3 9 (by exact rfl) (by exact rfl) ?_ | refine ga4 9 (by exact rfl) (by exact rfl) ?_)
  (first | refine ga1 10 (by exact rfl) (by exact rfl) ?_ | refine ga2 10 (by exact rfl) (by exact rfl) ?_ | refine ga3 10 (by exact rfl) (by exact rfl) ?_ | refine ga4 10 (by exact rfl) (by exact rfl) ?_)
  (first | refine ga1 11 (by exact rfl) (by exact rfl) ?_ | refine ga2 11 (by exact rfl) (by exact rfl) ?_ | refine ga3 11 (by exact rfl) (by exact rfl) ?_ | refine ga4 11 (by exact rfl) (by exact rfl) ?_)
  (first | refine ga1 12 (by exact rfl) (by exact rfl) ?_ | refine ga2 12 (by exact rfl) (by exact rfl) ?_ | refine ga3 12 (by exact rfl) (by exact rfl) ?_ | refine ga4 12 (by exact rfl) (by exact rfl) ?_)
  refine gaOne 13 rfl ?_
  refine gmS (by exact rfl) ?_ (by omega) (by omega) (by omega) (by omega)
  refine ⟨by (repeat (first | exact Suf.refl | exact Suf.nil | exact Suf.app _ _ | apply Suf.cons)), ?_⟩
  refine wa_joinM R ?_
  (repeat (first | refine gk1 ?_ | refine gk2 ?_ | refine gk3 ?_ | refine gk0 ?_ | refine gk4 ?_))
  refine gaDone ?_
  refine gg ?_
  exact grt () trivial
section
variable {p : Pat} {x : PA} {A B : Option Addr} {c d : Nat} {rows cols : List Int}
theorem permute_c (w : World) (hp : RdP w x p) (hA : Rds vi w A c rows) (hB : Rds vi w B d cols) (q : PE) (hq : permuteS p rows cols = q) :
    Calls Try.prog 35 [pvl x p, .slice A rows.length c, .slice B cols.length d].toArray w (Ret [] (fun y : PA => .tuple #[pvl y q.1, vi q.2]) (fun y => PatR y q.1) (fun _ => True) w) := by
  have op := hp.old
  have oA := hA.old
  have oB := hB.old
  by_cases hm : May p
  · obtain ⟨h1, h2, h3, h4, h5, h6, h7, h8⟩ := hm.toHead
    obtain ⟨g1, hg1⟩ : ∃ g : Bool, g = true ↔ IsOrd rows p.rows := by classical exact ⟨decide (IsOrd rows p.rows), by simp⟩
    obtain ⟨g2, hg2⟩ : ∃ g : Bool, g = true ↔ IsOrd cols p.width := by classical exact ⟨decide (IsOrd cols p.width), by simp⟩
    unfold pvl patV
    refine calls_wc [] [] [.cell 6 TP, .tmp 7] (fun y : PA => [pvl y q.1, vi q.2]) Try.func35 rfl rfl (fun _ => rfl) Try.ntmps35 rfl (Own.nil w) rfl ?_
    refine gnil ?_
    refine gnil ?_
    refine gg ?_
    refine wl_op (ok_box rfl rfl rfl rfl rfl ?_); intro bp
    refine wl_op (ok_alloc rfl rfl rfl rfl (ze_of rfl) ?_); intro rb
    refine gg ?_
    refine gc1 (fun w hst => may_t (op.s.now hst) (op.c.now hst) hm) (by exact rfl) ?_
    refine gg ?_
    refine gc3 [] (fun w hst hst1 => order_c w (oA.now hst) h1 h2 g1 hg1) (by exact rfl) ?_
    (repeat (first | refine gk1 ?_ | refine gk2 ?_ | refine gk3 ?_ | refine gk0 ?_ | refine gk4 ?_))
    rintro ⟨Ax, cx, xs⟩ hx
    dsimp only [List.cons_append, List.nil_append] at hx ⊢
    refine gg ?_
    refine wl_op (ok_alloc rfl rfl rfl rfl (ze_of rfl) ?_); intro xb
    refine gg ?_
    refine gc3 [] (fun w hst hst1 => order_c w (oB.now hst) h3 h4 g2 hg2) (by exact rfl) ?_
    (repeat (first | refine gk1 ?_ | refine gk2 ?_ | refine gk3 ?_ | refine gk0 ?_ | refine gk4 ?_))
    rintro ⟨Ay, cy, ys⟩ hy
    dsimp only [List.cons_append, List.nil_append] at hy ⊢
    refine gg ?_
    refine wl_op (ok_alloc rfl rfl rfl rfl (ze_of rfl) ?_); intro yb
    refine gg ?_
    cases g1 with
    | false =>
      obtain rfl : (zP, (182 : Int)) = q := by
        rw [← hq]; unfold permuteS
        rw [if_neg (by simp [hm]), if_pos]
        rintro ⟨a, _⟩
        exact absurd (hg1.2 a) (by simp)
      refine gg ?_
      exact grt PA.nil trivial
    | true =>
      cases g2 with
      | false =>
        obtain rfl : (zP, (182 : Int)) = q := by
          rw [← hq]; unfold permuteS
          rw [if_neg (by simp [hm]), if_pos]
          rintro ⟨_, a⟩
          exact absurd (hg2.2 a) (by simp)
        refine gg ?_
        exact grt PA.nil trivial
      | true =>
        have ho1 := hg1.1 rfl
        have ho2 := hg2.1 rfl
        have hb1 := hx rfl
        have hb2 := hy rfl
        obtain rfl : (shutP p.rows.toNat p.width (permB p rows cols), (0 : Int)) = q := by
          rw [← hq]; unfold permuteS
          rw [if_neg (by simp [hm]), if_neg (by simp [ho1, ho2])]
        refine gg ?_
        refine gc3 [] (fun w hst hst1 => blank_c (rows := p.rows) (width := p.width) w h1 h2) (by exact rfl) ?_
        (repeat (first | refine gk1 ?_ | refine gk2 ?_ | refine gk3 ?_ | refine gk0 ?_ | refine gk4 ?_))
        rintro ⟨R, ms⟩ hms
        dsimp only [List.cons_append, List.nil_append] at hms ⊢
        refine wl_op (ok_alloc rfl rfl rfl rfl (ze_of rfl) ?_); intro tb
        refine gg ?_
        rw [← permU_zero hm xs ys]
        refine gc3 (PerI tb R xb yb ms p.width ⟨Ax, cx, xs⟩ ⟨Ay, cy, ys⟩ (permU p xs ys 0)) (fun w hst hst1 => each_c hm (fun k (_ : Unit) => PerI tb R xb yb ms p.width ⟨Ax, cx, xs⟩ ⟨Ay, cy, ys⟩ (permU p xs ys k)) (fun _ _ => True) 89 [Value.pointer (some ⟨tb, 0, none⟩), Value.pointer (some ⟨xb, 0, none⟩), Value.pointer (some ⟨yb, 0, none⟩)] (bod_of rfl) () w (op.s.later hst1) (op.c.later hst1) trivial hst1.own
          (fun k r _ w h0 h1 h2 h3 _ hw => permute1_c hm tb R xb yb ms hms ⟨Ax, cx, xs⟩ ⟨Ay, cy, ys⟩ hb1.len hb2.len (fun i i0 i1 => by have := hb1.at_ ho1.len i0 i1; exact ⟨this.1, this.2.1⟩) (fun i i0 i1 => by have := hb2.at_ ho2.len i0 i1; exact ⟨this.1, this.2.1⟩) k r w h0 h1 h2 h3 hw.own)) (by exact rfl) ?_
        (repeat (first | refine gk1 ?_ | refine gk2 ?_ | refine gk3 ?_ | refine gk0 ?_ | refine gk4 ?_))
        rintro _ _
        dsimp only [List.cons_append, List.nil_append]
        rw [permU_all hm ho1.len ho2.len hb1 hb2]
        refine gg ?_
        refine gc3 [Tab R ms (permB p rows cols)] (fun w hst hst1 => shut_c (S := permB p rows cols) (width := p.width) w hst1.own (by omega)) (by exact rfl) ?_
        (repeat (first | refine gk1 ?_ | refine gk2 ?_ | refine gk3 ?_ | refine gk0 ?_ | refine gk4 ?_))
        rintro y _
        dsimp only [List.cons_append, List.nil_append]
        rw [nat_cast_toNat hms]
        refine gg ?_
        exact grt y trivial
  · obtain rfl : (zP, (180 : Int)) = q := by
      rw [← hq]; unfold permuteS
      rw [if_pos hm]
    unfold pvl patV
    refine calls_wc [] [] [.cell 6 TP, .tmp 7] (fun y : PA => [pvl y zP, vi 180]) Try.func35 rfl rfl (fun _ => rfl) Try.ntmps35 rfl (Own.nil w) rfl ?_
    refine gnil ?_
    refine gnil ?_
    refine gg ?_
    refine wl_op (ok_box rfl rfl rfl rfl rfl ?_); intro bp
    refine wl_op (ok_alloc rfl rfl rfl rfl (ze_of rfl) ?_); intro rb
    refine gg ?_
    refine gc1 (fun w hst => may_f (op.s.now hst) (op.c.now hst) hm) (by exact rfl) ?_
    refine gg ?_
    exact grt PA.nil trivial
theorem refPermute_c (w : World) (hp : RdP w x p) (hA : Rds vi w A c rows) (hB : Rds vi w B d cols) (q : PE) (hq : permuteS p rows cols = q) :
    Calls Try.prog 71 [pvl x p, .slice A rows.length c, .slice B cols.length d].toArray w (Ret [] (fun y : PA => .tuple #[pvl y q.1, vi q.2]) (fun y => PatR y q.1) (fun _ => True) w) := by
  have op := hp.old
  have oA := hA.old
  have oB := hB.old
  by_cases hm : May p
  · obtain ⟨h1, h2, h3, h4, h5, h6, h7, h8⟩ := hm.toHead
    obtain ⟨m0, m1⟩ := mul_small h1 h2 h3 h4
    by_cases ho1 : IsOrd rows p.rows
    · by_cases ho2 : IsOrd cols p.width
      · obtain rfl : (shutP p.rows.toNat p.width (permB p rows cols), (0 : Int)) = q := by
          rw [← hq]; unfold permuteS
          rw [if_neg (by simp [hm]), if_neg (by simp [ho1, ho2])]
        have hl1 := ho1.len
        have hl2 := ho2.len
        unfold pvl patV
        refine calls_wc [] [] [.cell 6 TP, .tmp 7] (fun y : PA => [pvl y (shutP p.rows.toNat p.width (permB p rows cols)), vi 0]) Try.func71 rfl rfl (fun _ => rfl) Try.ntmps71 rfl (Own.nil w) rfl ?_
        refine gg ?_
        refine wl_op (ok_box rfl rfl rfl rfl rfl ?_); intro bp
        refine wl_op (ok_alloc rfl rfl rfl rfl (ze_of rfl) ?_); intro rb
        refine gg ?_
        refine gc1 (fun w hst => refMay_c (op.s.now hst) (op.c.now hst) true (by simp [hm])) (by exact rfl) ?_
        refine gg ?_
        refine gc1 (fun w hst => isOrder_c w (oA.now hst) h1 h2 true (by simp [ho1])) (by exact rfl) ?_
        refine gg ?_
        refine gc1 (fun w hst => isOrder_c w (oB.now hst) h3 h4 true (by simp [ho2])) (by exact rfl) ?_
        refine gg ?_
        refine gc3 [] (fun w hst hst1 => open_c w (op.s.now hst) (op.c.now hst) hm) (by exact rfl) ?_
        (repeat (first | refine gk1 ?_ | refine gk2 ?_ | refine gk3 ?_ | refine gk0 ?_ | refine gk4 ?_))
        rintro ⟨A1, c1, on1⟩ hg1
        dsimp only [List.cons_append, List.nil_append] at hg1 ⊢
        refine wl_op (ok_alloc rfl rfl rfl rfl (ze_of rfl) ?_); intro gb
        refine gg ?_
        refine gc3 [] (fun w hst hst1 => empty_c w h1 h2 h3 h4) (by exact rfl) ?_
        (repeat (first | refine gk1 ?_ | refine gk2 ?_ | refine gk3 ?_ | refine gk0 ?_ | refine gk4 ?_))
        rintro b0 _
        dsimp only [List.cons_append, List.nil_append]
        refine wl_op (ok_alloc rfl rfl rfl rfl (ze_of rfl) ?_); intro tb
        refine gg ?_
        have hgl1 := hg1.len
        refine glp (fun x : BX => 0 ≤ x.k ∧ x.k ≤ p.rows ∧ IsGrid x.on p.rows p.width (fillS (permB p rows cols) x.k 0)) (fun x => [(1, .slice A rows.length c), (2, .slice B cols.length d), (3, .pointer (some ⟨bp, 0, none⟩)), (6, .pointer (some ⟨rb, 0, none⟩)), (8, .pointer (some ⟨gb, 0, none⟩)), (9, .pointer (some ⟨tb, 0, none⟩)), (10, vi x.k)])
          (fun x => [osl TB vb (some ⟨b0, 0, none⟩) (p.rows * p.width).toNat x.on, blk tb (gridC p.rows p.width (some ⟨b0, 0, none⟩) (p.rows * p.width).toNat (p.rows * p.width).toNat) TGr, osl TB vb A1 c1 on1, blk gb (gridC p.rows p.width A1 on1.length c1) TGr, blk rb pat0 TP]) (fun x => (p.rows - x.k).toNat) ⟨0, 0, List.replicate (p.rows * p.width).toNat false⟩ ⟨by simp, h1, fill_zero (IsGrid.none m0)⟩ ?_
        rintro ⟨r, _, on⟩ ⟨hr0, hr1, hg⟩
        dsimp only at hr0 hr1 hg ⊢
        by_cases hr : r < p.rows
        · refine gg ?_
          refine glp (fun x : BX => 0 ≤ x.c ∧ x.c ≤ p.width ∧ IsGrid x.on p.rows p.width (fillS (permB p rows cols) r x.c)) (fun x => [(1, .slice A rows.length c), (2, .slice B cols.length d), (3, .pointer (some ⟨bp, 0, none⟩)), (6, .pointer (some ⟨rb, 0, none⟩)), (8, .pointer (some ⟨gb, 0, none⟩)), (9, .pointer (some ⟨tb, 0, none⟩)), (10, vi r), (11, vi x.c)])
            (fun x => [osl TB vb (some ⟨b0, 0, none⟩) (p.rows * p.width).toNat x.on, blk tb (gridC p.rows p.width (some ⟨b0, 0, none⟩) (p.rows * p.width).toNat (p.rows * p.width).toNat) TGr, osl TB vb A1 c1 on1, blk gb (gridC p.rows p.width A1 on1.length c1) TGr, blk rb pat0 TP]) (fun x => (p.width - x.c).toNat) ⟨r, 0, on⟩ ⟨by simp, h3, hg⟩ ?_
          rintro ⟨_, k, on⟩ ⟨hk0, hk1, hg⟩
          dsimp only at hk0 hk1 hg ⊢
          have hgl := hg.len
          by_cases hk : k < p.width
          · have hrr := ho1.rng r hr0 hr
            have hck := ho2.rng k hk0 hk
            have hcell := cell_lt hr0 hr hk0 hk
            have hcell1 := cell_lt hrr.1 hrr.2 hck.1 hck.2
            obtain ⟨q0, q1⟩ := mul_small (x := r) (y := p.width) hr0 (by omega) h3 h4
            have hat := hg1.at_ _ _ hrr.1 hrr.2 hck.1 hck.2
            have hv : permB p rows cols r k = hasB p (gt rows r) (gt cols k) := permB_in hr0 hr hk0 hk
            have hstep := fill_step hg hr0 hr hk0 hk
            rw [hv] at hstep
            refine gg ?_
            refine gwa [osl TB vb (some ⟨b0, 0, none⟩) (p.rows * p.width).toNat on] ?_
            (repeat (first | refine gk1 ?_ | refine gk2 ?_ | refine gk3 ?_ | refine gk0 ?_ | refine gk4 ?_))
            (first | refine ga1 0 (by exact rfl) (by exact rfl) ?_ | refine ga2 0 (by exact rfl) (by exact rfl) ?_ | refine ga3 0 (by exact rfl) (by exact rfl) ?_ | refine ga4 0 (by exact rfl) (by exact rfl) ?_)
            (first | refine ga1 1 (by exact rfl) (by exact rfl) ?_ | refine ga2 1 (by exact rfl) (by exact rfl) ?_ | refine ga3 1 (by exact rfl) (by exact rfl) ?_ | refine ga4 1 (by exact rfl) (by exact rfl) ?_)
            (first | refine ga1 2 (by exact rfl) (by exact rfl) ?_ | refine ga2 2 (by exact rfl) (by exact rfl) ?_ | refine ga3 2 (by exact rfl) (by exact rfl) ?_ | refine ga4 2 (by exact rfl) (by exact rfl) ?_)
            (first | refine ga1 3 (by exact rfl) (by exact rfl) ?_ | refine ga2 3 (by exact rfl) (by exact rfl) ?_ | refine ga3 3 (by exact rfl) (by exact rfl) ?_ | refine ga4 3 (by exact rfl) (by exact rfl) ?_)
            (first | refine ga1 4 (by exact rfl) (by exact rfl) ?_ | refine ga2 4 (by exact rfl) (by exact rfl) ?_ | refine ga3 4 (by exact rfl) (by exact rfl) ?_ | refine ga4 4 (by exact rfl) (by exact rfl) ?_)
            (first | refine ga1 5 (by exact rfl) (by exact rfl) ?_ | refine ga2 5 (by exact rfl) (by exact rfl) ?_ | refine ga3 5 (by exact rfl) (by exact rfl) ?_ | refine ga4 5 (by exact rfl) (by exact rfl) ?_)
            (first | refine ga1 6 (by exact rfl) (by exact rfl) ?_ | refine ga2 6 (by exact rfl) (by exact rfl) ?_ | refine ga3 6 (by exact rfl) (by exact rfl) ?_ | refine ga4 6 (by exact rfl) (by exact rfl) ?_)
            (first | refine ga1 7 (by exact rfl) (by exact rfl) ?_ | refine ga2 7 (by exact rfl) (by exact rfl) ?_ | refine ga3 7 (by exact rfl) (by exact rfl) ?_ | refine ga4 7 (by exact rfl) (by exact rfl) ?_)
            (first | refine ga1 8 (by exact rfl) (by exact rfl) ?_ | refine ga2 8 (by exact rfl) (by exact rfl) ?_ | refine ga3 8 (by exact rfl) (by exact rfl) ?_ | refine ga4 8 (by exact rfl) (by exact rfl) ?_)
            (first | refine ga1 9 (by exact rfl) (by exact rfl) ?_ | refine ga2 9 (by exact rfl) (by exact rfl) ?_ | refine ga3 9 (by exact rfl) (by exact rfl) ?_ | refine ga4 9 (by exact rfl) (by exact rfl) ?_)
            (first | refine ga1 10 (by exact rfl) (by exact rfl) ?_ | refine ga2 10 (by exact rfl) (by exact rfl) ?_ | refine ga3 10 (by exact rfl) (by exact rfl) ?_ | refine ga4 10 (by exact rfl) (by exact rfl) ?_)
            (first | refine ga1 11 (by exact rfl) (by exact rfl) ?_ | refine ga2 11 (by exact rfl) (by exact rfl) ?_ | refine ga3 11 (by exact rfl) (by exact rfl) ?_ | refine ga4 11 (by exact rfl) (by exact rfl) ?_)
            (first | refine ga1 12 (by exact rfl) (by exact rfl) ?_ | refine ga2 12 (by exact rfl) (by exact rfl) ?_ | refine ga3 12 (by exact rfl) (by exact rfl) ?_ | refine ga4 12 (by exact rfl) (by exact rfl) ?_)
            (first | refine ga1 13 (by exact rfl) (by exact rfl) ?_ | refine ga2 13 (by exact rfl) (by exact rfl) ?_ | refine ga3 13 (by exact rfl) (by exact rfl) ?_ | refine ga4 13 (by exact rfl) (by exact rfl) ?_)
            (first | refine ga1 14 (by exact rfl) (by exact rfl) ?_ | refine ga2 14 (by exact rfl) (by exact rfl) ?_ | refine ga3 14 (by exact rfl) (by exact rfl) ?_ | refine ga4 14 (by exact rfl) (by exact rfl) ?_)
            (first | refine ga1 15 (by exact rfl) (by exact rfl) ?_ | refine ga2 15 (by exact rfl) (by exact rfl) ?_ | refine ga3 15 (by exact rfl) (by exact rfl) ?_ | refine ga4 15 (by exact rfl) (by exact rfl) ?_)
            (first | refine ga1 16 (by exact rfl) (by exact rfl) ?_ | refine ga2 16 (by exact rfl) (by exact rfl) ?_ | refine ga3 16 (by exact rfl) (by exact rfl) ?_ | refine ga4 16 (by exact rfl) (by exact rfl) ?_)
            refine gaOne 17 rfl ?_
            refine gc10 (fun w hst => at_c (rows := p.rows) (width := p.width) (r := gt rows r) (x := gt cols k) w (grd hst) h3 h4 hrr.1 (by omega) hck.1 (by omega) (by omega) _ hat) (by exact rfl) ?_
            refine ⟨by (repeat (first | exact Suf.refl | exact Suf.nil | exact Suf.app _ _ | apply Suf.cons)), ?_⟩
            (first | refine ga1 18 (by exact rfl) (by exact rfl) ?_ | refine ga2 18 (by exact rfl) (by exact rfl) ?_ | refine ga3 18 (by exact rfl) (by exact rfl) ?_ | refine ga4 18 (by exact rfl) (by exact rfl) ?_)
            refine gaOne 19 rfl ?_
            refine gt0 (by exact rfl) ?_
            refine ⟨by (repeat (first | exact Suf.refl | exact Suf.nil | exact Suf.app _ _ | apply Suf.cons)), ?_⟩
            refine gaDone ?_
            refine gg ?_
            exact gnx (⟨r, k + 1, on.set (r * p.width + k).toNat (hasB p (gt rows r) (gt cols k))⟩ : BX) ⟨by dsimp only; omega, by dsimp only; omega, hstep⟩ (by dsimp only; omega)
          · obtain rfl : k = p.width := by omega
            refine gg ?_
            exact gnx (⟨r + 1, 0, on⟩ : BX) ⟨by dsimp only; omega, by dsimp only; omega, fill_next hg⟩ (by dsimp only; omega)
        · obtain rfl : r = p.rows := by omega
          have hg' := fill_end hg
          have hgl := hg.len
          have hN : (p.rows * p.width).toNat = on.length := by omega
          have hwi := permB_within p rows cols
          rw [hN]
          obtain ⟨m, hwm⟩ := Int.eq_ofNat_of_zero_le h1
          rw [hwm] at hg' hwi ⊢
          rw [show ((m : Int)).toNat = m by omega] at hwi ⊢
          refine gg ?_
          refine gc3 [] (fun w hst hst1 => refShut_c (m := m) (S := permB p rows cols) w (grd hst) hg' (by omega) h3 h4 hwi) (by exact rfl) ?_
          (repeat (first | refine gk1 ?_ | refine gk2 ?_ | refine gk3 ?_ | refine gk0 ?_ | refine gk4 ?_))
          rintro y _
          dsimp only [List.cons_append, List.nil_append]
          refine gg ?_
          exact grt y trivial
      · obtain rfl : (zP, (182 : Int)) = q := by
          rw [← hq]; unfold permuteS
          rw [if_neg (by simp [hm]), if_pos (fun h => ho2 h.2)]
        unfold pvl patV
        refine calls_wc [] [] [.cell 6 TP, .tmp 7] (fun y : PA => [pvl y zP, vi 182]) Try.func71 rfl rfl (fun _ => rfl) Try.ntmps71 rfl (Own.nil w) rfl ?_
        refine gnil ?_
        refine gnil ?_
        refine gg ?_
        refine wl_op (ok_box rfl rfl rfl rfl rfl ?_); intro bp
        refine wl_op (ok_alloc rfl rfl rfl rfl (ze_of rfl) ?_); intro rb
        refine gg ?_
        refine gc1 (fun w hst => refMay_c (op.s.now hst) (op.c.now hst) true (by simp [hm])) (by exact rfl) ?_
        refine gg ?_
        refine gc1 (fun w hst => isOrder_c w (oA.now hst) h1 h2 true (by simp [ho1])) (by exact rfl) ?_
        refine gg ?_
        refine gc1 (fun w hst => isOrder_c w (oB.now hst) h3 h4 false (by simp [ho2])) (by exact rfl) ?_
        refine gg ?_
        exact grt PA.nil trivial
    · obtain rfl : (zP, (182 : Int)) = q := by
        rw [← hq]; unfold permuteS
        rw [if_neg (by simp [hm]), if_pos (fun h => ho1 h.1)]
      unfold pvl patV
      refine calls_wc [] [] [.cell 6 TP, .tmp 7] (fun y : PA => [pvl y zP, vi 182]) Try.func71 rfl rfl (fun _ => rfl) Try.ntmps71 rfl (Own.nil w) rfl ?_
      refine gnil ?_
      refine gnil ?_
      refine gg ?_
      refine wl_op (ok_box rfl rfl rfl rfl rfl ?_); intro bp
      refine wl_op (ok_alloc rfl rfl rfl rfl (ze_of rfl) ?_); intro rb
      refine gg ?_
      refine gc1 (fun w hst => refMay_c (op.s.now hst) (op.c.now hst) true (by simp [hm])) (by exact rfl) ?_
      refine gg ?_
      refine gc1 (fun w hst => isOrder_c w (oA.now hst) h1 h2 false (by simp [ho1])) (by exact rfl) ?_
      refine gg ?_
      exact grt PA.nil trivial
  · obtain rfl : (zP, (180 : Int)) = q := by
      rw [← hq]; unfold permuteS
      rw [if_pos hm]
    unfold pvl patV
    refine calls_wc [] [] [.cell 6 TP, .tmp 7] (fun y : PA => [pvl y zP, vi 180]) Try.func71 rfl rfl (fun _ => rfl) Try.ntmps71 rfl (Own.nil w) rfl ?_
    refine gnil ?_
    refine gnil ?_
    refine gg ?_
    refine wl_op (ok_box rfl rfl rfl rfl rfl ?_); intro bp
    refine wl_op (ok_alloc rfl rfl rfl rfl (ze_of rfl) ?_); intro rb
    refine gg ?_
    refine gc1 (fun w hst => refMay_c (op.s.now hst) (op.c.now hst) false (by simp [hm])) (by exact rfl) ?_
    refine gg ?_
    exact grt PA.nil trivial
end
end Go.Proofs.Ytofngbaefbbeiaa
