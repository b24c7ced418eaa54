/- Walks: the law SparseOrders. -/
import Derived.Test.YtofngbaefbbeiaaC1
import Derived.Test.YtofngbaefbbeiaaCA
import Derived.Test.YtofngbaefbbeiaaT27
import Derived.Test.YtofngbaefbbeiaaT32
set_option linter.unusedVariables false
set_option linter.unusedSimpArgs false
set_option maxHeartbeats 8000000
namespace Go.Proofs.Ytofngbaefbbeiaa
open Go.RowKit
section
variable {p : Pat} {rows cols : List Int}
theorem IsOrd.back {l : List Int} {n : Int} (h : IsOrd l n) (h0 : 0 ≤ n) : ∃ b, BackTo l b n n := by
  classical
  refine ⟨(List.range n.toNat).map (fun x : Nat => if hx : (x : Int) < n then (h.surj (x := (x : Int)) (by omega) hx).choose else 0), by simp; omega, h.rng, fun i i0 i1 => ?_, fun x x0 x1 _ => h.surj x0 x1⟩
  have hr := h.rng i i0 i1
  rw [gt_range hr.1 (by omega), dif_pos (by omega)]
  have hs := (h.surj (x := ((gt l i).toNat : Int)) (by omega) (by omega)).choose_spec
  exact h.inj _ _ hs.1 hs.2.1 i0 i1 (by rw [hs.2.2]; omega)
theorem closed_ok (h : May p) (hsq : p.rows = p.width) : closedS p true = (shutP p.rows.toNat p.width (cloB p true), 0) := by
  unfold closedS
  rw [if_neg (not_not_intro h), if_neg (not_not_intro hsq)]
theorem closeE_iff (h : May p) (hsq : p.rows = p.width) {a b : Int} : hasB (closedS p true).1 a b = true ↔ (0 ≤ a ∧ a < p.rows) ∧ (0 ≤ b ∧ b < p.rows) ∧ (HasP p a b ∨ HasP p b a) := by
  rw [closed_ok h hsq, hasB_iff, has_shut h.toHead.w1 (cloB_within h hsq true)]
  unfold cloB
  rw [Bool.true_or, Bool.and_true, Bool.or_eq_true, hasB_iff, hasB_iff]
  have := h.toHead.r0
  constructor
  · rintro ⟨h1, h2⟩
    refine ⟨by omega, ?_, h2⟩
    rcases h2 with h2 | h2
    · have := (h2.in_ h).2; omega
    · have := (h2.in_ h).1; omega
  · rintro ⟨h1, h2, h3⟩
    exact ⟨by omega, h3⟩
theorem comp_ok (h : May p) (hsq : p.rows = p.width) : compS p = (compL (hasB (closedS p true).1) p.rows.toNat, 0) := by
  unfold compS
  rw [closed_ok h hsq]
  dsimp only
  rw [if_pos rfl]
  rfl
theorem comp_len (h : May p) (hsq : p.rows = p.width) : ((compS p).1.length : Int) = p.rows := by
  rw [comp_ok h hsq]
  have := h.toHead.r0
  simp [compL]
  omega
theorem comp_ren (h : May p) (hsq : p.rows = p.width) (ho : IsOrd rows p.rows) {i k : Int} (i0 : 0 ≤ i) (i1 : i < p.rows) (k0 : 0 ≤ k) (k1 : k < p.rows) :
    gt (compS (permP p rows rows)).1 i = gt (compS (permP p rows rows)).1 k ↔ gt (compS p).1 (gt rows i) = gt (compS p).1 (gt rows k) := by
  have hq := may_perm (rows := rows) (cols := rows) h
  have hqr : (permP p rows rows).rows = p.rows := rows_perm h
  have hqs : (permP p rows rows).rows = (permP p rows rows).width := by rw [hqr]; exact hsq
  have hr0 := h.toHead.r0
  have ri := ho.rng i i0 i1
  have rk := ho.rng k k0 k1
  rw [comp_ok hq hqs, comp_ok h hsq]
  dsimp only
  rw [hqr, compL_at i0 (by omega), compL_at k0 (by omega), compL_at ri.1 (by omega), compL_at rk.1 (by omega)]
  have e1 : Ev (hasB (closedS p true).1) := (closed_facts (p := p) (by rw [closed_ok h hsq])).2.2
  have e2 : Ev (hasB (closedS (permP p rows rows) true).1) := (closed_facts (p := permP p rows rows) (by rw [closed_ok hq hqs])).2.2
  rw [lab_eq e2 i0 k0, lab_eq e1 ri.1 rk.1]
  refine way_ren (n := p.rows) (fun a b hab => ?_) ho (fun a b hab => ?_) (fun a b a0 a1 b0 b1 => ?_) i0 i1 k0 k1
  · have := (closeE_iff hq hqs).1 hab
    rw [hqr] at this
    exact ⟨this.1.1, this.1.2, this.2.1.1, this.2.1.2⟩
  · have := (closeE_iff h hsq).1 hab
    exact ⟨this.1.1, this.1.2, this.2.1.1, this.2.1.2⟩
  · have ra := ho.rng a a0 a1
    have rb := ho.rng b b0 b1
    rw [closeE_iff hq hqs, closeE_iff h hsq, has_perm h, has_perm h, hqr]
    constructor
    · rintro ⟨_, _, hh⟩
      refine ⟨ra, rb, ?_⟩
      rcases hh with hh | hh
      · exact .inl hh.2.2
      · exact .inr hh.2.2
    · rintro ⟨_, _, hh⟩
      refine ⟨⟨a0, a1⟩, ⟨b0, b1⟩, ?_⟩
      rcases hh with hh | hh
      · exact .inl ⟨⟨a0, a1⟩, ⟨b0, by omega⟩, hh⟩
      · exact .inr ⟨⟨b0, b1⟩, ⟨a0, by omega⟩, hh⟩
end
section
variable {A B : Option Addr} {c d : Nat} {rows cols : List Int}
theorem back_c (w : World) (hA : Rds vi w A c rows) {n : Int} (ho : IsOrd rows n) (h1 : n ≤ 128) :
    Calls Try.prog 36 [.slice A rows.length c].toArray w (Ret [] (fun y : RX => .slice y.A y.xs.length y.c) (fun y => [osl TI vi y.A y.c y.xs]) (fun y => BackTo rows y.xs n n) w) := by
  have oA := hA.old
  have hl := ho.len
  refine calls_wc [] [] [.tmp 2] (fun y : RX => [.slice y.A y.xs.length y.c]) Try.func36 rfl rfl (fun _ => rfl) Try.ntmps36 rfl (Own.nil w) rfl ?_
  refine gg ?_
  refine gmk vi 0 rfl rfl rfl rfl rfl rfl rfl rfl rfl rfl rfl (by omega) (Int.le_refl _) (by omega) (by omega) ?_
  intro b
  rw [Int.toNat_natCast]
  refine gg ?_
  refine glp (fun x : Int × List Int => 0 ≤ x.1 ∧ x.1 ≤ n ∧ x.2.length = rows.length ∧ ∀ i, 0 ≤ i → i < x.1 → gt x.2 (gt rows i) = i) (fun x => [(0, .slice A rows.length c), (3, .slice (some ⟨b, 0, none⟩) rows.length rows.length), (4, vi x.1)]) (fun x => [osl TI vi (some ⟨b, 0, none⟩) rows.length x.2]) (fun x => (n - x.1).toNat) (0, List.replicate rows.length 0) ⟨by simp, by dsimp only; omega, by simp, fun i i0 i1 => by dsimp only at i1; omega⟩ ?_
  rintro ⟨k, xs⟩ ⟨hk0, hk1, hxl, hx⟩
  dsimp only at hk0 hk1 hxl hx ⊢
  by_cases hk : k < n
  · have hr := ho.rng k hk0 hk
    refine gg ?_
    exact gnx (k + 1, xs.set (gt rows k).toNat k) ⟨by dsimp only; omega, by dsimp only; omega, by dsimp only; rw [List.length_set]; exact hxl, fun i i0 i1 => by
      dsimp only at i1 ⊢
      have hri := ho.rng i i0 (by omega)
      rw [gt_setI hr.1 (by omega) hri.1]
      by_cases e : gt rows i = gt rows k
      · rw [if_pos e]
        exact (ho.inj i k i0 (by omega) hk0 hk e).symm
      · rw [if_neg e]
        refine hx i i0 ?_
        by_cases e2 : i = k
        · rw [e2] at e; exact (e rfl).elim
        · omega⟩ (by dsimp only; omega)
  · obtain rfl : k = n := by omega
    refine gg ?_
    refine grt (⟨some ⟨b, 0, none⟩, rows.length, xs⟩ : RX) ⟨by rw [hxl]; exact hl, ho.rng, hx, fun x x0 x1 _ => ho.surj x0 x1⟩ (h1 := ⟨.t (look_to rfl (by rw [hxl])), trivial⟩)
variable {p : Pat} {x : PA}
theorem lawSparseOrders_c (w : World) (hp : RdP w x p) (hA : Rds vi w A c rows) (hB : Rds vi w B d cols) :
    Calls Try.prog 11 [pvl x p, .slice A rows.length c, .slice B cols.length d].toArray w (one (.bool true) w) := by
  have op := hp.old
  have oA := hA.old
  have oB := hB.old
  unfold pvl patV
  by_cases hm : May p
  · obtain ⟨h1, h2, h3, h4, h5, h6, h7, h8⟩ := hm.toHead
    by_cases ho1 : IsOrd rows p.rows
    · by_cases ho2 : IsOrd cols p.width
      · obtain ⟨br, hbr⟩ := ho1.back h1
        obtain ⟨bc, hbc⟩ := ho2.back h3
        have hcount := perm_count hm ho1 ho2 hbr hbc
        refine calls_wc [] [] [.tmp 6] (fun _ => [.bool true]) Try.func11 rfl rfl (fun _ => rfl) Try.ntmps11 rfl (Own.nil w) rfl ?_
        refine gg ?_
        refine wl_op (ok_box rfl rfl rfl rfl rfl ?_); intro bp
        refine gg ?_
        refine gc1 (fun w hst => begun_c w) (by exact rfl) ?_
        refine gg ?_
        refine gc1 (fun w hst => refMay_c (op.s.now hst) (op.c.now hst) true (by simp [hm])) (by exact rfl) ?_
        refine gg ?_
        refine gc1 (fun w hst => isOrder_c w (oA.now hst) h1 h2 true (by simp [ho1])) (by exact rfl) ?_
        refine gg ?_
        refine gc1 (fun w hst => isOrder_c w (oB.now hst) h3 h4 true (by simp [ho2])) (by exact rfl) ?_
        refine gg ?_
        refine gc3 [] (fun w hst hst1 => permute_c (p := p) (x := x) w (op.now hst) (oA.now hst) (oB.now hst) _ (permuteS_ok hm ho1 ho2)) (by exact rfl) ?_
        (repeat (first | refine gk1 ?_ | refine gk2 ?_ | refine gk3 ?_ | refine gk0 ?_ | refine gk4 ?_))
        rintro y _
        dsimp only [List.cons_append, List.nil_append]
        refine gg ?_
        refine wl_op (ok_alloc rfl rfl rfl rfl (ze_of rfl) ?_); intro q9
        refine gg ?_
        have hperm : ∀ {br bc : List Int}, BackTo rows br p.rows p.rows → BackTo cols bc p.width p.width → permuteS (permP p rows cols) br bc = (p, 0) := fun b1 b2 => by
          rw [permuteS_ok (may_perm hm) (by rw [rows_perm hm]; exact b1.ordB ho1.len) (b2.ordB ho2.len), perm_back hm ho1.len ho2.len b1 b2]
        refine wc_meetK (fun z : PA × Nat => True) (fun z => [(3, .pointer (some ⟨bp, 0, none⟩)), (1, .slice A rows.length c), (2, .slice B cols.length d), (9, .pointer (some ⟨q9, 0, none⟩)), (10, vi 0), (11, .pointer (some ⟨z.2, 0, none⟩)), (12, vi 0)])
          (fun z => [blk z.2 (pcs z.1 p) TP, osl TI vi z.1.A z.1.c p.start, osl TI vi z.1.B z.1.d p.cols, blk q9 (pcs y (permP p rows cols)) TP, osl TI vi y.A y.c (permP p rows cols).start, osl TI vi y.B y.d (permP p rows cols).cols, blk bp (pcs x p) TP]) ?_ ?_
        · refine gwa [] ?_
          (repeat (first | refine gk1 ?_ | refine gk2 ?_ | refine gk3 ?_ | refine gk0 ?_ | refine gk4 ?_))
          (first | refine ga1 0 (by exact rfl) (by exact rfl) ?_ | refine ga2 0 (by exact rfl) (by exact rfl) ?_ | refine ga3 0 (by exact rfl) (by exact rfl) ?_ | refine ga4 0 (by exact rfl) (by exact rfl) ?_)
          (first | refine ga1 1 (by exact rfl) (by exact rfl) ?_ | refine ga2 1 (by exact rfl) (by exact rfl) ?_ | refine ga3 1 (by exact rfl) (by exact rfl) ?_ | refine ga4 1 (by exact rfl) (by exact rfl) ?_)
          (first | refine ga1 3 (by exact rfl) (by exact rfl) ?_ | refine ga2 3 (by exact rfl) (by exact rfl) ?_ | refine ga3 3 (by exact rfl) (by exact rfl) ?_ | refine ga4 3 (by exact rfl) (by exact rfl) ?_)
          refine gaAll [2, 9] ?_
          intro j hj
          simp only [List.mem_cons, List.not_mem_nil, or_false] at hj
          rcases hj with rfl | rfl
          · refine ⟨_, rfl, ?_⟩
            refine gc0 [] (fun w hst hst1 => back_c (rows := rows) w (oA.now hst) ho1 h2) (by exact rfl) ?_
            (repeat (first | refine gk1 ?_ | refine gk2 ?_ | refine gk3 ?_ | refine gk0 ?_ | refine gk4 ?_))
            rintro u1 hu1
            dsimp only [List.cons_append, List.nil_append]
            refine ⟨by (repeat (first | exact Suf.refl | exact Suf.nil | exact Suf.app _ _ | apply Suf.cons)), ?_⟩
            refine gaAll [4, 9] ?_
            intro j hj
            simp only [List.mem_cons, List.not_mem_nil, or_false] at hj
            rcases hj with rfl | rfl
            · refine ⟨_, rfl, ?_⟩
              refine gc0 [] (fun w hst hst1 => back_c (rows := cols) w (oB.now hst) ho2 h4) (by exact rfl) ?_
              (repeat (first | refine gk1 ?_ | refine gk2 ?_ | refine gk3 ?_ | refine gk0 ?_ | refine gk4 ?_))
              rintro u2 hu2
              dsimp only [List.cons_append, List.nil_append]
              refine ⟨by (repeat (first | exact Suf.refl | exact Suf.nil | exact Suf.app _ _ | apply Suf.cons)), ?_⟩
              refine gaAll [5, 9] ?_
              intro j hj
              simp only [List.mem_cons, List.not_mem_nil, or_false] at hj
              rcases hj with rfl | rfl
              · refine ⟨_, rfl, ?_⟩
                refine gc0 [] (fun w hst hst1 => permute_c (p := permP p rows cols) (x := y) (rows := u1.xs) (cols := u2.xs) w (grdP hst) (grd hst) (grd hst) (p, 0) (hperm hu1 hu2)) (by exact rfl) ?_
                (repeat (first | refine gk1 ?_ | refine gk2 ?_ | refine gk3 ?_ | refine gk0 ?_ | refine gk4 ?_))
                rintro y2 _
                dsimp only [List.cons_append, List.nil_append]
                refine ⟨by (repeat (first | exact Suf.refl | exact Suf.nil | exact Suf.app _ _ | apply Suf.cons)), ?_⟩
                (first | refine ga1 6 (by exact rfl) (by exact rfl) ?_ | refine ga2 6 (by exact rfl) (by exact rfl) ?_ | refine ga3 6 (by exact rfl) (by exact rfl) ?_ | refine ga4 6 (by exact rfl) (by exact rfl) ?_)
                (first | refine ga1 7 (by exact rfl) (by exact rfl) ?_ | refine ga2 7 (by exact rfl) (by exact rfl) ?_ | refine ga3 7 (by exact rfl) (by exact rfl) ?_ | refine ga4 7 (by exact rfl) (by exact rfl) ?_)
                (first | refine ga1 8 (by exact rfl) (by exact rfl) ?_ | refine ga2 8 (by exact rfl) (by exact rfl) ?_ | refine ga3 8 (by exact rfl) (by exact rfl) ?_ | refine ga4 8 (by exact rfl) (by exact rfl) ?_)
                refine gaOne 9 rfl ?_
                refine ok_alloc rfl rfl rfl rfl (ze_of rfl) ?_
                intro tb
                refine ⟨by (repeat (first | exact Suf.refl | exact Suf.nil | exact Suf.app _ _ | apply Suf.cons)), ?_⟩
                refine gaOne 10 rfl ?_
                refine gt0 (by exact rfl) ?_
                refine ⟨by (repeat (first | exact Suf.refl | exact Suf.nil | exact Suf.app _ _ | apply Suf.cons)), ?_⟩
                (first | refine ga1 11 (by exact rfl) (by exact rfl) ?_ | refine ga2 11 (by exact rfl) (by exact rfl) ?_ | refine ga3 11 (by exact rfl) (by exact rfl) ?_ | refine ga4 11 (by exact rfl) (by exact rfl) ?_)
                refine gaDone ?_
                exact ⟨⟨y2, tb⟩, trivial, .cons rfl (.cons rfl (.cons rfl (.cons rfl (.cons rfl (.cons rfl (.cons rfl .nil)))))), by refine SubK.e ?_; (repeat (first | refine gk1 ?_ | refine gk2 ?_ | refine gk3 ?_ | refine gk0 ?_ | refine gk4 ?_)); trivial⟩
              · refine ⟨_, rfl, ?_⟩
                refine ok_alloc rfl rfl rfl rfl (ze_of rfl) ?_
                intro tb
                refine ⟨by (repeat (first | exact Suf.refl | exact Suf.nil | exact Suf.app _ _ | apply Suf.cons)), ?_⟩
                refine gaOne 5 rfl ?_
                refine gc0 [] (fun w hst hst1 => permute_c (p := permP p rows cols) (x := y) (rows := u1.xs) (cols := u2.xs) w (grdP hst) (grd hst) (grd hst) (p, 0) (hperm hu1 hu2)) (by exact rfl) ?_
                (repeat (first | refine gk1 ?_ | refine gk2 ?_ | refine gk3 ?_ | refine gk0 ?_ | refine gk4 ?_))
                rintro y2 _
                dsimp only [List.cons_append, List.nil_append]
                refine ⟨by (repeat (first | exact Suf.refl | exact Suf.nil | exact Suf.app _ _ | apply Suf.cons)), ?_⟩
                (first | refine ga1 6 (by exact rfl) (by exact rfl) ?_ | refine ga2 6 (by exact rfl) (by exact rfl) ?_ | refine ga3 6 (by exact rfl) (by exact rfl) ?_ | refine ga4 6 (by exact rfl) (by exact rfl) ?_)
                (first | refine ga1 7 (by exact rfl) (by exact rfl) ?_ | refine ga2 7 (by exact rfl) (by exact rfl) ?_ | refine ga3 7 (by exact rfl) (by exact rfl) ?_ | refine ga4 7 (by exact rfl) (by exact rfl) ?_)
                (first | refine ga1 8 (by exact rfl) (by exact rfl) ?_ | refine ga2 8 (by exact rfl) (by exact rfl) ?_ | refine ga3 8 (by exact rfl) (by exact rfl) ?_ | refine ga4 8 (by exact rfl) (by exact rfl) ?_)
                refine gaOne 10 rfl ?_
                refine gt0 (by exact rfl) ?_
                refine ⟨by (repeat (first | exact Suf.refl | exact Suf.nil | exact Suf.app _ _ | apply Suf.cons)), ?_⟩
                (first | refine ga1 11 (by exact rfl) (by exact rfl) ?_ | refine ga2 11 (by exact rfl) (by exact rfl) ?_ | refine ga3 11 (by exact rfl) (by exact rfl) ?_ | refine ga4 11 (by exact rfl) (by exact rfl) ?_)
                refine gaDone ?_
                exact ⟨⟨y2, tb⟩, trivial, .cons rfl (.cons rfl (.cons rfl (.cons rfl (.cons rfl (.cons rfl (.cons rfl .nil)))))), by refine SubK.e ?_; (repeat (first | refine gk1 ?_ | refine gk2 ?_ | refine gk3 ?_ | refine gk0 ?_ | refine gk4 ?_)); trivial⟩
            · refine ⟨_, rfl, ?_⟩
              refine ok_alloc rfl rfl rfl rfl (ze_of rfl) ?_
              intro tb
              refine ⟨by (repeat (first | exact Suf.refl | exact Suf.nil | exact Suf.app _ _ | apply Suf.cons)), ?_⟩
              refine gaOne 4 rfl ?_
              refine gc0 [] (fun w hst hst1 => back_c (rows := cols) w (oB.now hst) ho2 h4) (by exact rfl) ?_
              (repeat (first | refine gk1 ?_ | refine gk2 ?_ | refine gk3 ?_ | refine gk0 ?_ | refine gk4 ?_))
              rintro u2 hu2
              dsimp only [List.cons_append, List.nil_append]
              refine ⟨by (repeat (first | exact Suf.refl | exact Suf.nil | exact Suf.app _ _ | apply Suf.cons)), ?_⟩
              refine gaOne 5 rfl ?_
              refine gc0 [] (fun w hst hst1 => permute_c (p := permP p rows cols) (x := y) (rows := u1.xs) (cols := u2.xs) w (grdP hst) (grd hst) (grd hst) (p, 0) (hperm hu1 hu2)) (by exact rfl) ?_
              (repeat (first | refine gk1 ?_ | refine gk2 ?_ | refine gk3 ?_ | refine gk0 ?_ | refine gk4 ?_))
              rintro y2 _
              dsimp only [List.cons_append, List.nil_append]
              refine ⟨by (repeat (first | exact Suf.refl | exact Suf.nil | exact Suf.app _ _ | apply Suf.cons)), ?_⟩
              (first | refine ga1 6 (by exact rfl) (by exact rfl) ?_ | refine ga2 6 (by exact rfl) (by exact rfl) ?_ | refine ga3 6 (by exact rfl) (by exact rfl) ?_ | refine ga4 6 (by exact rfl) (by exact rfl) ?_)
              (first | refine ga1 7 (by exact rfl) (by exact rfl) ?_ | refine ga2 7 (by exact rfl) (by exact rfl) ?_ | refine ga3 7 (by exact rfl) (by exact rfl) ?_ | refine ga4 7 (by exact rfl) (by exact rfl) ?_)
              (first | refine ga1 8 (by exact rfl) (by exact rfl) ?_ | refine ga2 8 (by exact rfl) (by exact rfl) ?_ | refine ga3 8 (by exact rfl) (by exact rfl) ?_ | refine ga4 8 (by exact rfl) (by exact rfl) ?_)
              refine gaOne 10 rfl ?_
              refine gt0 (by exact rfl) ?_
              refine ⟨by (repeat (first | exact Suf.refl | exact Suf.nil | exact Suf.app _ _ | apply Suf.cons)), ?_⟩
              (first | refine ga1 11 (by exact rfl) (by exact rfl) ?_ | refine ga2 11 (by exact rfl) (by exact rfl) ?_ | refine ga3 11 (by exact rfl) (by exact rfl) ?_ | refine ga4 11 (by exact rfl) (by exact rfl) ?_)
              refine gaDone ?_
              exact ⟨⟨y2, tb⟩, trivial, .cons rfl (.cons rfl (.cons rfl (.cons rfl (.cons rfl (.cons rfl (.cons rfl .nil)))))), by refine SubK.e ?_; (repeat (first | refine gk1 ?_ | refine gk2 ?_ | refine gk3 ?_ | refine gk0 ?_ | refine gk4 ?_)); trivial⟩
          · refine ⟨_, rfl, ?_⟩
            refine ok_alloc rfl rfl rfl rfl (ze_of rfl) ?_
            intro tb
            refine ⟨by (repeat (first | exact Suf.refl | exact Suf.nil | exact Suf.app _ _ | apply Suf.cons)), ?_⟩
            refine gaOne 2 rfl ?_
            refine gc0 [] (fun w hst hst1 => back_c (rows := rows) w (oA.now hst) ho1 h2) (by exact rfl) ?_
            (repeat (first | refine gk1 ?_ | refine gk2 ?_ | refine gk3 ?_ | refine gk0 ?_ | refine gk4 ?_))
            rintro u1 hu1
            dsimp only [List.cons_append, List.nil_append]
            refine ⟨by (repeat (first | exact Suf.refl | exact Suf.nil | exact Suf.app _ _ | apply Suf.cons)), ?_⟩
            refine gaOne 4 rfl ?_
            refine gc0 [] (fun w hst hst1 => back_c (rows := cols) w (oB.now hst) ho2 h4) (by exact rfl) ?_
            (repeat (first | refine gk1 ?_ | refine gk2 ?_ | refine gk3 ?_ | refine gk0 ?_ | refine gk4 ?_))
            rintro u2 hu2
            dsimp only [List.cons_append, List.nil_append]
            refine ⟨by (repeat (first | exact Suf.refl | exact Suf.nil | exact Suf.app _ _ | apply Suf.cons)), ?_⟩
            refine gaOne 5 rfl ?_
            refine gc0 [] (fun w hst hst1 => permute_c (p := permP p rows cols) (x := y) (rows := u1.xs) (cols := u2.xs) w (grdP hst) (grd hst) (grd hst) (p, 0) (hperm hu1 hu2)) (by exact rfl) ?_
            (repeat (first | refine gk1 ?_ | refine gk2 ?_ | refine gk3 ?_ | refine gk0 ?_ | refine gk4 ?_))
            rintro y2 _
            dsimp only [List.cons_append, List.nil_append]
            refine ⟨by (repeat (first | exact Suf.refl | exact Suf.nil | exact Suf.app _ _ | apply Suf.cons)), ?_⟩
            (first | refine ga1 6 (by exact rfl) (by exact rfl) ?_ | refine ga2 6 (by exact rfl) (by exact rfl) ?_ | refine ga3 6 (by exact rfl) (by exact rfl) ?_ | refine ga4 6 (by exact rfl) (by exact rfl) ?_)
            (first | refine ga1 7 (by exact rfl) (by exact rfl) ?_ | refine ga2 7 (by exact rfl) (by exact rfl) ?_ | refine ga3 7 (by exact rfl) (by exact rfl) ?_ | refine ga4 7 (by exact rfl) (by exact rfl) ?_)
            (first | refine ga1 8 (by exact rfl) (by exact rfl) ?_ | refine ga2 8 (by exact rfl) (by exact rfl) ?_ | refine ga3 8 (by exact rfl) (by exact rfl) ?_ | refine ga4 8 (by exact rfl) (by exact rfl) ?_)
            refine gaOne 10 rfl ?_
            refine gt0 (by exact rfl) ?_
            refine ⟨by (repeat (first | exact Suf.refl | exact Suf.nil | exact Suf.app _ _ | apply Suf.cons)), ?_⟩
            (first | refine ga1 11 (by exact rfl) (by exact rfl) ?_ | refine ga2 11 (by exact rfl) (by exact rfl) ?_ | refine ga3 11 (by exact rfl) (by exact rfl) ?_ | refine ga4 11 (by exact rfl) (by exact rfl) ?_)
            refine gaDone ?_
            exact ⟨⟨y2, tb⟩, trivial, .cons rfl (.cons rfl (.cons rfl (.cons rfl (.cons rfl (.cons rfl (.cons rfl .nil)))))), by refine SubK.e ?_; (repeat (first | refine gk1 ?_ | refine gk2 ?_ | refine gk3 ?_ | refine gk0 ?_ | refine gk4 ?_)); trivial⟩
        rintro ⟨y2, q11⟩ _
        dsimp only
        refine gg ?_
        refine gwa [] ?_
        (repeat (first | refine gk1 ?_ | refine gk2 ?_ | refine gk3 ?_ | refine gk0 ?_ | refine gk4 ?_))
        (first | refine ga1 0 (by exact rfl) (by exact rfl) ?_ | refine ga2 0 (by exact rfl) (by exact rfl) ?_ | refine ga3 0 (by exact rfl) (by exact rfl) ?_ | refine ga4 0 (by exact rfl) (by exact rfl) ?_)
        (first | refine ga1 1 (by exact rfl) (by exact rfl) ?_ | refine ga2 1 (by exact rfl) (by exact rfl) ?_ | refine ga3 1 (by exact rfl) (by exact rfl) ?_ | refine ga4 1 (by exact rfl) (by exact rfl) ?_)
        (first | refine ga1 2 (by exact rfl) (by exact rfl) ?_ | refine ga2 2 (by exact rfl) (by exact rfl) ?_ | refine ga3 2 (by exact rfl) (by exact rfl) ?_ | refine ga4 2 (by exact rfl) (by exact rfl) ?_)
        (first | refine ga1 3 (by exact rfl) (by exact rfl) ?_ | refine ga2 3 (by exact rfl) (by exact rfl) ?_ | refine ga3 3 (by exact rfl) (by exact rfl) ?_ | refine ga4 3 (by exact rfl) (by exact rfl) ?_)
        (first | refine ga1 4 (by exact rfl) (by exact rfl) ?_ | refine ga2 4 (by exact rfl) (by exact rfl) ?_ | refine ga3 4 (by exact rfl) (by exact rfl) ?_ | refine ga4 4 (by exact rfl) (by exact rfl) ?_)
        (first | refine ga1 5 (by exact rfl) (by exact rfl) ?_ | refine ga2 5 (by exact rfl) (by exact rfl) ?_ | refine ga3 5 (by exact rfl) (by exact rfl) ?_ | refine ga4 5 (by exact rfl) (by exact rfl) ?_)
        (first | refine ga1 6 (by exact rfl) (by exact rfl) ?_ | refine ga2 6 (by exact rfl) (by exact rfl) ?_ | refine ga3 6 (by exact rfl) (by exact rfl) ?_ | refine ga4 6 (by exact rfl) (by exact rfl) ?_)
        (first | refine ga1 7 (by exact rfl) (by exact rfl) ?_ | refine ga2 7 (by exact rfl) (by exact rfl) ?_ | refine ga3 7 (by exact rfl) (by exact rfl) ?_ | refine ga4 7 (by exact rfl) (by exact rfl) ?_)
        (first | refine ga1 8 (by exact rfl) (by exact rfl) ?_ | refine ga2 8 (by exact rfl) (by exact rfl) ?_ | refine ga3 8 (by exact rfl) (by exact rfl) ?_ | refine ga4 8 (by exact rfl) (by exact rfl) ?_)
        refine gaOne 9 rfl ?_
        refine gc10 (fun w hst => samePattern_c (p := p) (q := p) (x := y2) (y := x) w (grdP hst) (op.now hst) true (by simp)) (by exact rfl) ?_
        refine ⟨by (repeat (first | exact Suf.refl | exact Suf.nil | exact Suf.app _ _ | apply Suf.cons)), ?_⟩
        (first | refine ga1 10 (by exact rfl) (by exact rfl) ?_ | refine ga2 10 (by exact rfl) (by exact rfl) ?_ | refine ga3 10 (by exact rfl) (by exact rfl) ?_ | refine ga4 10 (by exact rfl) (by exact rfl) ?_)
        (first | refine ga1 11 (by exact rfl) (by exact rfl) ?_ | refine ga2 11 (by exact rfl) (by exact rfl) ?_ | refine ga3 11 (by exact rfl) (by exact rfl) ?_ | refine ga4 11 (by exact rfl) (by exact rfl) ?_)
        (first | refine ga1 12 (by exact rfl) (by exact rfl) ?_ | refine ga2 12 (by exact rfl) (by exact rfl) ?_ | refine ga3 12 (by exact rfl) (by exact rfl) ?_ | refine ga4 12 (by exact rfl) (by exact rfl) ?_)
        (first | refine ga1 13 (by exact rfl) (by exact rfl) ?_ | refine ga2 13 (by exact rfl) (by exact rfl) ?_ | refine ga3 13 (by exact rfl) (by exact rfl) ?_ | refine ga4 13 (by exact rfl) (by exact rfl) ?_)
        (first | refine ga1 15 (by exact rfl) (by exact rfl) ?_ | refine ga2 15 (by exact rfl) (by exact rfl) ?_ | refine ga3 15 (by exact rfl) (by exact rfl) ?_ | refine ga4 15 (by exact rfl) (by exact rfl) ?_)
        refine gaOne 14 rfl ?_
        refine gc10 (fun w hst => count_c (p := permP p rows cols) w (grdP (x := y) hst).s (grdP (x := y) hst).c p.cols.length ⟨fun _ => by rw [hcount], fun h => absurd (may_perm hm) h⟩) (by exact rfl) ?_
        refine ⟨by (repeat (first | exact Suf.refl | exact Suf.nil | exact Suf.app _ _ | apply Suf.cons)), ?_⟩
        refine gaOne 16 rfl ?_
        refine gc10 (fun w hst => count_c (p := p) w (op.s.now hst) (op.c.now hst) p.cols.length ⟨fun _ => rfl, fun h => absurd hm h⟩) (by exact rfl) ?_
        refine ⟨by (repeat (first | exact Suf.refl | exact Suf.nil | exact Suf.app _ _ | apply Suf.cons)), ?_⟩
        (first | refine ga1 17 (by exact rfl) (by exact rfl) ?_ | refine ga2 17 (by exact rfl) (by exact rfl) ?_ | refine ga3 17 (by exact rfl) (by exact rfl) ?_ | refine ga4 17 (by exact rfl) (by exact rfl) ?_)
        (first | refine ga1 18 (by exact rfl) (by exact rfl) ?_ | refine ga2 18 (by exact rfl) (by exact rfl) ?_ | refine ga3 18 (by exact rfl) (by exact rfl) ?_ | refine ga4 18 (by exact rfl) (by exact rfl) ?_)
        refine gaDone ?_
        refine gg ?_
        by_cases hsq : p.rows = p.width
        · have hs := may_perm (rows := rows) (cols := rows) hm
          have hsr : (permP p rows rows).rows = p.rows := rows_perm hm
          have hss : (permP p rows rows).rows = (permP p rows rows).width := by rw [hsr]; exact hsq
          have hl1 := comp_len hm hsq
          have hl2 := comp_len hs hss
          rw [hsr] at hl2
          have hren := fun i k i0 i1 k0 k1 => comp_ren (rows := rows) hm hsq ho1 (i := i) (k := k) i0 i1 k0 k1
          have hc1 : ∀ w, RdP w x p → Calls Try.prog 38 [pvl x p].toArray w (Ret [] (fun y : RX => .tuple #[.slice y.A y.xs.length y.c, vi 0]) (fun y => [osl TI vi y.A y.c y.xs]) (fun y => y.xs = (compS p).1) w) := fun w h => by
            have := comp_c w h
            rwa [show (compS p).2 = 0 by rw [comp_ok hm hsq]] at this
          have hc2 : ∀ (z : PA) w, RdP w z (permP p rows rows) → Calls Try.prog 38 [pvl z (permP p rows rows)].toArray w (Ret [] (fun y : RX => .tuple #[.slice y.A y.xs.length y.c, vi 0]) (fun y => [osl TI vi y.A y.c y.xs]) (fun y => y.xs = (compS (permP p rows rows)).1) w) := fun z w h => by
            have := comp_c w h
            rwa [show (compS (permP p rows rows)).2 = 0 by rw [comp_ok hs hss]] at this
          refine gg ?_
          refine gc3 [] (fun w hst hst1 => permute_c (p := p) (x := x) w (op.now hst) (oA.now hst) (oA.now hst) _ (permuteS_ok hm ho1 (by rw [← hsq]; exact ho1))) (by exact rfl) ?_
          (repeat (first | refine gk1 ?_ | refine gk2 ?_ | refine gk3 ?_ | refine gk0 ?_ | refine gk4 ?_))
          rintro y3 _
          dsimp only [List.cons_append, List.nil_append]
          refine gg ?_
          refine wl_op (ok_alloc rfl rfl rfl rfl (ze_of rfl) ?_); intro q13
          refine gg ?_
          refine gc3 [] (fun w hst hst1 => hc1 w (op.now hst)) (by exact rfl) ?_
          (repeat (first | refine gk1 ?_ | refine gk2 ?_ | refine gk3 ?_ | refine gk0 ?_ | refine gk4 ?_))
          rintro ⟨A1, c1, a⟩ ha
          dsimp only [List.cons_append, List.nil_append] at ha ⊢
          refine gg ?_
          refine gc3 [] (fun w hst hst1 => hc2 y3 w (grdP hst)) (by exact rfl) ?_
          (repeat (first | refine gk1 ?_ | refine gk2 ?_ | refine gk3 ?_ | refine gk0 ?_ | refine gk4 ?_))
          rintro ⟨A2, c2, b⟩ hb
          dsimp only [List.cons_append, List.nil_append] at hb ⊢
          rw [← ha] at hl1 hren
          rw [← hb] at hl2 hren
          refine gg ?_
          refine glp (fun i : Int => 0 ≤ i ∧ i ≤ p.rows) (fun i => [(3, .pointer (some ⟨bp, 0, none⟩)), (1, .slice A rows.length c), (14, .slice A1 a.length c1), (15, .slice A2 b.length c2), (17, vi i)]) (fun _ => [osl TI vi A1 c1 a, osl TI vi A2 c2 b, blk bp (pcs x p) TP]) (fun i => (p.rows - i).toNat) 0 ⟨by omega, by omega⟩ ?_
          rintro i ⟨hi0, hi1⟩
          by_cases hi : i < p.rows
          · refine gg ?_
            refine glp (fun k : Int => 0 ≤ k ∧ k ≤ p.rows) (fun k => [(3, .pointer (some ⟨bp, 0, none⟩)), (1, .slice A rows.length c), (14, .slice A1 a.length c1), (15, .slice A2 b.length c2), (17, vi i), (18, vi k)]) (fun _ => [osl TI vi A1 c1 a, osl TI vi A2 c2 b, blk bp (pcs x p) TP]) (fun k => (p.rows - k).toNat) 0 ⟨by omega, by omega⟩ ?_
            rintro k ⟨hk0, hk1⟩
            by_cases hk : k < p.rows
            · have hri := ho1.rng i hi0 hi
              have hrk := ho1.rng k hk0 hk
              have hrl := ho1.len
              have hik := hren i k hi0 hi hk0 hk
              refine gg ?_
              refine wc_quiet mixed (by kernel_rfl) ?_
              by_cases e : gt b i = gt b k
              · have e2 := hik.1 e
                refine gg ?_
                refine wq_val rfl rfl rfl (val_neb uB rfl rfl rfl) ?_
                rw [show (!(true == true)) = false by rfl]
                refine gg ?_
                exact gnx (k + 1) ⟨by omega, by omega⟩ (by omega)
              · have e2 : ¬ gt a (gt rows i) = gt a (gt rows k) := fun h => e (hik.2 h)
                refine gg ?_
                refine wq_val rfl rfl rfl (val_neb uB rfl rfl rfl) ?_
                rw [show (!(false == false)) = false by rfl]
                refine gg ?_
                exact gnx (k + 1) ⟨by omega, by omega⟩ (by omega)
            · obtain rfl : k = p.rows := by omega
              refine gg ?_
              exact gnx (i + 1) ⟨by omega, by omega⟩ (by omega)
          · obtain rfl : i = p.rows := by omega
            refine gg ?_
            exact grt () trivial
        · refine gg ?_
          exact grt () trivial
      · refine calls_wc [] [] [.tmp 6] (fun _ => [.bool true]) Try.func11 rfl rfl (fun _ => rfl) Try.ntmps11 rfl (Own.nil w) rfl ?_
        refine gg ?_
        refine wl_op (ok_box rfl rfl rfl rfl rfl ?_); intro bp
        refine gg ?_
        refine gc1 (fun w hst => begun_c w) (by exact rfl) ?_
        refine gg ?_
        refine gc1 (fun w hst => refMay_c (op.s.now hst) (op.c.now hst) true (by simp [hm])) (by exact rfl) ?_
        refine gg ?_
        refine gc1 (fun w hst => isOrder_c w (oA.now hst) h1 h2 true (by simp [ho1])) (by exact rfl) ?_
        refine gg ?_
        refine gc1 (fun w hst => isOrder_c w (oB.now hst) h3 h4 false (by simp [ho2])) (by exact rfl) ?_
        refine gg ?_
        refine gc3 [] (fun w hst hst1 => permute_c (p := p) (x := x) w (op.now hst) (oA.now hst) (oB.now hst) (zP, 182) (by unfold permuteS; rw [if_neg (not_not_intro hm), if_pos (fun h => ho2 h.2)])) (by exact rfl) ?_
        (repeat (first | refine gk1 ?_ | refine gk2 ?_ | refine gk3 ?_ | refine gk0 ?_ | refine gk4 ?_))
        rintro y _
        dsimp only [List.cons_append, List.nil_append]
        refine gg ?_
        refine wl_op (ok_alloc rfl rfl rfl rfl (ze_of rfl) ?_); intro q7
        refine gg ?_
        refine gc1 (fun w hst => samePattern_c (p := zP) (q := zP) (x := y) (y := PA.nil) w (grdP hst) (rdP_nil w) true (by simp)) (by exact rfl) ?_
        refine gg ?_
        exact grt () trivial
    · refine calls_wc [] [] [.tmp 6] (fun _ => [.bool true]) Try.func11 rfl rfl (fun _ => rfl) Try.ntmps11 rfl (Own.nil w) rfl ?_
      refine gg ?_
      refine wl_op (ok_box rfl rfl rfl rfl rfl ?_); intro bp
      refine gg ?_
      refine gc1 (fun w hst => begun_c w) (by exact rfl) ?_
      refine gg ?_
      refine gc1 (fun w hst => refMay_c (op.s.now hst) (op.c.now hst) true (by simp [hm])) (by exact rfl) ?_
      refine gg ?_
      refine gc1 (fun w hst => isOrder_c w (oA.now hst) h1 h2 false (by simp [ho1])) (by exact rfl) ?_
      refine gg ?_
      refine gc3 [] (fun w hst hst1 => permute_c (p := p) (x := x) w (op.now hst) (oA.now hst) (oB.now hst) (zP, 182) (by unfold permuteS; rw [if_neg (not_not_intro hm), if_pos (fun h => ho1 h.1)])) (by exact rfl) ?_
      (repeat (first | refine gk1 ?_ | refine gk2 ?_ | refine gk3 ?_ | refine gk0 ?_ | refine gk4 ?_))
      rintro y _
      dsimp only [List.cons_append, List.nil_append]
      refine gg ?_
      refine wl_op (ok_alloc rfl rfl rfl rfl (ze_of rfl) ?_); intro q7
      refine gg ?_
      refine gc1 (fun w hst => samePattern_c (p := zP) (q := zP) (x := y) (y := PA.nil) w (grdP hst) (rdP_nil w) true (by simp)) (by exact rfl) ?_
      refine gg ?_
      exact grt () trivial
  · refine calls_wc [] [] [.tmp 6] (fun _ => [.bool true]) Try.func11 rfl rfl (fun _ => rfl) Try.ntmps11 rfl (Own.nil w) rfl ?_
    refine gg ?_
    refine wl_op (ok_box rfl rfl rfl rfl rfl ?_); intro bp
    refine gg ?_
    refine gc1 (fun w hst => begun_c w) (by exact rfl) ?_
    refine gg ?_
    refine gc1 (fun w hst => refMay_c (op.s.now hst) (op.c.now hst) false (by simp [hm])) (by exact rfl) ?_
    refine gg ?_
    refine gc3 [] (fun w hst hst1 => permute_c (p := p) (x := x) w (op.now hst) (oA.now hst) (oB.now hst) (zP, 180) (by unfold permuteS; rw [if_pos hm])) (by exact rfl) ?_
    (repeat (first | refine gk1 ?_ | refine gk2 ?_ | refine gk3 ?_ | refine gk0 ?_ | refine gk4 ?_))
    rintro y _
    dsimp only [List.cons_append, List.nil_append]
    refine gg ?_
    refine wl_op (ok_alloc rfl rfl rfl rfl (ze_of rfl) ?_); intro q7
    refine gg ?_
    refine gc1 (fun w hst => samePattern_c (p := zP) (q := zP) (x := y) (y := PA.nil) w (grdP hst) (rdP_nil w) true (by simp)) (by exact rfl) ?_
    refine gg ?_
    exact grt () trivial
end
end Go.Proofs.Ytofngbaefbbeiaa
