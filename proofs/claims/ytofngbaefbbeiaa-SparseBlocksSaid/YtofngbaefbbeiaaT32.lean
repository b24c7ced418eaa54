/- Walks: the law SparseAlgebra. -/
import Derived.Test.YtofngbaefbbeiaaT31
set_option linter.unusedVariables false
set_option linter.unusedSimpArgs false
set_option maxHeartbeats 8000000
namespace Go.Proofs.Ytofngbaefbbeiaa
open Go.RowKit
theorem lpMem {w : World} {x y : PA} {p q : Pat} (h1 : RdP w x p) (h2 : RdP w y q) : ∀ z ∈ [(x, p), (y, q)], RdP w z.1 z.2 := fun z hz => by
  simp only [List.mem_cons, List.not_mem_nil, or_false] at hz
  rcases hz with rfl | rfl
  · exact h1
  · exact h2
section
variable {a b c d : Pat} {xa xb xc xd : PA}
theorem lawSparseAlgebra_c (w : World) (ra : RdP w xa a) (rb : RdP w xb b) (rc : RdP w xc c) (rd : RdP w xd d) :
    Calls Try.prog 9 [pvl xa a, pvl xb b, pvl xc c, pvl xd d].toArray w (one (.bool true) w) := by
  have oa := ra.old
  have ob := rb.old
  have oc := rc.old
  have od := rd.old
  unfold pvl patV
  refine calls_wc [] [] [.tmp 8] (fun _ => [.bool true]) Try.func9 rfl rfl (fun _ => rfl) Try.ntmps9 rfl (Own.nil w) rfl ?_
  refine gg ?_
  refine wl_op (ok_box rfl rfl rfl rfl rfl ?_); intro b4
  refine wl_op (ok_box rfl rfl rfl rfl rfl ?_); intro b5
  refine wl_op (ok_box rfl rfl rfl rfl rfl ?_); intro b6
  refine wl_op (ok_box rfl rfl rfl rfl rfl ?_); intro b7
  refine gg ?_
  refine gc1 (fun w hst => begun_c w) (by exact rfl) ?_
  repeat (first | refine gp1 (by exact rfl) ?_ | refine gl1 (by exact rfl) ?_ | refine gb1 (by exact rfl) ?_ | refine gi1 (by exact rfl) ?_ | refine gt1 (by exact rfl) ?_)
  refine wl_nil ?_
  (repeat (first | with_reducible refine thenQ_normal ?_ | with_reducible refine thenQ_exit ?_ | with_reducible refine thenQ_ret ?_ | with_reducible refine blkQ_normal ?_ | with_reducible refine blkQ_ret ?_ | with_reducible refine blkQ_hit ?_ | (with_reducible refine blkQ_miss ?_ ?_; · rfl) | refine wc_seq ?_ | refine wc_skip ?_ | refine wc_block ?_ | refine wc_true rfl ?_ | refine wc_false rfl ?_ | refine wc_exit ?_ | refine wc_ret ?_))
  refine wc_meetK (fun z : Bool => z = true ↔ ¬ (May a ∧ May b ∧ May c ∧ May d)) (fun z => [(48, .bool z), (4, .pointer (some ⟨b4, 0, none⟩)), (5, .pointer (some ⟨b5, 0, none⟩)), (6, .pointer (some ⟨b6, 0, none⟩)), (7, .pointer (some ⟨b7, 0, none⟩))]) (fun z => [blk b4 (pcs xa a) TP, blk b5 (pcs xb b) TP, blk b6 (pcs xc c) TP, blk b7 (pcs xd d) TP]) ?_ ?_
  · by_cases ha : May a
    · by_cases hb : May b
      · by_cases hc : May c
        · by_cases hd : May d
          · refine gg ?_
            refine gc1 (fun w hst => refMay_c (oa.s.now hst) (oa.c.now hst) true (by simp [ha])) (by exact rfl) ?_
            refine gg ?_
            refine gc1 (fun w hst => refMay_c (ob.s.now hst) (ob.c.now hst) true (by simp [hb])) (by exact rfl) ?_
            refine gg ?_
            refine gc1 (fun w hst => refMay_c (oc.s.now hst) (oc.c.now hst) true (by simp [hc])) (by exact rfl) ?_
            refine gg ?_
            refine gc1 (fun w hst => refMay_c (od.s.now hst) (od.c.now hst) true (by simp [hd])) (by exact rfl) ?_
            refine gg ?_
            exact ⟨false, by simp [ha, hb, hc, hd], .cons rfl (.cons rfl (.cons rfl (.cons rfl (.cons rfl .nil)))), by refine SubK.e ?_; (repeat (first | refine gk1 ?_ | refine gk2 ?_ | refine gk3 ?_ | refine gk0 ?_ | refine gk4 ?_)); trivial⟩
          · refine gg ?_
            refine gc1 (fun w hst => refMay_c (oa.s.now hst) (oa.c.now hst) true (by simp [ha])) (by exact rfl) ?_
            refine gg ?_
            refine gc1 (fun w hst => refMay_c (ob.s.now hst) (ob.c.now hst) true (by simp [hb])) (by exact rfl) ?_
            refine gg ?_
            refine gc1 (fun w hst => refMay_c (oc.s.now hst) (oc.c.now hst) true (by simp [hc])) (by exact rfl) ?_
            refine gg ?_
            refine gc1 (fun w hst => refMay_c (od.s.now hst) (od.c.now hst) false (by simp [hd])) (by exact rfl) ?_
            refine gg ?_
            exact ⟨true, by simp [ha, hb, hc, hd], .cons rfl (.cons rfl (.cons rfl (.cons rfl (.cons rfl .nil)))), by refine SubK.e ?_; (repeat (first | refine gk1 ?_ | refine gk2 ?_ | refine gk3 ?_ | refine gk0 ?_ | refine gk4 ?_)); trivial⟩
        · refine gg ?_
          refine gc1 (fun w hst => refMay_c (oa.s.now hst) (oa.c.now hst) true (by simp [ha])) (by exact rfl) ?_
          refine gg ?_
          refine gc1 (fun w hst => refMay_c (ob.s.now hst) (ob.c.now hst) true (by simp [hb])) (by exact rfl) ?_
          refine gg ?_
          refine gc1 (fun w hst => refMay_c (oc.s.now hst) (oc.c.now hst) false (by simp [hc])) (by exact rfl) ?_
          refine gg ?_
          exact ⟨true, by simp [hc], .cons rfl (.cons rfl (.cons rfl (.cons rfl (.cons rfl .nil)))), by refine SubK.e ?_; (repeat (first | refine gk1 ?_ | refine gk2 ?_ | refine gk3 ?_ | refine gk0 ?_ | refine gk4 ?_)); trivial⟩
      · refine gg ?_
        refine gc1 (fun w hst => refMay_c (oa.s.now hst) (oa.c.now hst) true (by simp [ha])) (by exact rfl) ?_
        refine gg ?_
        refine gc1 (fun w hst => refMay_c (ob.s.now hst) (ob.c.now hst) false (by simp [hb])) (by exact rfl) ?_
        refine gg ?_
        exact ⟨true, by simp [hb], .cons rfl (.cons rfl (.cons rfl (.cons rfl (.cons rfl .nil)))), by refine SubK.e ?_; (repeat (first | refine gk1 ?_ | refine gk2 ?_ | refine gk3 ?_ | refine gk0 ?_ | refine gk4 ?_)); trivial⟩
    · refine gg ?_
      refine gc1 (fun w hst => refMay_c (oa.s.now hst) (oa.c.now hst) false (by simp [ha])) (by exact rfl) ?_
      refine gg ?_
      exact ⟨true, by simp [ha], .cons rfl (.cons rfl (.cons rfl (.cons rfl (.cons rfl .nil)))), by refine SubK.e ?_; (repeat (first | refine gk1 ?_ | refine gk2 ?_ | refine gk3 ?_ | refine gk0 ?_ | refine gk4 ?_)); trivial⟩
  intro z hz
  cases z with
  | true =>
    have hn := hz.1 rfl
    refine gg ?_
    refine gbp [(xa, a), (xb, b), (xc, c), (xd, d)] (ps := [(0, .agg (pcs xa a).toArray), (1, .agg (pcs xb b).toArray), (2, .agg (pcs xc c).toArray), (3, .agg (pcs xd d).toArray)]) rfl rfl rfl rfl rfl rfl (by simp) (by simp) (by kernel_rfl) ?_
    intro lb
    refine gc3 [] (fun w hst hst1 => union_c (l := [(xa, a), (xb, b), (xc, c), (xd, d)]) w (grdPs hst (fun z hz => by
      simp only [List.mem_cons, List.not_mem_nil, or_false] at hz
      rcases hz with rfl | rfl | rfl | rfl
      · exact oa.now hst
      · exact ob.now hst
      · exact oc.now hst
      · exact od.now hst) (by simp)) (zP, 180) (by
        have : alikeS ([(xa, a), (xb, b), (xc, c), (xd, d)].map Prod.snd) = 180 := by
          unfold alikeS
          rw [if_pos]
          intro h
          exact hn ⟨h a (by simp), h b (by simp), h c (by simp), h d (by simp)⟩
        unfold unionS
        rw [if_pos (by rw [this]; decide), this])) (by exact rfl) ?_
    (repeat (first | refine gk1 ?_ | refine gk2 ?_ | refine gk3 ?_ | refine gk0 ?_ | refine gk4 ?_))
    rintro y _
    dsimp only [List.cons_append, List.nil_append]
    refine gg ?_
    refine wl_op (ok_alloc rfl rfl rfl rfl (ze_of rfl) ?_); intro q1
    refine gg ?_
    exact grt () trivial
  | false =>
    have hm : May a ∧ May b ∧ May c ∧ May d := Classical.byContradiction fun h => by have := hz.2 h; cases this
    clear hz
    obtain ⟨ha, hb, hc, hd⟩ := hm
    refine gg ?_
    refine gwa [] ?_
    (repeat (first | refine gk1 ?_ | refine gk2 ?_ | refine gk3 ?_ | refine gk0 ?_ | refine gk4 ?_))
    (first | refine ga1 0 (by exact rfl) (by exact rfl) ?_ | refine ga2 0 (by exact rfl) (by exact rfl) ?_ | refine ga3 0 (by exact rfl) (by exact rfl) ?_ | refine ga4 0 (by exact rfl) (by exact rfl) ?_)
    (first | refine ga1 3 (by exact rfl) (by exact rfl) ?_ | refine ga2 3 (by exact rfl) (by exact rfl) ?_ | refine ga3 3 (by exact rfl) (by exact rfl) ?_ | refine ga4 3 (by exact rfl) (by exact rfl) ?_)
    refine gaOne 1 rfl ?_
    refine gc0 [] (fun w hst hst1 => turned_c (p := a) (x := xa) w (oa.now hst) ha) (by exact rfl) ?_
    (repeat (first | refine gk1 ?_ | refine gk2 ?_ | refine gk3 ?_ | refine gk0 ?_ | refine gk4 ?_))
    rintro y1 _
    dsimp only [List.cons_append, List.nil_append]
    refine ⟨by (repeat (first | exact Suf.refl | exact Suf.nil | exact Suf.app _ _ | apply Suf.cons)), ?_⟩
    refine gaOne 2 rfl ?_
    refine gc0 [] (fun w hst hst1 => turned_c (p := turnP a) (x := y1) w (grdP hst) (may_turn ha)) (by exact rfl) ?_
    (repeat (first | refine gk1 ?_ | refine gk2 ?_ | refine gk3 ?_ | refine gk0 ?_ | refine gk4 ?_))
    rintro y2 _
    dsimp only [List.cons_append, List.nil_append]
    refine ⟨by (repeat (first | exact Suf.refl | exact Suf.nil | exact Suf.app _ _ | apply Suf.cons)), ?_⟩
    refine gaOne 4 rfl ?_
    refine gc10 (fun w hst => samePattern_c (p := turnP (turnP a)) (q := a) (x := y2) (y := xa) w (grdP hst) (oa.now hst) true (by simp [turn_turn ha])) (by exact rfl) ?_
    refine ⟨by (repeat (first | exact Suf.refl | exact Suf.nil | exact Suf.app _ _ | apply Suf.cons)), ?_⟩
    (first | refine ga1 5 (by exact rfl) (by exact rfl) ?_ | refine ga2 5 (by exact rfl) (by exact rfl) ?_ | refine ga3 5 (by exact rfl) (by exact rfl) ?_ | refine ga4 5 (by exact rfl) (by exact rfl) ?_)
    refine gaDone ?_
    refine gg ?_
    by_cases hab : a.width = b.rows
    · refine gc3 [] (fun w hst hst1 => product_c (p := a) (q := b) (x := xa) (y := xb) w (oa.now hst) (ob.now hst) _ (productS_ok ha hb hab)) (by exact rfl) ?_
      (repeat (first | refine gk1 ?_ | refine gk2 ?_ | refine gk3 ?_ | refine gk0 ?_ | refine gk4 ?_))
      rintro x11 _
      dsimp only [List.cons_append, List.nil_append]
      refine gg ?_
      refine wl_op (ok_alloc rfl rfl rfl rfl (ze_of rfl) ?_); intro q11
      repeat (first | refine gp1 (by exact rfl) ?_ | refine gl1 (by exact rfl) ?_ | refine gb1 (by exact rfl) ?_ | refine gi1 (by exact rfl) ?_ | refine gt1 (by exact rfl) ?_)
      refine wl_nil ?_
      (repeat (first | with_reducible refine thenQ_normal ?_ | with_reducible refine thenQ_exit ?_ | with_reducible refine thenQ_ret ?_ | with_reducible refine blkQ_normal ?_ | with_reducible refine blkQ_ret ?_ | with_reducible refine blkQ_hit ?_ | (with_reducible refine blkQ_miss ?_ ?_; · rfl) | refine wc_seq ?_ | refine wc_skip ?_ | refine wc_block ?_ | refine wc_true rfl ?_ | refine wc_false rfl ?_ | refine wc_exit ?_ | refine wc_ret ?_))
      refine wc_region ?_
      repeat (first | refine gp1 (by exact rfl) ?_ | refine gl1 (by exact rfl) ?_ | refine gb1 (by exact rfl) ?_ | refine gi1 (by exact rfl) ?_ | refine gt1 (by exact rfl) ?_)
      refine wl_nil ?_
      (repeat (first | with_reducible refine thenQ_normal ?_ | with_reducible refine thenQ_exit ?_ | with_reducible refine thenQ_ret ?_ | with_reducible refine blkQ_normal ?_ | with_reducible refine blkQ_ret ?_ | with_reducible refine blkQ_hit ?_ | (with_reducible refine blkQ_miss ?_ ?_; · rfl) | refine wc_seq ?_ | refine wc_skip ?_ | refine wc_block ?_ | refine wc_true rfl ?_ | refine wc_false rfl ?_ | refine wc_exit ?_ | refine wc_ret ?_))
      refine wc_meetK (fun z : PA × Nat => True) (fun z => [(4, .pointer (some ⟨b4, 0, none⟩)), (5, .pointer (some ⟨b5, 0, none⟩)), (6, .pointer (some ⟨b6, 0, none⟩)), (7, .pointer (some ⟨b7, 0, none⟩)), (11, .pointer (some ⟨q11, 0, none⟩)), (12, vi 0), (13, .pointer (some ⟨z.2, 0, none⟩)), (14, vi 0)]) (fun z => [blk z.2 (pcs z.1 (prodP (turnP b) (turnP a))) TP, osl TI vi z.1.A z.1.c (prodP (turnP b) (turnP a)).start, osl TI vi z.1.B z.1.d (prodP (turnP b) (turnP a)).cols, blk q11 (pcs x11 (prodP a b)) TP, osl TI vi x11.A x11.c (prodP a b).start, osl TI vi x11.B x11.d (prodP a b).cols, blk b4 (pcs xa a) TP, blk b5 (pcs xb b) TP, blk b6 (pcs xc c) TP, blk b7 (pcs xd d) TP]) ?_ ?_
      · refine gwa [] ?_
        (repeat (first | refine gk1 ?_ | refine gk2 ?_ | refine gk3 ?_ | refine gk0 ?_ | refine gk4 ?_))
        (first | refine ga1 0 (by exact rfl) (by exact rfl) ?_ | refine ga2 0 (by exact rfl) (by exact rfl) ?_ | refine ga3 0 (by exact rfl) (by exact rfl) ?_ | refine ga4 0 (by exact rfl) (by exact rfl) ?_)
        (first | refine ga1 2 (by exact rfl) (by exact rfl) ?_ | refine ga2 2 (by exact rfl) (by exact rfl) ?_ | refine ga3 2 (by exact rfl) (by exact rfl) ?_ | refine ga4 2 (by exact rfl) (by exact rfl) ?_)
        refine gaAll [1, 8] ?_
        intro j hj
        simp only [List.mem_cons, List.not_mem_nil, or_false] at hj
        rcases hj with rfl | rfl
        · refine ⟨_, rfl, ?_⟩
          refine gc0 [] (fun w hst hst1 => turned_c (p := b) (x := xb) w (ob.now hst) hb) (by exact rfl) ?_
          (repeat (first | refine gk1 ?_ | refine gk2 ?_ | refine gk3 ?_ | refine gk0 ?_ | refine gk4 ?_))
          rintro y1 _
          dsimp only [List.cons_append, List.nil_append]
          refine ⟨by (repeat (first | exact Suf.refl | exact Suf.nil | exact Suf.app _ _ | apply Suf.cons)), ?_⟩
          refine gaAll [3, 8] ?_
          intro j hj
          simp only [List.mem_cons, List.not_mem_nil, or_false] at hj
          rcases hj with rfl | rfl
          · refine ⟨_, rfl, ?_⟩
            refine gc0 [] (fun w hst hst1 => turned_c (p := a) (x := xa) w (oa.now hst) ha) (by exact rfl) ?_
            (repeat (first | refine gk1 ?_ | refine gk2 ?_ | refine gk3 ?_ | refine gk0 ?_ | refine gk4 ?_))
            rintro y2 _
            dsimp only [List.cons_append, List.nil_append]
            refine ⟨by (repeat (first | exact Suf.refl | exact Suf.nil | exact Suf.app _ _ | apply Suf.cons)), ?_⟩
            refine gaAll [4, 8] ?_
            intro j hj
            simp only [List.mem_cons, List.not_mem_nil, or_false] at hj
            rcases hj with rfl | rfl
            · refine ⟨_, rfl, ?_⟩
              refine gc0 [] (fun w hst hst1 => product_c (p := turnP b) (q := turnP a) (x := y1) (y := y2) w (grdP hst) (grdP hst) _ (productS_ok (may_turn hb) (may_turn ha) (by rw [rows_turn ha]; exact hab.symm))) (by exact rfl) ?_
              (repeat (first | refine gk1 ?_ | refine gk2 ?_ | refine gk3 ?_ | refine gk0 ?_ | refine gk4 ?_))
              rintro y3 _
              dsimp only [List.cons_append, List.nil_append]
              refine ⟨by (repeat (first | exact Suf.refl | exact Suf.nil | exact Suf.app _ _ | apply Suf.cons)), ?_⟩
              (first | refine ga1 5 (by exact rfl) (by exact rfl) ?_ | refine ga2 5 (by exact rfl) (by exact rfl) ?_ | refine ga3 5 (by exact rfl) (by exact rfl) ?_ | refine ga4 5 (by exact rfl) (by exact rfl) ?_)
              (first | refine ga1 6 (by exact rfl) (by exact rfl) ?_ | refine ga2 6 (by exact rfl) (by exact rfl) ?_ | refine ga3 6 (by exact rfl) (by exact rfl) ?_ | refine ga4 6 (by exact rfl) (by exact rfl) ?_)
              (first | refine ga1 7 (by exact rfl) (by exact rfl) ?_ | refine ga2 7 (by exact rfl) (by exact rfl) ?_ | refine ga3 7 (by exact rfl) (by exact rfl) ?_ | refine ga4 7 (by exact rfl) (by exact rfl) ?_)
              refine gaOne 8 rfl ?_
              refine ok_alloc rfl rfl rfl rfl (ze_of rfl) ?_
              intro tb
              refine ⟨by (repeat (first | exact Suf.refl | exact Suf.nil | exact Suf.app _ _ | apply Suf.cons)), ?_⟩
              refine gaOne 9 rfl ?_
              refine gt0 (by exact rfl) ?_
              refine ⟨by (repeat (first | exact Suf.refl | exact Suf.nil | exact Suf.app _ _ | apply Suf.cons)), ?_⟩
              (first | refine ga1 10 (by exact rfl) (by exact rfl) ?_ | refine ga2 10 (by exact rfl) (by exact rfl) ?_ | refine ga3 10 (by exact rfl) (by exact rfl) ?_ | refine ga4 10 (by exact rfl) (by exact rfl) ?_)
              refine gaDone ?_
              exact ⟨⟨y3, tb⟩, trivial, .cons rfl (.cons rfl (.cons rfl (.cons rfl (.cons rfl (.cons rfl (.cons rfl (.cons rfl .nil))))))), by refine SubK.e ?_; (repeat (first | refine gk1 ?_ | refine gk2 ?_ | refine gk3 ?_ | refine gk0 ?_ | refine gk4 ?_)); trivial⟩
            · refine ⟨_, rfl, ?_⟩
              refine ok_alloc rfl rfl rfl rfl (ze_of rfl) ?_
              intro tb
              refine ⟨by (repeat (first | exact Suf.refl | exact Suf.nil | exact Suf.app _ _ | apply Suf.cons)), ?_⟩
              refine gaOne 4 rfl ?_
              refine gc0 [] (fun w hst hst1 => product_c (p := turnP b) (q := turnP a) (x := y1) (y := y2) w (grdP hst) (grdP hst) _ (productS_ok (may_turn hb) (may_turn ha) (by rw [rows_turn ha]; exact hab.symm))) (by exact rfl) ?_
              (repeat (first | refine gk1 ?_ | refine gk2 ?_ | refine gk3 ?_ | refine gk0 ?_ | refine gk4 ?_))
              rintro y3 _
              dsimp only [List.cons_append, List.nil_append]
              refine ⟨by (repeat (first | exact Suf.refl | exact Suf.nil | exact Suf.app _ _ | apply Suf.cons)), ?_⟩
              (first | refine ga1 5 (by exact rfl) (by exact rfl) ?_ | refine ga2 5 (by exact rfl) (by exact rfl) ?_ | refine ga3 5 (by exact rfl) (by exact rfl) ?_ | refine ga4 5 (by exact rfl) (by exact rfl) ?_)
              (first | refine ga1 6 (by exact rfl) (by exact rfl) ?_ | refine ga2 6 (by exact rfl) (by exact rfl) ?_ | refine ga3 6 (by exact rfl) (by exact rfl) ?_ | refine ga4 6 (by exact rfl) (by exact rfl) ?_)
              (first | refine ga1 7 (by exact rfl) (by exact rfl) ?_ | refine ga2 7 (by exact rfl) (by exact rfl) ?_ | refine ga3 7 (by exact rfl) (by exact rfl) ?_ | refine ga4 7 (by exact rfl) (by exact rfl) ?_)
              refine gaOne 9 rfl ?_
              refine gt0 (by exact rfl) ?_
              refine ⟨by (repeat (first | exact Suf.refl | exact Suf.nil | exact Suf.app _ _ | apply Suf.cons)), ?_⟩
              (first | refine ga1 10 (by exact rfl) (by exact rfl) ?_ | refine ga2 10 (by exact rfl) (by exact rfl) ?_ | refine ga3 10 (by exact rfl) (by exact rfl) ?_ | refine ga4 10 (by exact rfl) (by exact rfl) ?_)
              refine gaDone ?_
              exact ⟨⟨y3, tb⟩, trivial, .cons rfl (.cons rfl (.cons rfl (.cons rfl (.cons rfl (.cons rfl (.cons rfl (.cons rfl .nil))))))), by refine SubK.e ?_; (repeat (first | refine gk1 ?_ | refine gk2 ?_ | refine gk3 ?_ | refine gk0 ?_ | refine gk4 ?_)); trivial⟩
          · refine ⟨_, rfl, ?_⟩
            refine ok_alloc rfl rfl rfl rfl (ze_of rfl) ?_
            intro tb
            refine ⟨by (repeat (first | exact Suf.refl | exact Suf.nil | exact Suf.app _ _ | apply Suf.cons)), ?_⟩
            refine gaOne 3 rfl ?_
            refine gc0 [] (fun w hst hst1 => turned_c (p := a) (x := xa) w (oa.now hst) ha) (by exact rfl) ?_
            (repeat (first | refine gk1 ?_ | refine gk2 ?_ | refine gk3 ?_ | refine gk0 ?_ | refine gk4 ?_))
            rintro y2 _
            dsimp only [List.cons_append, List.nil_append]
            refine ⟨by (repeat (first | exact Suf.refl | exact Suf.nil | exact Suf.app _ _ | apply Suf.cons)), ?_⟩
            refine gaOne 4 rfl ?_
            refine gc0 [] (fun w hst hst1 => product_c (p := turnP b) (q := turnP a) (x := y1) (y := y2) w (grdP hst) (grdP hst) _ (productS_ok (may_turn hb) (may_turn ha) (by rw [rows_turn ha]; exact hab.symm))) (by exact rfl) ?_
            (repeat (first | refine gk1 ?_ | refine gk2 ?_ | refine gk3 ?_ | refine gk0 ?_ | refine gk4 ?_))
            rintro y3 _
            dsimp only [List.cons_append, List.nil_append]
            refine ⟨by (repeat (first | exact Suf.refl | exact Suf.nil | exact Suf.app _ _ | apply Suf.cons)), ?_⟩
            (first | refine ga1 5 (by exact rfl) (by exact rfl) ?_ | refine ga2 5 (by exact rfl) (by exact rfl) ?_ | refine ga3 5 (by exact rfl) (by exact rfl) ?_ | refine ga4 5 (by exact rfl) (by exact rfl) ?_)
            (first | refine ga1 6 (by exact rfl) (by exact rfl) ?_ | refine ga2 6 (by exact rfl) (by exact rfl) ?_ | refine ga3 6 (by exact rfl) (by exact rfl) ?_ | refine ga4 6 (by exact rfl) (by exact rfl) ?_)
            (first | refine ga1 7 (by exact rfl) (by exact rfl) ?_ | refine ga2 7 (by exact rfl) (by exact rfl) ?_ | refine ga3 7 (by exact rfl) (by exact rfl) ?_ | refine ga4 7 (by exact rfl) (by exact rfl) ?_)
            refine gaOne 9 rfl ?_
            refine gt0 (by exact rfl) ?_
            refine ⟨by (repeat (first | exact Suf.refl | exact Suf.nil | exact Suf.app _ _ | apply Suf.cons)), ?_⟩
            (first | refine ga1 10 (by exact rfl) (by exact rfl) ?_ | refine ga2 10 (by exact rfl) (by exact rfl) ?_ | refine ga3 10 (by exact rfl) (by exact rfl) ?_ | refine ga4 10 (by exact rfl) (by exact rfl) ?_)
            refine gaDone ?_
            exact ⟨⟨y3, tb⟩, trivial, .cons rfl (.cons rfl (.cons rfl (.cons rfl (.cons rfl (.cons rfl (.cons rfl (.cons rfl .nil))))))), by refine SubK.e ?_; (repeat (first | refine gk1 ?_ | refine gk2 ?_ | refine gk3 ?_ | refine gk0 ?_ | refine gk4 ?_)); trivial⟩
        · refine ⟨_, rfl, ?_⟩
          refine ok_alloc rfl rfl rfl rfl (ze_of rfl) ?_
          intro tb
          refine ⟨by (repeat (first | exact Suf.refl | exact Suf.nil | exact Suf.app _ _ | apply Suf.cons)), ?_⟩
          refine gaOne 1 rfl ?_
          refine gc0 [] (fun w hst hst1 => turned_c (p := b) (x := xb) w (ob.now hst) hb) (by exact rfl) ?_
          (repeat (first | refine gk1 ?_ | refine gk2 ?_ | refine gk3 ?_ | refine gk0 ?_ | refine gk4 ?_))
          rintro y1 _
          dsimp only [List.cons_append, List.nil_append]
          refine ⟨by (repeat (first | exact Suf.refl | exact Suf.nil | exact Suf.app _ _ | apply Suf.cons)), ?_⟩
          refine gaOne 3 rfl ?_
          refine gc0 [] (fun w hst hst1 => turned_c (p := a) (x := xa) w (oa.now hst) ha) (by exact rfl) ?_
          (repeat (first | refine gk1 ?_ | refine gk2 ?_ | refine gk3 ?_ | refine gk0 ?_ | refine gk4 ?_))
          rintro y2 _
          dsimp only [List.cons_append, List.nil_append]
          refine ⟨by (repeat (first | exact Suf.refl | exact Suf.nil | exact Suf.app _ _ | apply Suf.cons)), ?_⟩
          refine gaOne 4 rfl ?_
          refine gc0 [] (fun w hst hst1 => product_c (p := turnP b) (q := turnP a) (x := y1) (y := y2) w (grdP hst) (grdP hst) _ (productS_ok (may_turn hb) (may_turn ha) (by rw [rows_turn ha]; exact hab.symm))) (by exact rfl) ?_
          (repeat (first | refine gk1 ?_ | refine gk2 ?_ | refine gk3 ?_ | refine gk0 ?_ | refine gk4 ?_))
          rintro y3 _
          dsimp only [List.cons_append, List.nil_append]
          refine ⟨by (repeat (first | exact Suf.refl | exact Suf.nil | exact Suf.app _ _ | apply Suf.cons)), ?_⟩
          (first | refine ga1 5 (by exact rfl) (by exact rfl) ?_ | refine ga2 5 (by exact rfl) (by exact rfl) ?_ | refine ga3 5 (by exact rfl) (by exact rfl) ?_ | refine ga4 5 (by exact rfl) (by exact rfl) ?_)
          (first | refine ga1 6 (by exact rfl) (by exact rfl) ?_ | refine ga2 6 (by exact rfl) (by exact rfl) ?_ | refine ga3 6 (by exact rfl) (by exact rfl) ?_ | refine ga4 6 (by exact rfl) (by exact rfl) ?_)
          (first | refine ga1 7 (by exact rfl) (by exact rfl) ?_ | refine ga2 7 (by exact rfl) (by exact rfl) ?_ | refine ga3 7 (by exact rfl) (by exact rfl) ?_ | refine ga4 7 (by exact rfl) (by exact rfl) ?_)
          refine gaOne 9 rfl ?_
          refine gt0 (by exact rfl) ?_
          refine ⟨by (repeat (first | exact Suf.refl | exact Suf.nil | exact Suf.app _ _ | apply Suf.cons)), ?_⟩
          (first | refine ga1 10 (by exact rfl) (by exact rfl) ?_ | refine ga2 10 (by exact rfl) (by exact rfl) ?_ | refine ga3 10 (by exact rfl) (by exact rfl) ?_ | refine ga4 10 (by exact rfl) (by exact rfl) ?_)
          refine gaDone ?_
          exact ⟨⟨y3, tb⟩, trivial, .cons rfl (.cons rfl (.cons rfl (.cons rfl (.cons rfl (.cons rfl (.cons rfl (.cons rfl .nil))))))), by refine SubK.e ?_; (repeat (first | refine gk1 ?_ | refine gk2 ?_ | refine gk3 ?_ | refine gk0 ?_ | refine gk4 ?_)); trivial⟩
      rintro ⟨y3, q13⟩ _
      dsimp only
      refine gg ?_
      refine gwa [] ?_
      (repeat (first | refine gk1 ?_ | refine gk2 ?_ | refine gk3 ?_ | refine gk0 ?_ | refine gk4 ?_))
      (first | refine ga1 0 (by exact rfl) (by exact rfl) ?_ | refine ga2 0 (by exact rfl) (by exact rfl) ?_ | refine ga3 0 (by exact rfl) (by exact rfl) ?_ | refine ga4 0 (by exact rfl) (by exact rfl) ?_)
      (first | refine ga1 1 (by exact rfl) (by exact rfl) ?_ | refine ga2 1 (by exact rfl) (by exact rfl) ?_ | refine ga3 1 (by exact rfl) (by exact rfl) ?_ | refine ga4 1 (by exact rfl) (by exact rfl) ?_)
      (first | refine ga1 2 (by exact rfl) (by exact rfl) ?_ | refine ga2 2 (by exact rfl) (by exact rfl) ?_ | refine ga3 2 (by exact rfl) (by exact rfl) ?_ | refine ga4 2 (by exact rfl) (by exact rfl) ?_)
      (first | refine ga1 3 (by exact rfl) (by exact rfl) ?_ | refine ga2 3 (by exact rfl) (by exact rfl) ?_ | refine ga3 3 (by exact rfl) (by exact rfl) ?_ | refine ga4 3 (by exact rfl) (by exact rfl) ?_)
      (first | refine ga1 4 (by exact rfl) (by exact rfl) ?_ | refine ga2 4 (by exact rfl) (by exact rfl) ?_ | refine ga3 4 (by exact rfl) (by exact rfl) ?_ | refine ga4 4 (by exact rfl) (by exact rfl) ?_)
      (first | refine ga1 5 (by exact rfl) (by exact rfl) ?_ | refine ga2 5 (by exact rfl) (by exact rfl) ?_ | refine ga3 5 (by exact rfl) (by exact rfl) ?_ | refine ga4 5 (by exact rfl) (by exact rfl) ?_)
      (first | refine ga1 6 (by exact rfl) (by exact rfl) ?_ | refine ga2 6 (by exact rfl) (by exact rfl) ?_ | refine ga3 6 (by exact rfl) (by exact rfl) ?_ | refine ga4 6 (by exact rfl) (by exact rfl) ?_)
      (first | refine ga1 7 (by exact rfl) (by exact rfl) ?_ | refine ga2 7 (by exact rfl) (by exact rfl) ?_ | refine ga3 7 (by exact rfl) (by exact rfl) ?_ | refine ga4 7 (by exact rfl) (by exact rfl) ?_)
      (first | refine ga1 9 (by exact rfl) (by exact rfl) ?_ | refine ga2 9 (by exact rfl) (by exact rfl) ?_ | refine ga3 9 (by exact rfl) (by exact rfl) ?_ | refine ga4 9 (by exact rfl) (by exact rfl) ?_)
      refine gaOne 8 rfl ?_
      refine gc0 [] (fun w hst hst1 => turned_c (p := prodP a b) (x := x11) w (grdP hst) (may_prod ha hb)) (by exact rfl) ?_
      (repeat (first | refine gk1 ?_ | refine gk2 ?_ | refine gk3 ?_ | refine gk0 ?_ | refine gk4 ?_))
      rintro y4 _
      dsimp only [List.cons_append, List.nil_append]
      refine ⟨by (repeat (first | exact Suf.refl | exact Suf.nil | exact Suf.app _ _ | apply Suf.cons)), ?_⟩
      refine gaOne 10 rfl ?_
      refine gc10 (fun w hst => samePattern_c (p := turnP (prodP a b)) (q := prodP (turnP b) (turnP a)) (x := y4) (y := y3) w (grdP hst) (grdP hst) true (by simp [turn_prod ha hb])) (by exact rfl) ?_
      refine ⟨by (repeat (first | exact Suf.refl | exact Suf.nil | exact Suf.app _ _ | apply Suf.cons)), ?_⟩
      (first | refine ga1 11 (by exact rfl) (by exact rfl) ?_ | refine ga2 11 (by exact rfl) (by exact rfl) ?_ | refine ga3 11 (by exact rfl) (by exact rfl) ?_ | refine ga4 11 (by exact rfl) (by exact rfl) ?_)
      (first | refine ga1 12 (by exact rfl) (by exact rfl) ?_ | refine ga2 12 (by exact rfl) (by exact rfl) ?_ | refine ga3 12 (by exact rfl) (by exact rfl) ?_ | refine ga4 12 (by exact rfl) (by exact rfl) ?_)
      refine gaDone ?_
      refine thenQ_normal ?_
      refine gg ?_
      obtain ⟨zc, hzc⟩ : ∃ z : Bool, z = true ↔ b.width = c.rows := ⟨decide (b.width = c.rows), by simp⟩
      refine gb0 zc (by exact rfl) (by exact rfl) (by exact hzc) ?_
      refine wl_nil ?_
      refine thenQ_normal ?_
      refine wc_meetK (fun _ : Unit => True) (fun _ => [(4, .pointer (some ⟨b4, 0, none⟩)), (5, .pointer (some ⟨b5, 0, none⟩)), (6, .pointer (some ⟨b6, 0, none⟩)), (7, .pointer (some ⟨b7, 0, none⟩)), (11, .pointer (some ⟨q11, 0, none⟩))]) (fun _ => [blk q11 (pcs x11 (prodP a b)) TP, osl TI vi x11.A x11.c (prodP a b).start, osl TI vi x11.B x11.d (prodP a b).cols, blk b4 (pcs xa a) TP, blk b5 (pcs xb b) TP, blk b6 (pcs xc c) TP, blk b7 (pcs xd d) TP]) ?_ ?_
      · cases zc with
        | true =>
          have hbc := hzc.1 rfl
          refine gg ?_
          refine gc3 [] (fun w hst hst1 => product_c (p := prodP a b) (q := c) (x := x11) (y := xc) w (grdP hst) (oc.now hst) _ (productS_ok (may_prod ha hb) hc hbc)) (by exact rfl) ?_
          (repeat (first | refine gk1 ?_ | refine gk2 ?_ | refine gk3 ?_ | refine gk0 ?_ | refine gk4 ?_))
          rintro x15 _
          dsimp only [List.cons_append, List.nil_append]
          refine gg ?_
          refine wl_op (ok_alloc rfl rfl rfl rfl (ze_of rfl) ?_); intro qx15
          refine gg ?_
          refine gc3 [] (fun w hst hst1 => product_c (p := b) (q := c) (x := xb) (y := xc) w (ob.now hst) (oc.now hst) _ (productS_ok hb hc hbc)) (by exact rfl) ?_
          (repeat (first | refine gk1 ?_ | refine gk2 ?_ | refine gk3 ?_ | refine gk0 ?_ | refine gk4 ?_))
          rintro x17 _
          dsimp only [List.cons_append, List.nil_append]
          refine gg ?_
          refine wl_op (ok_alloc rfl rfl rfl rfl (ze_of rfl) ?_); intro qx17
          refine gg ?_
          refine gc3 [] (fun w hst hst1 => product_c (p := a) (q := prodP b c) (x := xa) (y := x17) w (oa.now hst) (grdP hst) _ (productS_ok ha (may_prod hb hc) (by rw [rows_prod hb]; exact hab))) (by exact rfl) ?_
          (repeat (first | refine gk1 ?_ | refine gk2 ?_ | refine gk3 ?_ | refine gk0 ?_ | refine gk4 ?_))
          rintro x19 _
          dsimp only [List.cons_append, List.nil_append]
          refine gg ?_
          refine wl_op (ok_alloc rfl rfl rfl rfl (ze_of rfl) ?_); intro qx19
          refine gg ?_
          refine gc1 (fun w hst => samePattern_c (p := prodP (prodP a b) c) (q := prodP a (prodP b c)) (x := x15) (y := x19) w (grdP hst) (grdP hst) true (by simp [prod_assoc ha hb hc])) (by exact rfl) ?_
          refine gg ?_
          exact ⟨(), trivial, .cons rfl (.cons rfl (.cons rfl (.cons rfl (.cons rfl .nil)))), by refine SubK.e ?_; (repeat (first | refine gk1 ?_ | refine gk2 ?_ | refine gk3 ?_ | refine gk0 ?_ | refine gk4 ?_)); trivial⟩
        | false =>
          refine gg ?_
          exact ⟨(), trivial, .cons rfl (.cons rfl (.cons rfl (.cons rfl (.cons rfl .nil)))), by refine SubK.e ?_; (repeat (first | refine gk1 ?_ | refine gk2 ?_ | refine gk3 ?_ | refine gk0 ?_ | refine gk4 ?_)); trivial⟩
      rintro _ _
      by_cases hr : b.rows = d.rows
      · by_cases hw : b.width = d.width
        · have hal := alike2 hb hd hr hw
          have hal2 : Alike [prodP a b, prodP a d] := alike2 (may_prod ha hb) (may_prod ha hd) (by rw [rows_prod ha, rows_prod ha]) hw
          have hru : (unionP [b, d]).rows = b.rows := rows_union hal
          refine gg ?_
          refine gbp [(xb, b), (xd, d)] (ps := [(0, .agg (pcs xb b).toArray), (1, .agg (pcs xd d).toArray)]) rfl rfl rfl rfl rfl rfl (by simp) (by simp) (by kernel_rfl) ?_
          intro lb
          refine gc3 [] (fun w hst hst1 => union_c (l := [(xb, b), (xd, d)]) w (grdPs hst (lpMem (ob.now hst) (od.now hst)) (by simp)) _ (unionS_ok hal)) (by exact rfl) ?_
          (repeat (first | refine gk1 ?_ | refine gk2 ?_ | refine gk3 ?_ | refine gk0 ?_ | refine gk4 ?_))
          rintro x21 _
          dsimp only [List.cons_append, List.nil_append]
          refine gg ?_
          refine wl_op (ok_alloc rfl rfl rfl rfl (ze_of rfl) ?_); intro qx21
          refine gg ?_
          refine gc3 [] (fun w hst hst1 => product_c (p := a) (q := unionP [b, d]) (x := xa) (y := x21) w (oa.now hst) (grdP hst) _ (productS_ok ha (may_union hal) (by rw [hru]; exact hab))) (by exact rfl) ?_
          (repeat (first | refine gk1 ?_ | refine gk2 ?_ | refine gk3 ?_ | refine gk0 ?_ | refine gk4 ?_))
          rintro x23 _
          dsimp only [List.cons_append, List.nil_append]
          refine gg ?_
          refine wl_op (ok_alloc rfl rfl rfl rfl (ze_of rfl) ?_); intro qx23
          refine gg ?_
          refine gc3 [] (fun w hst hst1 => product_c (p := a) (q := d) (x := xa) (y := xd) w (oa.now hst) (od.now hst) _ (productS_ok ha hd (by rw [← hr]; exact hab))) (by exact rfl) ?_
          (repeat (first | refine gk1 ?_ | refine gk2 ?_ | refine gk3 ?_ | refine gk0 ?_ | refine gk4 ?_))
          rintro x25 _
          dsimp only [List.cons_append, List.nil_append]
          refine gg ?_
          refine wl_op (ok_alloc rfl rfl rfl rfl (ze_of rfl) ?_); intro qx25
          refine gg ?_
          refine gbp [(x11, prodP a b), (x25, prodP a d)] (ps := [(0, .agg (pcs x11 (prodP a b)).toArray), (1, .agg (pcs x25 (prodP a d)).toArray)]) rfl rfl rfl rfl rfl rfl (by simp) (by simp) (by kernel_rfl) ?_
          intro lb2
          refine gc3 [] (fun w hst hst1 => union_c (l := [(x11, prodP a b), (x25, prodP a d)]) w (grdPs hst (lpMem (grdP hst) (grdP hst)) (by simp)) _ (unionS_ok hal2)) (by exact rfl) ?_
          (repeat (first | refine gk1 ?_ | refine gk2 ?_ | refine gk3 ?_ | refine gk0 ?_ | refine gk4 ?_))
          rintro x27 _
          dsimp only [List.cons_append, List.nil_append]
          refine gg ?_
          refine wl_op (ok_alloc rfl rfl rfl rfl (ze_of rfl) ?_); intro qx27
          refine gg ?_
          refine gc1 (fun w hst => samePattern_c (p := prodP a (unionP [b, d])) (q := unionP [prodP a b, prodP a d]) (x := x23) (y := x27) w (grdP hst) (grdP hst) true (by simp [prod_union ha hb hd hr hw])) (by exact rfl) ?_
          refine gg ?_
          exact grt () trivial
        · refine gg ?_
          exact grt () trivial
      · refine gg ?_
        exact grt () trivial
    · refine gc3 [] (fun w hst hst1 => product_c (p := a) (q := b) (x := xa) (y := xb) w (oa.now hst) (ob.now hst) (zP, 7) (by unfold productS; rw [if_neg (by simp [ha, hb]), if_pos hab])) (by exact rfl) ?_
      (repeat (first | refine gk1 ?_ | refine gk2 ?_ | refine gk3 ?_ | refine gk0 ?_ | refine gk4 ?_))
      rintro x11 _
      dsimp only [List.cons_append, List.nil_append]
      refine gg ?_
      refine wl_op (ok_alloc rfl rfl rfl rfl (ze_of rfl) ?_); intro q11
      refine gg ?_
      exact grt () trivial
end
end Go.Proofs.Ytofngbaefbbeiaa
