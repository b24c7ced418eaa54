/- Walks: Product. -/
import Derived.Test.YtofngbaefbbeiaaTF
import Derived.Test.YtofngbaefbbeiaaGA
set_option linter.unusedVariables false
set_option linter.unusedSimpArgs false
set_option maxHeartbeats 8000000
namespace Go.Proofs.Ytofngbaefbbeiaa
open Go.RowKit
abbrev ProI (bb tb R : Nat) (ms : List Nat) (y : PA) (q : Pat) (S : Int → Int → Bool) : List Res := [blk bb (pcs y q) TP, blk tb [vi q.width, .slice (some ⟨R, 0, none⟩) ms.length ms.length] TT, Tab R ms S]
theorem product1_c {p q : Pat} {y : PA} (hm : May p) (hm2 : May q) (hpq : p.width = q.rows) (bb tb R : Nat) (ms : List Nat) (hms : (ms.length : Int) = p.rows) (k r : Int) (w w' : World) (D : List Nat) (h0 : 0 ≤ r) (h1 : r < p.rows) (h2 : gt p.start r ≤ k) (h3 : k < gt p.start (r + 1)) (hst : St w D (ProI bb tb R ms y q (prodU p q k)) w') (hD : RdPO w' ((ProI bb tb R ms y q (prodU p q k)).flatMap Res.fp) y q) :
    Calls Try.prog 85 ([vi r, vi (gt p.cols k), vi k] ++ [Value.pointer (some ⟨bb, 0, none⟩), Value.pointer (some ⟨tb, 0, none⟩)]).toArray w' (Ret (ProI bb tb R ms y q (prodU p q k)) (fun _ : Unit => .tuple #[]) (fun _ => ProI bb tb R ms y q (prodU p q (k + 1))) (fun _ => True) w') := by
  obtain ⟨c0, c1, _⟩ := hm.row r h0 h1 k h2 h3
  have hr1 := hm.toHead.r1
  have hpw := hm.toHead.w1
  have hq := hm2.toHead.len
  have hw1 := hm2.toHead.w1
  have HD := hm2.toHead
  have g1 := HD.lo (r := gt p.cols k) c0 (by omega)
  have g2 := HD.hi (r := gt p.cols k + 1) (by omega) (by omega)
  have g3 := HD.step (r := gt p.cols k) c0 (by omega)
  have os := hD.s
  have oc := hD.c
  have hsl := sub_length q.cols g1 g3 g2
  have hsm := hm2.small
  obtain ⟨j, hj⟩ := Int.eq_ofNat_of_zero_le c0
  have hrow := row_has hm2 (r := j) (by omega)
  rw [← hj] at hrow
  have hmem : ∀ c, c ∈ sub q.cols (gt q.start (gt p.cols k)) (gt q.start (gt p.cols k + 1)) ↔ HasP q (gt p.cols k) c := fun c => by
    rw [hrow, mem_rowOf, hasB_iff]
    exact ⟨fun h => h.2, fun h => ⟨by have := (h.in_ hm2).2; omega, h⟩⟩
  have hend := prodM_end hm hm2 h0 h1 h2 h3 hmem
  refine calls_wc ((ProI bb tb R ms y q (prodU p q k)).flatMap Res.fp) (ProI bb tb R ms y q (prodU p q k)) [] (fun _ => []) Try.func85 rfl rfl (fun _ => rfl) Try.ntmps85 rfl hst.own rfl ?_
  refine gg ?_
  refine wc_quiet mixed (by kernel_rfl) ?_
  refine gg ?_
  refine wq_slice oc rfl rfl rfl rfl rfl rfl rfl (el_of rfl) (sz_of rfl) g1 g3 g2 ?_
  intro A' c' hsub
  refine gg ?_
  rw [← prodM_zero p q k r (sub q.cols (gt q.start (gt p.cols k)) (gt q.start (gt p.cols k + 1)))]
  refine glp (fun m : Int => 0 ≤ m ∧ m ≤ (sub q.cols (gt q.start (gt p.cols k)) (gt q.start (gt p.cols k + 1))).length) (fun m => [(0, vi r), (4, .pointer (some ⟨tb, 0, none⟩)), (23, .slice A' (sub q.cols (gt q.start (gt p.cols k)) (gt q.start (gt p.cols k + 1))).length c'), (24, vi (sub q.cols (gt q.start (gt p.cols k)) (gt q.start (gt p.cols k + 1))).length), (25, vi m)])
    (fun m => ProI bb tb R ms y q (prodM p q k r (sub q.cols (gt q.start (gt p.cols k)) (gt q.start (gt p.cols k + 1))) m)) (fun m => ((sub q.cols (gt q.start (gt p.cols k)) (gt q.start (gt p.cols k + 1))).length - m).toNat) 0 ⟨by omega, by omega⟩ ?_
  rintro m ⟨hm0, hm1⟩
  by_cases hlt : m < (sub q.cols (gt q.start (gt p.cols k)) (gt q.start (gt p.cols k + 1))).length
  · have hin := (((hmem _).1 (gt_mem hm0 hlt)).in_ hm2).2
    refine gg ?_
    refine gm1 (by exact rfl) ?_
    rw [← prodM_step hm0]
    refine gg ?_
    exact gnx (m + 1) ⟨by omega, by omega⟩ (by omega)
  · obtain rfl : m = (sub q.cols (gt q.start (gt p.cols k)) (gt q.start (gt p.cols k + 1))).length := by omega
    rw [hend]
    refine gg ?_
    exact grt () trivial
structure Pr2 where
  xb : Nat
  yb : Nat
  A1 : Option Addr
  c1 : Nat
  on1 : List Bool
  A2 : Option Addr
  c2 : Nat
  on2 : List Bool
section
variable {p q : Pat} {x y : PA}
theorem product_c (w : World) (hp : RdP w x p) (hq : RdP w y q) (z : PE) (hz : productS p q = z) :
    Calls Try.prog 32 [pvl x p, pvl y q].toArray w (Ret [] (fun y : PA => .tuple #[pvl y z.1, vi z.2]) (fun y => PatR y z.1) (fun _ => True) w) := by
  have op := hp.old
  have oq := hq.old
  by_cases hm : May p
  · by_cases hm2 : May q
    · by_cases hpq : p.width = q.rows
      · obtain ⟨h1, h2, h3, h4, h5, h6, h7, h8⟩ := hm.toHead
        obtain rfl : (shutP p.rows.toNat q.width (prodB p q), (0 : Int)) = z := by
          rw [← hz]; unfold productS
          rw [if_neg (by simp [hm, hm2]), if_neg (by simp [hpq])]
        unfold pvl patV
        refine calls_wc [] [] [.cell 4 TP, .tmp 5] (fun y : PA => [pvl y (shutP p.rows.toNat q.width (prodB p q)), vi 0]) Try.func32 rfl rfl (fun _ => rfl) Try.ntmps32 rfl (Own.nil w) rfl ?_
        refine gg ?_
        refine wl_op (ok_box rfl rfl rfl rfl rfl ?_); intro ab
        refine wl_op (ok_box rfl rfl rfl rfl rfl ?_); intro bb
        refine wl_op (ok_alloc rfl rfl rfl rfl (ze_of rfl) ?_); intro rb
        refine gg ?_
        refine gc1 (fun w hst => may_t (op.s.now hst) (op.c.now hst) hm) (by exact rfl) ?_
        refine gg ?_
        refine gc1 (fun w hst => may_t (oq.s.now hst) (oq.c.now hst) hm2) (by exact rfl) ?_
        refine gg ?_
        refine gc3 [] (fun w hst hst1 => blank_c (rows := p.rows) (width := q.width) w h1 h2) (by exact rfl) ?_
        (repeat (first | refine gk1 ?_ | refine gk2 ?_ | refine gk3 ?_ | refine gk0 ?_ | refine gk4 ?_))
        rintro ⟨R, ms⟩ hms
        dsimp only [List.cons_append, List.nil_append] at hms ⊢
        refine wl_op (ok_alloc rfl rfl rfl rfl (ze_of rfl) ?_); intro tb
        refine gg ?_
        rw [← prodU_zero (b := q) hm]
        refine gc3 (ProI bb tb R ms y q (prodU p q 0)) (fun w hst hst1 => each_c hm (fun k (_ : Unit) => ProI bb tb R ms y q (prodU p q k)) (fun _ _ => True) 85 [Value.pointer (some ⟨bb, 0, none⟩), Value.pointer (some ⟨tb, 0, none⟩)] (bod_of rfl) () w (op.s.later hst1) (op.c.later hst1) trivial hst1.own
          (fun k r _ w2 h0 h1 h2 h3 _ hw => product1_c hm hm2 hpq bb tb R ms hms k r w w2 _ h0 h1 h2 h3 hw ((oq.later hst1).later hw))) (by exact rfl) ?_
        (repeat (first | refine gk1 ?_ | refine gk2 ?_ | refine gk3 ?_ | refine gk0 ?_ | refine gk4 ?_))
        rintro _ _
        dsimp only [List.cons_append, List.nil_append]
        rw [prodU_all hm]
        refine gg ?_
        refine gc3 [Tab R ms (prodB p q)] (fun w hst hst1 => shut_c (S := prodB p q) (width := q.width) w hst1.own (by omega)) (by exact rfl) ?_
        (repeat (first | refine gk1 ?_ | refine gk2 ?_ | refine gk3 ?_ | refine gk0 ?_ | refine gk4 ?_))
        rintro y _
        dsimp only [List.cons_append, List.nil_append]
        rw [nat_cast_toNat hms]
        refine gg ?_
        exact grt y trivial
      · obtain rfl : (zP, (7 : Int)) = z := by
          rw [← hz]; unfold productS
          rw [if_neg (by simp [hm, hm2]), if_pos hpq]
        unfold pvl patV
        refine calls_wc [] [] [.cell 4 TP, .tmp 5] (fun y : PA => [pvl y zP, vi 7]) Try.func32 rfl rfl (fun _ => rfl) Try.ntmps32 rfl (Own.nil w) rfl ?_
        refine gnil ?_
        refine gnil ?_
        refine gg ?_
        refine wl_op (ok_box rfl rfl rfl rfl rfl ?_); intro ab
        refine wl_op (ok_box rfl rfl rfl rfl rfl ?_); intro bb
        refine wl_op (ok_alloc rfl rfl rfl rfl (ze_of rfl) ?_); intro rb
        refine gg ?_
        refine gc1 (fun w hst => may_t (op.s.now hst) (op.c.now hst) hm) (by exact rfl) ?_
        refine gg ?_
        refine gc1 (fun w hst => may_t (oq.s.now hst) (oq.c.now hst) hm2) (by exact rfl) ?_
        refine gg ?_
        exact grt PA.nil trivial
    · obtain rfl : (zP, (180 : Int)) = z := by
        rw [← hz]; unfold productS
        rw [if_pos (fun h => hm2 h.2)]
      unfold pvl patV
      refine calls_wc [] [] [.cell 4 TP, .tmp 5] (fun y : PA => [pvl y zP, vi 180]) Try.func32 rfl rfl (fun _ => rfl) Try.ntmps32 rfl (Own.nil w) rfl ?_
      refine gnil ?_
      refine gnil ?_
      refine gg ?_
      refine wl_op (ok_box rfl rfl rfl rfl rfl ?_); intro ab
      refine wl_op (ok_box rfl rfl rfl rfl rfl ?_); intro bb
      refine wl_op (ok_alloc rfl rfl rfl rfl (ze_of rfl) ?_); intro rb
      refine gg ?_
      refine gc1 (fun w hst => may_t (op.s.now hst) (op.c.now hst) hm) (by exact rfl) ?_
      refine gg ?_
      refine gc1 (fun w hst => may_f (oq.s.now hst) (oq.c.now hst) hm2) (by exact rfl) ?_
      refine gg ?_
      exact grt PA.nil trivial
  · obtain rfl : (zP, (180 : Int)) = z := by
      rw [← hz]; unfold productS
      rw [if_pos (fun h => hm h.1)]
    unfold pvl patV
    refine calls_wc [] [] [.cell 4 TP, .tmp 5] (fun y : PA => [pvl y zP, vi 180]) Try.func32 rfl rfl (fun _ => rfl) Try.ntmps32 rfl (Own.nil w) rfl ?_
    refine gnil ?_
    refine gnil ?_
    refine gg ?_
    refine wl_op (ok_box rfl rfl rfl rfl rfl ?_); intro ab
    refine wl_op (ok_box rfl rfl rfl rfl rfl ?_); intro bb
    refine wl_op (ok_alloc rfl rfl rfl rfl (ze_of rfl) ?_); intro rb
    refine gg ?_
    refine gc1 (fun w hst => may_f (op.s.now hst) (op.c.now hst) hm) (by exact rfl) ?_
    refine gg ?_
    exact grt PA.nil trivial
theorem refProduct_t (w : World) (hp : RdP w x p) (hq : RdP w y q) (hm : May p) (hm2 : May q) (hpq : p.width = q.rows) :
    Calls Try.prog 69 [pvl x p, pvl y q].toArray w (Ret [] (fun y : PA => .tuple #[pvl y (shutP p.rows.toNat q.width (prodB p q)), vi 0]) (fun y => PatR y (shutP p.rows.toNat q.width (prodB p q))) (fun _ => True) w) := by
  have op := hp.old
  have oq := hq.old
  obtain ⟨h1, h2, h3, h4, h5, h6, h7, h8⟩ := hm.toHead
  have h3' := hm2.toHead.w0
  have h4' := hm2.toHead.w1
  have h1' := hm2.toHead.r0
  have h2' := hm2.toHead.r1
  obtain ⟨m0, m1⟩ := mul_small h1 h2 h3' h4'
  unfold pvl patV
  refine calls_wc [] [] [.cell 4 TP, .tmp 5] (fun y : PA => [pvl y (shutP p.rows.toNat q.width (prodB p q)), vi 0]) Try.func69 rfl rfl (fun _ => rfl) Try.ntmps69 rfl (Own.nil w) rfl ?_
  refine gg ?_
  refine wl_op (ok_box rfl rfl rfl rfl rfl ?_); intro ab
  refine wl_op (ok_box rfl rfl rfl rfl rfl ?_); intro bb
  refine wl_op (ok_alloc rfl rfl rfl rfl (ze_of rfl) ?_); intro rb
  refine gg ?_
  refine gc1 (fun w hst => refMay_c (op.s.now hst) (op.c.now hst) true (by simp [hm])) (by exact rfl) ?_
  refine gg ?_
  refine gc1 (fun w hst => refMay_c (oq.s.now hst) (oq.c.now hst) true (by simp [hm2])) (by exact rfl) ?_
  refine gg ?_
  refine wc_cutK (fun z : Pr2 => IsGrid z.on1 p.rows p.width (hasB p) ∧ IsGrid z.on2 q.rows q.width (hasB q)) (fun z => [(2, .pointer (some ⟨ab, 0, none⟩)), (3, .pointer (some ⟨bb, 0, none⟩)), (4, .pointer (some ⟨rb, 0, none⟩)), (6, .pointer (some ⟨z.xb, 0, none⟩)), (7, .pointer (some ⟨z.yb, 0, none⟩))])
    (fun z => [osl TB vb z.A1 z.c1 z.on1, blk z.xb (gridC p.rows p.width z.A1 z.on1.length z.c1) TGr, osl TB vb z.A2 z.c2 z.on2, blk z.yb (gridC q.rows q.width z.A2 z.on2.length z.c2) TGr, blk ab (pcs x p) TP, blk bb (pcs y q) TP, blk rb pat0 TP]) ?_ ?_
  · refine gwa [] ?_
    (repeat (first | refine gk1 ?_ | refine gk2 ?_ | refine gk3 ?_ | refine gk0 ?_ | refine gk4 ?_))
    (first | refine ga1 0 (by exact rfl) (by exact rfl) ?_ | refine ga2 0 (by exact rfl) (by exact rfl) ?_ | refine ga3 0 (by exact rfl) (by exact rfl) ?_ | refine ga4 0 (by exact rfl) (by exact rfl) ?_)
    (first | refine ga1 2 (by exact rfl) (by exact rfl) ?_ | refine ga2 2 (by exact rfl) (by exact rfl) ?_ | refine ga3 2 (by exact rfl) (by exact rfl) ?_ | refine ga4 2 (by exact rfl) (by exact rfl) ?_)
    refine gaAll [1, 4, 5] ?_
    intro j hj
    simp only [List.mem_cons, List.not_mem_nil, or_false] at hj
    rcases hj with rfl | rfl | rfl
    · refine ⟨_, rfl, ?_⟩
      refine gc0 [] (fun w hst hst1 => open_c w (op.s.now hst) (op.c.now hst) hm) (by exact rfl) ?_
      (repeat (first | refine gk1 ?_ | refine gk2 ?_ | refine gk3 ?_ | refine gk0 ?_ | refine gk4 ?_))
      rintro ⟨A1, c1, on1⟩ hg1
      dsimp only [List.cons_append, List.nil_append] at hg1 ⊢
      refine ⟨by (repeat (first | exact Suf.refl | exact Suf.nil | exact Suf.app _ _ | apply Suf.cons)), ?_⟩
      refine gaAll [3, 4, 5] ?_
      intro j hj
      simp only [List.mem_cons, List.not_mem_nil, or_false] at hj
      rcases hj with rfl | rfl | rfl
      · refine ⟨_, rfl, ?_⟩
        refine gc0 [] (fun w hst hst1 => open_c w (oq.s.now hst) (oq.c.now hst) hm2) (by exact rfl) ?_
        (repeat (first | refine gk1 ?_ | refine gk2 ?_ | refine gk3 ?_ | refine gk0 ?_ | refine gk4 ?_))
        rintro ⟨A2, c2, on2⟩ hg2
        dsimp only [List.cons_append, List.nil_append] at hg2 ⊢
        refine ⟨by (repeat (first | exact Suf.refl | exact Suf.nil | exact Suf.app _ _ | apply Suf.cons)), ?_⟩
        refine gaAll [4, 5] ?_
        intro j hj
        simp only [List.mem_cons, List.not_mem_nil, or_false] at hj
        rcases hj with rfl | rfl
        · refine ⟨_, rfl, ?_⟩
          refine ok_alloc rfl rfl rfl rfl (ze_of rfl) ?_
          intro xb
          refine ⟨by (repeat (first | exact Suf.refl | exact Suf.nil | exact Suf.app _ _ | apply Suf.cons)), ?_⟩
          refine gaOne 5 rfl ?_
          refine ok_alloc rfl rfl rfl rfl (ze_of rfl) ?_
          intro yb
          refine ⟨by (repeat (first | exact Suf.refl | exact Suf.nil | exact Suf.app _ _ | apply Suf.cons)), ?_⟩
          refine gaOne 6 rfl ?_
          refine gt0 (by exact rfl) ?_
          refine ⟨by (repeat (first | exact Suf.refl | exact Suf.nil | exact Suf.app _ _ | apply Suf.cons)), ?_⟩
          refine gaOne 7 rfl ?_
          refine gt0 (by exact rfl) ?_
          refine ⟨by (repeat (first | exact Suf.refl | exact Suf.nil | exact Suf.app _ _ | apply Suf.cons)), ?_⟩
          refine gaDone ?_
          exact ⟨⟨xb, yb, A1, c1, on1, A2, c2, on2⟩, ⟨hg1, hg2⟩, .cons rfl (.cons rfl (.cons rfl (.cons rfl (.cons rfl .nil)))), by refine gperm ?_; (repeat (first | refine gk1 ?_ | refine gk2 ?_ | refine gk3 ?_ | refine gk0 ?_ | refine gk4 ?_)); exact List.Perm.refl _⟩
        · refine ⟨_, rfl, ?_⟩
          refine ok_alloc rfl rfl rfl rfl (ze_of rfl) ?_
          intro yb
          refine ⟨by (repeat (first | exact Suf.refl | exact Suf.nil | exact Suf.app _ _ | apply Suf.cons)), ?_⟩
          refine gaOne 4 rfl ?_
          refine ok_alloc rfl rfl rfl rfl (ze_of rfl) ?_
          intro xb
          refine ⟨by (repeat (first | exact Suf.refl | exact Suf.nil | exact Suf.app _ _ | apply Suf.cons)), ?_⟩
          refine gaOne 6 rfl ?_
          refine gt0 (by exact rfl) ?_
          refine ⟨by (repeat (first | exact Suf.refl | exact Suf.nil | exact Suf.app _ _ | apply Suf.cons)), ?_⟩
          refine gaOne 7 rfl ?_
          refine gt0 (by exact rfl) ?_
          refine ⟨by (repeat (first | exact Suf.refl | exact Suf.nil | exact Suf.app _ _ | apply Suf.cons)), ?_⟩
          refine gaDone ?_
          exact ⟨⟨xb, yb, A1, c1, on1, A2, c2, on2⟩, ⟨hg1, hg2⟩, .cons rfl (.cons rfl (.cons rfl (.cons rfl (.cons rfl .nil)))), by refine gperm ?_; (repeat (first | refine gk1 ?_ | refine gk2 ?_ | refine gk3 ?_ | refine gk0 ?_ | refine gk4 ?_)); exact List.Perm.refl _⟩
      · refine ⟨_, rfl, ?_⟩
        refine ok_alloc rfl rfl rfl rfl (ze_of rfl) ?_
        intro xb
        refine ⟨by (repeat (first | exact Suf.refl | exact Suf.nil | exact Suf.app _ _ | apply Suf.cons)), ?_⟩
        refine gaAll [3, 5] ?_
        intro j hj
        simp only [List.mem_cons, List.not_mem_nil, or_false] at hj
        rcases hj with rfl | rfl
        · refine ⟨_, rfl, ?_⟩
          refine gc0 [] (fun w hst hst1 => open_c w (oq.s.now hst) (oq.c.now hst) hm2) (by exact rfl) ?_
          (repeat (first | refine gk1 ?_ | refine gk2 ?_ | refine gk3 ?_ | refine gk0 ?_ | refine gk4 ?_))
          rintro ⟨A2, c2, on2⟩ hg2
          dsimp only [List.cons_append, List.nil_append] at hg2 ⊢
          refine ⟨by (repeat (first | exact Suf.refl | exact Suf.nil | exact Suf.app _ _ | apply Suf.cons)), ?_⟩
          refine gaOne 5 rfl ?_
          refine ok_alloc rfl rfl rfl rfl (ze_of rfl) ?_
          intro yb
          refine ⟨by (repeat (first | exact Suf.refl | exact Suf.nil | exact Suf.app _ _ | apply Suf.cons)), ?_⟩
          refine gaOne 6 rfl ?_
          refine gt0 (by exact rfl) ?_
          refine ⟨by (repeat (first | exact Suf.refl | exact Suf.nil | exact Suf.app _ _ | apply Suf.cons)), ?_⟩
          refine gaOne 7 rfl ?_
          refine gt0 (by exact rfl) ?_
          refine ⟨by (repeat (first | exact Suf.refl | exact Suf.nil | exact Suf.app _ _ | apply Suf.cons)), ?_⟩
          refine gaDone ?_
          exact ⟨⟨xb, yb, A1, c1, on1, A2, c2, on2⟩, ⟨hg1, hg2⟩, .cons rfl (.cons rfl (.cons rfl (.cons rfl (.cons rfl .nil)))), by refine gperm ?_; (repeat (first | refine gk1 ?_ | refine gk2 ?_ | refine gk3 ?_ | refine gk0 ?_ | refine gk4 ?_)); exact List.Perm.refl _⟩
        · refine ⟨_, rfl, ?_⟩
          refine ok_alloc rfl rfl rfl rfl (ze_of rfl) ?_
          intro yb
          refine ⟨by (repeat (first | exact Suf.refl | exact Suf.nil | exact Suf.app _ _ | apply Suf.cons)), ?_⟩
          refine gaOne 3 rfl ?_
          refine gc0 [] (fun w hst hst1 => open_c w (oq.s.now hst) (oq.c.now hst) hm2) (by exact rfl) ?_
          (repeat (first | refine gk1 ?_ | refine gk2 ?_ | refine gk3 ?_ | refine gk0 ?_ | refine gk4 ?_))
          rintro ⟨A2, c2, on2⟩ hg2
          dsimp only [List.cons_append, List.nil_append] at hg2 ⊢
          refine ⟨by (repeat (first | exact Suf.refl | exact Suf.nil | exact Suf.app _ _ | apply Suf.cons)), ?_⟩
          refine gaOne 6 rfl ?_
          refine gt0 (by exact rfl) ?_
          refine ⟨by (repeat (first | exact Suf.refl | exact Suf.nil | exact Suf.app _ _ | apply Suf.cons)), ?_⟩
          refine gaOne 7 rfl ?_
          refine gt0 (by exact rfl) ?_
          refine ⟨by (repeat (first | exact Suf.refl | exact Suf.nil | exact Suf.app _ _ | apply Suf.cons)), ?_⟩
          refine gaDone ?_
          exact ⟨⟨xb, yb, A1, c1, on1, A2, c2, on2⟩, ⟨hg1, hg2⟩, .cons rfl (.cons rfl (.cons rfl (.cons rfl (.cons rfl .nil)))), by refine gperm ?_; (repeat (first | refine gk1 ?_ | refine gk2 ?_ | refine gk3 ?_ | refine gk0 ?_ | refine gk4 ?_)); exact List.Perm.refl _⟩
      · refine ⟨_, rfl, ?_⟩
        refine ok_alloc rfl rfl rfl rfl (ze_of rfl) ?_
        intro yb
        refine ⟨by (repeat (first | exact Suf.refl | exact Suf.nil | exact Suf.app _ _ | apply Suf.cons)), ?_⟩
        refine gaAll [3, 4] ?_
        intro j hj
        simp only [List.mem_cons, List.not_mem_nil, or_false] at hj
        rcases hj with rfl | rfl
        · refine ⟨_, rfl, ?_⟩
          refine gc0 [] (fun w hst hst1 => open_c w (oq.s.now hst) (oq.c.now hst) hm2) (by exact rfl) ?_
          (repeat (first | refine gk1 ?_ | refine gk2 ?_ | refine gk3 ?_ | refine gk0 ?_ | refine gk4 ?_))
          rintro ⟨A2, c2, on2⟩ hg2
          dsimp only [List.cons_append, List.nil_append] at hg2 ⊢
          refine ⟨by (repeat (first | exact Suf.refl | exact Suf.nil | exact Suf.app _ _ | apply Suf.cons)), ?_⟩
          refine gaOne 4 rfl ?_
          refine ok_alloc rfl rfl rfl rfl (ze_of rfl) ?_
          intro xb
          refine ⟨by (repeat (first | exact Suf.refl | exact Suf.nil | exact Suf.app _ _ | apply Suf.cons)), ?_⟩
          refine gaOne 6 rfl ?_
          refine gt0 (by exact rfl) ?_
          refine ⟨by (repeat (first | exact Suf.refl | exact Suf.nil | exact Suf.app _ _ | apply Suf.cons)), ?_⟩
          refine gaOne 7 rfl ?_
          refine gt0 (by exact rfl) ?_
          refine ⟨by (repeat (first | exact Suf.refl | exact Suf.nil | exact Suf.app _ _ | apply Suf.cons)), ?_⟩
          refine gaDone ?_
          exact ⟨⟨xb, yb, A1, c1, on1, A2, c2, on2⟩, ⟨hg1, hg2⟩, .cons rfl (.cons rfl (.cons rfl (.cons rfl (.cons rfl .nil)))), by refine gperm ?_; (repeat (first | refine gk1 ?_ | refine gk2 ?_ | refine gk3 ?_ | refine gk0 ?_ | refine gk4 ?_)); exact List.Perm.refl _⟩
        · refine ⟨_, rfl, ?_⟩
          refine ok_alloc rfl rfl rfl rfl (ze_of rfl) ?_
          intro xb
          refine ⟨by (repeat (first | exact Suf.refl | exact Suf.nil | exact Suf.app _ _ | apply Suf.cons)), ?_⟩
          refine gaOne 3 rfl ?_
          refine gc0 [] (fun w hst hst1 => open_c w (oq.s.now hst) (oq.c.now hst) hm2) (by exact rfl) ?_
          (repeat (first | refine gk1 ?_ | refine gk2 ?_ | refine gk3 ?_ | refine gk0 ?_ | refine gk4 ?_))
          rintro ⟨A2, c2, on2⟩ hg2
          dsimp only [List.cons_append, List.nil_append] at hg2 ⊢
          refine ⟨by (repeat (first | exact Suf.refl | exact Suf.nil | exact Suf.app _ _ | apply Suf.cons)), ?_⟩
          refine gaOne 6 rfl ?_
          refine gt0 (by exact rfl) ?_
          refine ⟨by (repeat (first | exact Suf.refl | exact Suf.nil | exact Suf.app _ _ | apply Suf.cons)), ?_⟩
          refine gaOne 7 rfl ?_
          refine gt0 (by exact rfl) ?_
          refine ⟨by (repeat (first | exact Suf.refl | exact Suf.nil | exact Suf.app _ _ | apply Suf.cons)), ?_⟩
          refine gaDone ?_
          exact ⟨⟨xb, yb, A1, c1, on1, A2, c2, on2⟩, ⟨hg1, hg2⟩, .cons rfl (.cons rfl (.cons rfl (.cons rfl (.cons rfl .nil)))), by refine gperm ?_; (repeat (first | refine gk1 ?_ | refine gk2 ?_ | refine gk3 ?_ | refine gk0 ?_ | refine gk4 ?_)); exact List.Perm.refl _⟩
    · refine ⟨_, rfl, ?_⟩
      refine ok_alloc rfl rfl rfl rfl (ze_of rfl) ?_
      intro xb
      refine ⟨by (repeat (first | exact Suf.refl | exact Suf.nil | exact Suf.app _ _ | apply Suf.cons)), ?_⟩
      refine gaAll [1, 5] ?_
      intro j hj
      simp only [List.mem_cons, List.not_mem_nil, or_false] at hj
      rcases hj with rfl | rfl
      · refine ⟨_, rfl, ?_⟩
        refine gc0 [] (fun w hst hst1 => open_c w (op.s.now hst) (op.c.now hst) hm) (by exact rfl) ?_
        (repeat (first | refine gk1 ?_ | refine gk2 ?_ | refine gk3 ?_ | refine gk0 ?_ | refine gk4 ?_))
        rintro ⟨A1, c1, on1⟩ hg1
        dsimp only [List.cons_append, List.nil_append] at hg1 ⊢
        refine ⟨by (repeat (first | exact Suf.refl | exact Suf.nil | exact Suf.app _ _ | apply Suf.cons)), ?_⟩
        refine gaAll [3, 5] ?_
        intro j hj
        simp only [List.mem_cons, List.not_mem_nil, or_false] at hj
        rcases hj with rfl | rfl
        · refine ⟨_, rfl, ?_⟩
          refine gc0 [] (fun w hst hst1 => open_c w (oq.s.now hst) (oq.c.now hst) hm2) (by exact rfl) ?_
          (repeat (first | refine gk1 ?_ | refine gk2 ?_ | refine gk3 ?_ | refine gk0 ?_ | refine gk4 ?_))
          rintro ⟨A2, c2, on2⟩ hg2
          dsimp only [List.cons_append, List.nil_append] at hg2 ⊢
          refine ⟨by (repeat (first | exact Suf.refl | exact Suf.nil | exact Suf.app _ _ | apply Suf.cons)), ?_⟩
          refine gaOne 5 rfl ?_
          refine ok_alloc rfl rfl rfl rfl (ze_of rfl) ?_
          intro yb
          refine ⟨by (repeat (first | exact Suf.refl | exact Suf.nil | exact Suf.app _ _ | apply Suf.cons)), ?_⟩
          refine gaOne 6 rfl ?_
          refine gt0 (by exact rfl) ?_
          refine ⟨by (repeat (first | exact Suf.refl | exact Suf.nil | exact Suf.app _ _ | apply Suf.cons)), ?_⟩
          refine gaOne 7 rfl ?_
          refine gt0 (by exact rfl) ?_
          refine ⟨by (repeat (first | exact Suf.refl | exact Suf.nil | exact Suf.app _ _ | apply Suf.cons)), ?_⟩
          refine gaDone ?_
          exact ⟨⟨xb, yb, A1, c1, on1, A2, c2, on2⟩, ⟨hg1, hg2⟩, .cons rfl (.cons rfl (.cons rfl (.cons rfl (.cons rfl .nil)))), by refine gperm ?_; (repeat (first | refine gk1 ?_ | refine gk2 ?_ | refine gk3 ?_ | refine gk0 ?_ | refine gk4 ?_)); exact List.Perm.refl _⟩
        · refine ⟨_, rfl, ?_⟩
          refine ok_alloc rfl rfl rfl rfl (ze_of rfl) ?_
          intro yb
          refine ⟨by (repeat (first | exact Suf.refl | exact Suf.nil | exact Suf.app _ _ | apply Suf.cons)), ?_⟩
          refine gaOne 3 rfl ?_
          refine gc0 [] (fun w hst hst1 => open_c w (oq.s.now hst) (oq.c.now hst) hm2) (by exact rfl) ?_
          (repeat (first | refine gk1 ?_ | refine gk2 ?_ | refine gk3 ?_ | refine gk0 ?_ | refine gk4 ?_))
          rintro ⟨A2, c2, on2⟩ hg2
          dsimp only [List.cons_append, List.nil_append] at hg2 ⊢
          refine ⟨by (repeat (first | exact Suf.refl | exact Suf.nil | exact Suf.app _ _ | apply Suf.cons)), ?_⟩
          refine gaOne 6 rfl ?_
          refine gt0 (by exact rfl) ?_
          refine ⟨by (repeat (first | exact Suf.refl | exact Suf.nil | exact Suf.app _ _ | apply Suf.cons)), ?_⟩
          refine gaOne 7 rfl ?_
          refine gt0 (by exact rfl) ?_
          refine ⟨by (repeat (first | exact Suf.refl | exact Suf.nil | exact Suf.app _ _ | apply Suf.cons)), ?_⟩
          refine gaDone ?_
          exact ⟨⟨xb, yb, A1, c1, on1, A2, c2, on2⟩, ⟨hg1, hg2⟩, .cons rfl (.cons rfl (.cons rfl (.cons rfl (.cons rfl .nil)))), by refine gperm ?_; (repeat (first | refine gk1 ?_ | refine gk2 ?_ | refine gk3 ?_ | refine gk0 ?_ | refine gk4 ?_)); exact List.Perm.refl _⟩
      · refine ⟨_, rfl, ?_⟩
        refine ok_alloc rfl rfl rfl rfl (ze_of rfl) ?_
        intro yb
        refine ⟨by (repeat (first | exact Suf.refl | exact Suf.nil | exact Suf.app _ _ | apply Suf.cons)), ?_⟩
        refine gaOne 1 rfl ?_
        refine gc0 [] (fun w hst hst1 => open_c w (op.s.now hst) (op.c.now hst) hm) (by exact rfl) ?_
        (repeat (first | refine gk1 ?_ | refine gk2 ?_ | refine gk3 ?_ | refine gk0 ?_ | refine gk4 ?_))
        rintro ⟨A1, c1, on1⟩ hg1
        dsimp only [List.cons_append, List.nil_append] at hg1 ⊢
        refine ⟨by (repeat (first | exact Suf.refl | exact Suf.nil | exact Suf.app _ _ | apply Suf.cons)), ?_⟩
        refine gaOne 3 rfl ?_
        refine gc0 [] (fun w hst hst1 => open_c w (oq.s.now hst) (oq.c.now hst) hm2) (by exact rfl) ?_
        (repeat (first | refine gk1 ?_ | refine gk2 ?_ | refine gk3 ?_ | refine gk0 ?_ | refine gk4 ?_))
        rintro ⟨A2, c2, on2⟩ hg2
        dsimp only [List.cons_append, List.nil_append] at hg2 ⊢
        refine ⟨by (repeat (first | exact Suf.refl | exact Suf.nil | exact Suf.app _ _ | apply Suf.cons)), ?_⟩
        refine gaOne 6 rfl ?_
        refine gt0 (by exact rfl) ?_
        refine ⟨by (repeat (first | exact Suf.refl | exact Suf.nil | exact Suf.app _ _ | apply Suf.cons)), ?_⟩
        refine gaOne 7 rfl ?_
        refine gt0 (by exact rfl) ?_
        refine ⟨by (repeat (first | exact Suf.refl | exact Suf.nil | exact Suf.app _ _ | apply Suf.cons)), ?_⟩
        refine gaDone ?_
        exact ⟨⟨xb, yb, A1, c1, on1, A2, c2, on2⟩, ⟨hg1, hg2⟩, .cons rfl (.cons rfl (.cons rfl (.cons rfl (.cons rfl .nil)))), by refine gperm ?_; (repeat (first | refine gk1 ?_ | refine gk2 ?_ | refine gk3 ?_ | refine gk0 ?_ | refine gk4 ?_)); exact List.Perm.refl _⟩
    · refine ⟨_, rfl, ?_⟩
      refine ok_alloc rfl rfl rfl rfl (ze_of rfl) ?_
      intro yb
      refine ⟨by (repeat (first | exact Suf.refl | exact Suf.nil | exact Suf.app _ _ | apply Suf.cons)), ?_⟩
      refine gaAll [1, 4] ?_
      intro j hj
      simp only [List.mem_cons, List.not_mem_nil, or_false] at hj
      rcases hj with rfl | rfl
      · refine ⟨_, rfl, ?_⟩
        refine gc0 [] (fun w hst hst1 => open_c w (op.s.now hst) (op.c.now hst) hm) (by exact rfl) ?_
        (repeat (first | refine gk1 ?_ | refine gk2 ?_ | refine gk3 ?_ | refine gk0 ?_ | refine gk4 ?_))
        rintro ⟨A1, c1, on1⟩ hg1
        dsimp only [List.cons_append, List.nil_append] at hg1 ⊢
        refine ⟨by (repeat (first | exact Suf.refl | exact Suf.nil | exact Suf.app _ _ | apply Suf.cons)), ?_⟩
        refine gaAll [3, 4] ?_
        intro j hj
        simp only [List.mem_cons, List.not_mem_nil, or_false] at hj
        rcases hj with rfl | rfl
        · refine ⟨_, rfl, ?_⟩
          refine gc0 [] (fun w hst hst1 => open_c w (oq.s.now hst) (oq.c.now hst) hm2) (by exact rfl) ?_
          (repeat (first | refine gk1 ?_ | refine gk2 ?_ | refine gk3 ?_ | refine gk0 ?_ | refine gk4 ?_))
          rintro ⟨A2, c2, on2⟩ hg2
          dsimp only [List.cons_append, List.nil_append] at hg2 ⊢
          refine ⟨by (repeat (first | exact Suf.refl | exact Suf.nil | exact Suf.app _ _ | apply Suf.cons)), ?_⟩
          refine gaOne 4 rfl ?_
          refine ok_alloc rfl rfl rfl rfl (ze_of rfl) ?_
          intro xb
          refine ⟨by (repeat (first | exact Suf.refl | exact Suf.nil | exact Suf.app _ _ | apply Suf.cons)), ?_⟩
          refine gaOne 6 rfl ?_
          refine gt0 (by exact rfl) ?_
          refine ⟨by (repeat (first | exact Suf.refl | exact Suf.nil | exact Suf.app _ _ | apply Suf.cons)), ?_⟩
          refine gaOne 7 rfl ?_
          refine gt0 (by exact rfl) ?_
          refine ⟨by (repeat (first | exact Suf.refl | exact Suf.nil | exact Suf.app _ _ | apply Suf.cons)), ?_⟩
          refine gaDone ?_
          exact ⟨⟨xb, yb, A1, c1, on1, A2, c2, on2⟩, ⟨hg1, hg2⟩, .cons rfl (.cons rfl (.cons rfl (.cons rfl (.cons rfl .nil)))), by refine gperm ?_; (repeat (first | refine gk1 ?_ | refine gk2 ?_ | refine gk3 ?_ | refine gk0 ?_ | refine gk4 ?_)); exact List.Perm.refl _⟩
        · refine ⟨_, rfl, ?_⟩
          refine ok_alloc rfl rfl rfl rfl (ze_of rfl) ?_
          intro xb
          refine ⟨by (repeat (first | exact Suf.refl | exact Suf.nil | exact Suf.app _ _ | apply Suf.cons)), ?_⟩
          refine gaOne 3 rfl ?_
          refine gc0 [] (fun w hst hst1 => open_c w (oq.s.now hst) (oq.c.now hst) hm2) (by exact rfl) ?_
          (repeat (first | refine gk1 ?_ | refine gk2 ?_ | refine gk3 ?_ | refine gk0 ?_ | refine gk4 ?_))
          rintro ⟨A2, c2, on2⟩ hg2
          dsimp only [List.cons_append, List.nil_append] at hg2 ⊢
          refine ⟨by (repeat (first | exact Suf.refl | exact Suf.nil | exact Suf.app _ _ | apply Suf.cons)), ?_⟩
          refine gaOne 6 rfl ?_
          refine gt0 (by exact rfl) ?_
          refine ⟨by (repeat (first | exact Suf.refl | exact Suf.nil | exact Suf.app _ _ | apply Suf.cons)), ?_⟩
          refine gaOne 7 rfl ?_
          refine gt0 (by exact rfl) ?_
          refine ⟨by (repeat (first | exact Suf.refl | exact Suf.nil | exact Suf.app _ _ | apply Suf.cons)), ?_⟩
          refine gaDone ?_
          exact ⟨⟨xb, yb, A1, c1, on1, A2, c2, on2⟩, ⟨hg1, hg2⟩, .cons rfl (.cons rfl (.cons rfl (.cons rfl (.cons rfl .nil)))), by refine gperm ?_; (repeat (first | refine gk1 ?_ | refine gk2 ?_ | refine gk3 ?_ | refine gk0 ?_ | refine gk4 ?_)); exact List.Perm.refl _⟩
      · refine ⟨_, rfl, ?_⟩
        refine ok_alloc rfl rfl rfl rfl (ze_of rfl) ?_
        intro xb
        refine ⟨by (repeat (first | exact Suf.refl | exact Suf.nil | exact Suf.app _ _ | apply Suf.cons)), ?_⟩
        refine gaOne 1 rfl ?_
        refine gc0 [] (fun w hst hst1 => open_c w (op.s.now hst) (op.c.now hst) hm) (by exact rfl) ?_
        (repeat (first | refine gk1 ?_ | refine gk2 ?_ | refine gk3 ?_ | refine gk0 ?_ | refine gk4 ?_))
        rintro ⟨A1, c1, on1⟩ hg1
        dsimp only [List.cons_append, List.nil_append] at hg1 ⊢
        refine ⟨by (repeat (first | exact Suf.refl | exact Suf.nil | exact Suf.app _ _ | apply Suf.cons)), ?_⟩
        refine gaOne 3 rfl ?_
        refine gc0 [] (fun w hst hst1 => open_c w (oq.s.now hst) (oq.c.now hst) hm2) (by exact rfl) ?_
        (repeat (first | refine gk1 ?_ | refine gk2 ?_ | refine gk3 ?_ | refine gk0 ?_ | refine gk4 ?_))
        rintro ⟨A2, c2, on2⟩ hg2
        dsimp only [List.cons_append, List.nil_append] at hg2 ⊢
        refine ⟨by (repeat (first | exact Suf.refl | exact Suf.nil | exact Suf.app _ _ | apply Suf.cons)), ?_⟩
        refine gaOne 6 rfl ?_
        refine gt0 (by exact rfl) ?_
        refine ⟨by (repeat (first | exact Suf.refl | exact Suf.nil | exact Suf.app _ _ | apply Suf.cons)), ?_⟩
        refine gaOne 7 rfl ?_
        refine gt0 (by exact rfl) ?_
        refine ⟨by (repeat (first | exact Suf.refl | exact Suf.nil | exact Suf.app _ _ | apply Suf.cons)), ?_⟩
        refine gaDone ?_
        exact ⟨⟨xb, yb, A1, c1, on1, A2, c2, on2⟩, ⟨hg1, hg2⟩, .cons rfl (.cons rfl (.cons rfl (.cons rfl (.cons rfl .nil)))), by refine gperm ?_; (repeat (first | refine gk1 ?_ | refine gk2 ?_ | refine gk3 ?_ | refine gk0 ?_ | refine gk4 ?_)); exact List.Perm.refl _⟩
  rintro ⟨xb, yb, A1, c1, on1, A2, c2, on2⟩ ⟨hg1, hg2⟩
  dsimp only at hg1 hg2 ⊢
  have hgl1 := hg1.len
  have hgl2 := hg2.len
  refine gg ?_
  refine gc3 [] (fun w hst hst1 => empty_c w h1 h2 h3' h4') (by exact rfl) ?_
  (repeat (first | refine gk1 ?_ | refine gk2 ?_ | refine gk3 ?_ | refine gk0 ?_ | refine gk4 ?_))
  rintro b0 _
  dsimp only [List.cons_append, List.nil_append]
  refine wl_op (ok_alloc rfl rfl rfl rfl (ze_of rfl) ?_); intro tb
  refine gg ?_
  refine glp (fun z : BX => 0 ≤ z.k ∧ z.k ≤ p.rows ∧ IsGrid z.on p.rows q.width (rpU p q z.k 0)) (fun z => [(4, .pointer (some ⟨rb, 0, none⟩)), (6, .pointer (some ⟨xb, 0, none⟩)), (7, .pointer (some ⟨yb, 0, none⟩)), (8, .pointer (some ⟨tb, 0, none⟩)), (9, vi z.k)])
    (fun z => [osl TB vb (some ⟨b0, 0, none⟩) (p.rows * q.width).toNat z.on, blk tb (gridC p.rows q.width (some ⟨b0, 0, none⟩) (p.rows * q.width).toNat (p.rows * q.width).toNat) TGr, osl TB vb A1 c1 on1, blk xb (gridC p.rows p.width A1 on1.length c1) TGr, osl TB vb A2 c2 on2, blk yb (gridC q.rows q.width A2 on2.length c2) TGr, blk rb pat0 TP]) (fun z => (p.rows - z.k).toNat) ⟨0, 0, List.replicate (p.rows * q.width).toNat false⟩ ⟨by simp, h1, (IsGrid.none m0).congr fun r c a _ _ _ => rpU_zero hm a⟩ ?_
  rintro ⟨i, _, on⟩ ⟨hi0, hi1, hg⟩
  dsimp only at hi0 hi1 hg ⊢
  by_cases hi : i < p.rows
  · refine gg ?_
    refine glp (fun z : BX => 0 ≤ z.k ∧ z.k ≤ p.width ∧ IsGrid z.on p.rows q.width (rpU p q i z.k)) (fun z => [(4, .pointer (some ⟨rb, 0, none⟩)), (6, .pointer (some ⟨xb, 0, none⟩)), (7, .pointer (some ⟨yb, 0, none⟩)), (8, .pointer (some ⟨tb, 0, none⟩)), (9, vi i), (10, vi z.k)])
      (fun z => [osl TB vb (some ⟨b0, 0, none⟩) (p.rows * q.width).toNat z.on, blk tb (gridC p.rows q.width (some ⟨b0, 0, none⟩) (p.rows * q.width).toNat (p.rows * q.width).toNat) TGr, osl TB vb A1 c1 on1, blk xb (gridC p.rows p.width A1 on1.length c1) TGr, osl TB vb A2 c2 on2, blk yb (gridC q.rows q.width A2 on2.length c2) TGr, blk rb pat0 TP]) (fun z => (p.width - z.k).toNat) ⟨0, 0, on⟩ ⟨by simp, h3, hg⟩ ?_
    rintro ⟨j, _, on⟩ ⟨hj0, hj1, hg⟩
    dsimp only at hj0 hj1 hg ⊢
    by_cases hj : j < p.width
    · have hcell1 := cell_lt hi0 hi hj0 hj
      have hat1 := hg1.at_ i j hi0 hi hj0 hj
      refine gg ?_
      refine glp (fun z : BX => 0 ≤ z.c ∧ z.c ≤ q.width ∧ IsGrid z.on p.rows q.width (rpM p q i j z.c)) (fun z => [(4, .pointer (some ⟨rb, 0, none⟩)), (6, .pointer (some ⟨xb, 0, none⟩)), (7, .pointer (some ⟨yb, 0, none⟩)), (8, .pointer (some ⟨tb, 0, none⟩)), (9, vi i), (10, vi j), (11, vi z.c)])
        (fun z => [osl TB vb (some ⟨b0, 0, none⟩) (p.rows * q.width).toNat z.on, blk tb (gridC p.rows q.width (some ⟨b0, 0, none⟩) (p.rows * q.width).toNat (p.rows * q.width).toNat) TGr, osl TB vb A1 c1 on1, blk xb (gridC p.rows p.width A1 on1.length c1) TGr, osl TB vb A2 c2 on2, blk yb (gridC q.rows q.width A2 on2.length c2) TGr, blk rb pat0 TP]) (fun z => (q.width - z.c).toNat) ⟨0, 0, on⟩ ⟨by simp, h3', hg.congr fun r c _ _ a _ => rpM_zero a⟩ ?_
      rintro ⟨_, k, on⟩ ⟨hk0, hk1, hg⟩
      dsimp only at hk0 hk1 hg ⊢
      have hgl := hg.len
      by_cases hk : k < q.width
      · cases hv : hasB p i j with
        | false =>
          rw [hv] at hat1
          have hno : ¬ HasP p i j := fun h => by rw [← hasB_iff, hv] at h; cases h
          refine gg ?_
          refine gc1 (fun w hst => at_c (rows := p.rows) (width := p.width) (r := i) (x := j) w (grd hst) h3 h4 hi0 (by omega) hj0 (by omega) (by omega) false hat1) (by exact rfl) ?_
          refine gg ?_
          exact gnx (⟨j + 1, 0, on⟩ : BX) ⟨by dsimp only; omega, by dsimp only; omega, hg.congr fun r c _ _ _ _ => rpM_no hno⟩ (by dsimp only; omega)
        | true =>
          rw [hv] at hat1
          have hyes : HasP p i j := hasB_iff.1 hv
          have hcell2 := cell_lt (r := j) (c := k) (rows := q.rows) (width := q.width) hj0 (by omega) hk0 hk
          have hat2 := hg2.at_ j k hj0 (by omega) hk0 hk
          cases hv2 : hasB q j k with
          | false =>
            rw [hv2] at hat2
            have hno : ¬ HasP q j k := fun h => by rw [← hasB_iff, hv2] at h; cases h
            refine gg ?_
            refine gc1 (fun w hst => at_c (rows := p.rows) (width := p.width) (r := i) (x := j) w (grd hst) h3 h4 hi0 (by omega) hj0 (by omega) (by omega) true hat1) (by exact rfl) ?_
            refine gg ?_
            refine gc1 (fun w hst => at_c (rows := q.rows) (width := q.width) (r := j) (x := k) w (grd hst) h3' h4' hj0 (by omega) hk0 (by omega) (by omega) false hat2) (by exact rfl) ?_
            refine gg ?_
            exact gnx (⟨0, k + 1, on⟩ : BX) ⟨by dsimp only; omega, by dsimp only; omega, hg.congr fun r c _ _ _ _ => rpM_f hno⟩ (by dsimp only; omega)
          | true =>
            rw [hv2] at hat2
            have hyes2 : HasP q j k := hasB_iff.1 hv2
            have hcell := cell_lt hi0 hi hk0 hk
            obtain ⟨q0, q1⟩ := mul_small (x := i) (y := q.width) hi0 (by omega) h3' h4'
            refine gg ?_
            refine gc1 (fun w hst => at_c (rows := p.rows) (width := p.width) (r := i) (x := j) w (grd hst) h3 h4 hi0 (by omega) hj0 (by omega) (by omega) true hat1) (by exact rfl) ?_
            refine gg ?_
            refine gc1 (fun w hst => at_c (rows := q.rows) (width := q.width) (r := j) (x := k) w (grd hst) h3' h4' hj0 (by omega) hk0 (by omega) (by omega) true hat2) (by exact rfl) ?_
            refine gg ?_
            exact gnx (⟨0, k + 1, on.set (i * q.width + k).toNat true⟩ : BX) ⟨by dsimp only; omega, by dsimp only; omega, hg.set hi0 hi hk0 hk true _ fun r c => rpM_t hyes hyes2⟩ (by dsimp only; omega)
      · obtain rfl : k = q.width := by omega
        refine gg ?_
        refine gnx (⟨j + 1, 0, on⟩ : BX) ⟨by dsimp only; omega, by dsimp only; omega, ?_⟩ (by dsimp only; omega)
        dsimp only
        by_cases hv : HasP p i j
        · exact hg.congr fun r c _ _ _ hc => rpM_end hv hc
        · exact hg.congr fun r c _ _ _ hc => rpM_no hv
    · obtain rfl : j = p.width := by omega
      refine gg ?_
      exact gnx (⟨i + 1, 0, on⟩ : BX) ⟨by dsimp only; omega, by dsimp only; omega, hg.congr fun r c _ _ _ _ => rpU_row hm⟩ (by dsimp only; omega)
  · obtain rfl : i = p.rows := by omega
    have hg' := hg.congr fun r c _ hr _ _ => rpU_end (b := q) (c := c) hm hr
    have hgl := hg.len
    have hN : (p.rows * q.width).toNat = on.length := by omega
    have hwi := prodB_within hm hm2
    rw [hN]
    obtain ⟨m, hwm⟩ := Int.eq_ofNat_of_zero_le h1
    rw [hwm] at hg' hwi ⊢
    rw [show ((m : Int)).toNat = m by omega] at hwi ⊢
    refine gg ?_
    refine gc3 [] (fun w hst hst1 => refShut_c (m := m) (S := prodB p q) w (grd hst) hg' (by omega) h3' h4' hwi) (by exact rfl) ?_
    (repeat (first | refine gk1 ?_ | refine gk2 ?_ | refine gk3 ?_ | refine gk0 ?_ | refine gk4 ?_))
    rintro y _
    dsimp only [List.cons_append, List.nil_append]
    refine gg ?_
    exact grt y trivial
theorem refProduct_c (w : World) (hp : RdP w x p) (hq : RdP w y q) (z : PE) (hz : productS p q = z) :
    Calls Try.prog 69 [pvl x p, pvl y q].toArray w (Ret [] (fun y : PA => .tuple #[pvl y z.1, vi z.2]) (fun y => PatR y z.1) (fun _ => True) w) := by
  have op := hp.old
  have oq := hq.old
  by_cases hm : May p
  · by_cases hm2 : May q
    · by_cases hpq : p.width = q.rows
      · obtain rfl : (shutP p.rows.toNat q.width (prodB p q), (0 : Int)) = z := by
          rw [← hz]; unfold productS
          rw [if_neg (by simp [hm, hm2]), if_neg (by simp [hpq])]
        exact refProduct_t w hp hq hm hm2 hpq
      · obtain rfl : (zP, (7 : Int)) = z := by
          rw [← hz]; unfold productS
          rw [if_neg (by simp [hm, hm2]), if_pos hpq]
        unfold pvl patV
        refine calls_wc [] [] [.cell 4 TP, .tmp 5] (fun y : PA => [pvl y zP, vi 7]) Try.func69 rfl rfl (fun _ => rfl) Try.ntmps69 rfl (Own.nil w) rfl ?_
        refine gnil ?_
        refine gnil ?_
        refine gg ?_
        refine wl_op (ok_box rfl rfl rfl rfl rfl ?_); intro ab
        refine wl_op (ok_box rfl rfl rfl rfl rfl ?_); intro bb
        refine wl_op (ok_alloc rfl rfl rfl rfl (ze_of rfl) ?_); intro rb
        refine gg ?_
        refine gc1 (fun w hst => refMay_c (op.s.now hst) (op.c.now hst) true (by simp [hm])) (by exact rfl) ?_
        refine gg ?_
        refine gc1 (fun w hst => refMay_c (oq.s.now hst) (oq.c.now hst) true (by simp [hm2])) (by exact rfl) ?_
        refine gg ?_
        exact grt PA.nil trivial
    · obtain rfl : (zP, (180 : Int)) = z := by
        rw [← hz]; unfold productS
        rw [if_pos (fun h => hm2 h.2)]
      unfold pvl patV
      refine calls_wc [] [] [.cell 4 TP, .tmp 5] (fun y : PA => [pvl y zP, vi 180]) Try.func69 rfl rfl (fun _ => rfl) Try.ntmps69 rfl (Own.nil w) rfl ?_
      refine gnil ?_
      refine gnil ?_
      refine gg ?_
      refine wl_op (ok_box rfl rfl rfl rfl rfl ?_); intro ab
      refine wl_op (ok_box rfl rfl rfl rfl rfl ?_); intro bb
      refine wl_op (ok_alloc rfl rfl rfl rfl (ze_of rfl) ?_); intro rb
      refine gg ?_
      refine gc1 (fun w hst => refMay_c (op.s.now hst) (op.c.now hst) true (by simp [hm])) (by exact rfl) ?_
      refine gg ?_
      refine gc1 (fun w hst => refMay_c (oq.s.now hst) (oq.c.now hst) false (by simp [hm2])) (by exact rfl) ?_
      refine gg ?_
      exact grt PA.nil trivial
  · obtain rfl : (zP, (180 : Int)) = z := by
      rw [← hz]; unfold productS
      rw [if_pos (fun h => hm h.1)]
    unfold pvl patV
    refine calls_wc [] [] [.cell 4 TP, .tmp 5] (fun y : PA => [pvl y zP, vi 180]) Try.func69 rfl rfl (fun _ => rfl) Try.ntmps69 rfl (Own.nil w) rfl ?_
    refine gnil ?_
    refine gnil ?_
    refine gg ?_
    refine wl_op (ok_box rfl rfl rfl rfl rfl ?_); intro ab
    refine wl_op (ok_box rfl rfl rfl rfl rfl ?_); intro bb
    refine wl_op (ok_alloc rfl rfl rfl rfl (ze_of rfl) ?_); intro rb
    refine gg ?_
    refine gc1 (fun w hst => refMay_c (op.s.now hst) (op.c.now hst) false (by simp [hm])) (by exact rfl) ?_
    refine gg ?_
    exact grt PA.nil trivial
end
end Go.Proofs.Ytofngbaefbbeiaa
