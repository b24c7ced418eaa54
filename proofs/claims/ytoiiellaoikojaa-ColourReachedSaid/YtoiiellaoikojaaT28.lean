/- Walks: Product. -/
import Derived.Test.YtoiiellaoikojaaTF
import Derived.Test.YtoiiellaoikojaaGA
set_option linter.unusedVariables false
set_option linter.unusedSimpArgs false
set_option maxHeartbeats 8000000
namespace Go.Proofs.Ytoiiellaoikojaa
open Go.RowKit
abbrev ProI (bb tb R : Nat) (ms : List Nat) (y : PA) (q : Pat) (S : Int → Int → Bool) : List Res := [blk bb (pcs y q) TP, blk tb [vi q.width, .slice (some ⟨R, 0, none⟩) ms.length ms.length] TT, Tab R ms S]
theorem product1_c {p q : Pat} {y : PA} (hm : May p) (hm2 : May q) (hpq : p.width = q.rows) (bb tb R : Nat) (ms : List Nat) (hms : (ms.length : Int) = p.rows) (k r : Int) (w w' : World) (D : List Nat) (h0 : 0 ≤ r) (h1 : r < p.rows) (h2 : gt p.start r ≤ k) (h3 : k < gt p.start (r + 1)) (hst : St w D (ProI bb tb R ms y q (prodU p q k)) w') (hD : RdPO w' ((ProI bb tb R ms y q (prodU p q k)).flatMap Res.fp) y q) :
    Calls Try.prog 84 ([vi r, vi (gt p.cols k), vi k] ++ [Value.pointer (some ⟨bb, 0, none⟩), Value.pointer (some ⟨tb, 0, none⟩)]).toArray w' (Ret (ProI bb tb R ms y q (prodU p q k)) (fun _ : Unit => .tuple #[]) (fun _ => ProI bb tb R ms y q (prodU p q (k + 1))) (fun _ => True) w') := by
  obtain ⟨c0, c1, _⟩ := hm.row r h0 h1 k h2 h3
  have hr1 := hm.toHead.r1
  have hpw := hm.toHead.w1
  have hq := hm2.toHead.len
  have hw1 := hm2.toHead.w1
  have HD := hm2.toHead
  have g1 := HD.lo (r := gt p.cols k) c0 (by omega)
  have g2 := HD.hi (r := gt p.cols k + 1) (by omega) (by omega)
  have g3 := HD.step (r := gt p.cols k) c0 (by omega)
  have os := hD.s
  have oc := hD.c
  have hsl := sub_length q.cols g1 g3 g2
  have hsm := hm2.small
  obtain ⟨j, hj⟩ := Int.eq_ofNat_of_zero_le c0
  have hrow := row_has hm2 (r := j) (by omega)
  rw [← hj] at hrow
  have hmem : ∀ c, c ∈ sub q.cols (gt q.start (gt p.cols k)) (gt q.start (gt p.cols k + 1)) ↔ HasP q (gt p.cols k) c := fun c => by
    rw [hrow, mem_rowOf, hasB_iff]
    exact ⟨fun h => h.2, fun h => ⟨by have := (h.in_ hm2).2; omega, h⟩⟩
  have hend := prodM_end hm hm2 h0 h1 h2 h3 hmem
  refine calls_wc ((ProI bb tb R ms y q (prodU p q k)).flatMap Res.fp) (ProI bb tb R ms y q (prodU p q k)) [] (fun _ => []) Try.func84 rfl rfl (fun _ => rfl) Try.ntmps84 rfl hst.own rfl ?_
  refine gg ?_
  refine wc_quiet mixed (by kernel_rfl) ?_
  refine gg ?_
  refine wq_slice oc rfl rfl rfl rfl rfl rfl rfl (el_of rfl) (sz_of rfl) g1 g3 g2 ?_
  intro A' c' hsub
  refine gg ?_
  rw [← prodM_zero p q k r (sub q.cols (gt q.start (gt p.cols k)) (gt q.start (gt p.cols k + 1)))]
  refine glp (fun m : Int => 0 ≤ m ∧ m ≤ (sub q.cols (gt q.start (gt p.cols k)) (gt q.start (gt p.cols k + 1))).length) (fun m => [(0, vi r), (4, .pointer (some ⟨tb, 0, none⟩)), (23, .slice A' (sub q.cols (gt q.start (gt p.cols k)) (gt q.start (gt p.cols k + 1))).length c'), (24, vi (sub q.cols (gt q.start (gt p.cols k)) (gt q.start (gt p.cols k + 1))).length), (25, vi m)])
    (fun m => ProI bb tb R ms y q (prodM p q k r (sub q.cols (gt q.start (gt p.cols k)) (gt q.start (gt p.cols k + 1))) m)) (fun m => ((sub q.cols (gt q.start (gt p.cols k)) (gt q.start (gt p.cols k + 1))).length - m).toNat) 0 ⟨by omega, by omega⟩ ?_
  rintro m ⟨hm0, hm1⟩
  by_cases hlt : m < (sub q.cols (gt q.start (gt p.cols k)) (gt q.start (gt p.cols k + 1))).length
  · have hin := (((hmem _).1 (gt_mem hm0 hlt)).in_ hm2).2
    refine gg ?_
    refine gm1 (by exact rfl) ?_
    rw [← prodM_step hm0]
    refine gg ?_
    exact gnx (m + 1) ⟨by omega, by omega⟩ (by omega)
  · obtain rfl : m = (sub q.cols (gt q.start (gt p.cols k)) (gt q.start (gt p.cols k + 1))).length := by omega
    rw [hend]
    refine gg ?_
    exact grt () trivial
structure Pr2 where
  xb : Nat
  yb : Nat
  A1 : Option Addr
  c1 : Nat
  on1 : List Bool
  A2 : Option Addr
  c2 : Nat
  on2 : List Bool
section
variable {p q : Pat} {x y : PA}
theorem product_c (w : World) (hp : RdP w x p) (hq : RdP w y q) (z : PE) (hz : productS p q = z) :
    Calls Try.prog 48 [pvl x p, pvl y q].toArray w (Ret [] (fun y : PA => .tuple #[pvl y z.1, vi z.2]) (fun y => PatR y z.1) (fun _ => True) w) := by
  have op := hp.old
  have oq := hq.old
  by_cases hm : May p
  · by_cases hm2 : May q
    · by_cases hpq : p.width = q.rows
      · obtain ⟨h1, h2, h3, h4, h5, h6, h7, h8⟩ := hm.toHead
        obtain rfl : (shutP p.rows.toNat q.width (prodB p q), (0 : Int)) = z := by
          rw [← hz]; unfold productS
          rw [if_neg (by simp [hm, hm2]), if_neg (by simp [hpq])]
        unfold pvl patV
        refine calls_wc [] [] [.cell 4 TP, .tmp 5] (fun y : PA => [pvl y (shutP p.rows.toNat q.width (prodB p q)), vi 0]) Try.func48 rfl rfl (fun _ => rfl) Try.ntmps48 rfl (Own.nil w) rfl ?_
        refine gg ?_
        refine wl_op (ok_box rfl rfl rfl rfl rfl ?_); intro ab
        refine wl_op (ok_box rfl rfl rfl rfl rfl ?_); intro bb
        refine wl_op (ok_alloc rfl rfl rfl rfl (ze_of rfl) ?_); intro rb
        refine gg ?_
        refine gc1 (fun w hst => may_t (op.s.now hst) (op.c.now hst) hm) (by exact rfl) ?_
        refine gg ?_
        refine gc1 (fun w hst => may_t (oq.s.now hst) (oq.c.now hst) hm2) (by exact rfl) ?_
        refine gg ?_
        refine gc3 [] (fun w hst hst1 => blank_c (rows := p.rows) (width := q.width) w h1 h2) (by exact rfl) ?_
        (repeat (first | refine gk1 ?_ | refine gk2 ?_ | refine gk3 ?_ | refine gk0 ?_ | refine gk4 ?_))
        rintro ⟨R, ms⟩ hms
        dsimp only [List.cons_append, List.nil_append] at hms ⊢
        refine wl_op (ok_alloc rfl rfl rfl rfl (ze_of rfl) ?_); intro tb
        refine gg ?_
        rw [← prodU_zero (b := q) hm]
        refine gc3 (ProI bb tb R ms y q (prodU p q 0)) (fun w hst hst1 => each_c hm (fun k (_ : Unit) => ProI bb tb R ms y q (prodU p q k)) (fun _ _ => True) 84 [Value.pointer (some ⟨bb, 0, none⟩), Value.pointer (some ⟨tb, 0, none⟩)] (bod_of rfl) () w (op.s.later hst1) (op.c.later hst1) trivial hst1.own
          (fun k r _ w2 h0 h1 h2 h3 _ hw => product1_c hm hm2 hpq bb tb R ms hms k r w w2 _ h0 h1 h2 h3 hw ((oq.later hst1).later hw))) (by exact rfl) ?_
        (repeat (first | refine gk1 ?_ | refine gk2 ?_ | refine gk3 ?_ | refine gk0 ?_ | refine gk4 ?_))
        rintro _ _
        dsimp only [List.cons_append, List.nil_append]
        rw [prodU_all hm]
        refine gg ?_
        refine gc3 [Tab R ms (prodB p q)] (fun w hst hst1 => shut_c (S := prodB p q) (width := q.width) w hst1.own (by omega)) (by exact rfl) ?_
        (repeat (first | refine gk1 ?_ | refine gk2 ?_ | refine gk3 ?_ | refine gk0 ?_ | refine gk4 ?_))
        rintro y _
        dsimp only [List.cons_append, List.nil_append]
        rw [nat_cast_toNat hms]
        refine gg ?_
        exact grt y trivial
      · obtain rfl : (zP, (7 : Int)) = z := by
          rw [← hz]; unfold productS
          rw [if_neg (by simp [hm, hm2]), if_pos hpq]
        unfold pvl patV
        refine calls_wc [] [] [.cell 4 TP, .tmp 5] (fun y : PA => [pvl y zP, vi 7]) Try.func48 rfl rfl (fun _ => rfl) Try.ntmps48 rfl (Own.nil w) rfl ?_
        refine gnil ?_
        refine gnil ?_
        refine gg ?_
        refine wl_op (ok_box rfl rfl rfl rfl rfl ?_); intro ab
        refine wl_op (ok_box rfl rfl rfl rfl rfl ?_); intro bb
        refine wl_op (ok_alloc rfl rfl rfl rfl (ze_of rfl) ?_); intro rb
        refine gg ?_
        refine gc1 (fun w hst => may_t (op.s.now hst) (op.c.now hst) hm) (by exact rfl) ?_
        refine gg ?_
        refine gc1 (fun w hst => may_t (oq.s.now hst) (oq.c.now hst) hm2) (by exact rfl) ?_
        refine gg ?_
        exact grt PA.nil trivial
    · obtain rfl : (zP, (180 : Int)) = z := by
        rw [← hz]; unfold productS
        rw [if_pos (fun h => hm2 h.2)]
      unfold pvl patV
      refine calls_wc [] [] [.cell 4 TP, .tmp 5] (fun y : PA => [pvl y zP, vi 180]) Try.func48 rfl rfl (fun _ => rfl) Try.ntmps48 rfl (Own.nil w) rfl ?_
      refine gnil ?_
      refine gnil ?_
      refine gg ?_
      refine wl_op (ok_box rfl rfl rfl rfl rfl ?_); intro ab
      refine wl_op (ok_box rfl rfl rfl rfl rfl ?_); intro bb
      refine wl_op (ok_alloc rfl rfl rfl rfl (ze_of rfl) ?_); intro rb
      refine gg ?_
      refine gc1 (fun w hst => may_t (op.s.now hst) (op.c.now hst) hm) (by exact rfl) ?_
      refine gg ?_
      refine gc1 (fun w hst => may_f (oq.s.now hst) (oq.c.now hst) hm2) (by exact rfl) ?_
      refine gg ?_
      exact grt PA.nil trivial
  · obtain rfl : (zP, (180 : Int)) = z := by
      rw [← hz]; unfold productS
      rw [if_pos (fun h => hm h.1)]
    unfold pvl patV
    refine calls_wc [] [] [.cell 4 TP, .tmp 5] (fun y : PA => [pvl y zP, vi 180]) Try.func48 rfl rfl (fun _ => rfl) Try.ntmps48 rfl (Own.nil w) rfl ?_
    refine gnil ?_
    refine gnil ?_
    refine gg ?_
    refine wl_op (ok_box rfl rfl rfl rfl rfl ?_); intro ab
    refine wl_op (ok_box rfl rfl rfl rfl rfl ?_); intro bb
    refine wl_op (ok_alloc rfl rfl rfl rfl (ze_of rfl) ?_); intro rb
    refine gg ?_
    refine gc1 (fun w hst => may_f (op.s.now hst) (op.c.now hst) hm) (by exact rfl) ?_
    refine gg ?_
    exact grt PA.nil trivial
end
end Go.Proofs.Ytoiiellaoikojaa
