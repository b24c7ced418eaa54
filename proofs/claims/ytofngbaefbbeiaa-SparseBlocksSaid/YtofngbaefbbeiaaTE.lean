/- Walks: shut, Turn, Build. Walks: Build. -/
import Derived.Test.YtofngbaefbbeiaaGA
import Derived.Test.YtofngbaefbbeiaaPB
import Derived.Test.YtofngbaefbbeiaaTB
set_option linter.unusedVariables false
set_option linter.unusedSimpArgs false
set_option maxHeartbeats 8000000
namespace Go.Proofs.Ytofngbaefbbeiaa
open Go.RowKit
abbrev pat0 : List Value := [vi 0, vi 0, .slice none 0 0, .slice none 0 0]
theorem shut_c {R : Nat} {ms : List Nat} {S : Int → Int → Bool} {width : Int} (w : World) (hw : Own [Tab R ms S] w) (hl : ms.length ≤ 128) :
    Calls Try.prog 66 [tabV width R ms].toArray w (Ret [Tab R ms S] (fun x : PA => pvl x (shutP ms.length width S)) (fun x => PatR x (shutP ms.length width S)) (fun _ => True) w) := by
  refine calls_wc (R :: ms) [Tab R ms S] [.cell 2 TP] (fun x : PA => [pvl x (shutP ms.length width S)]) Try.func66 rfl rfl (fun _ => rfl) Try.ntmps66 rfl hw (by simp [Tab]) ?_
  unfold tabV
  refine gg ?_
  refine wl_op (ok_box rfl rfl rfl rfl rfl ?_); intro bt
  refine wl_op (ok_alloc rfl rfl rfl rfl (ze_of rfl) ?_); intro rb
  refine gg ?_
  refine gc3 [Tab R ms S] (fun w hst hst1 => pattern_c (S := S) (width := width) w hst1.own hl) (by exact rfl) ?_
  (repeat (first | refine gk1 ?_ | refine gk2 ?_ | refine gk3 ?_ | refine gk0 ?_ | refine gk4 ?_))
  rintro ⟨A, c, B, d, v⟩ _
  dsimp only [List.cons_append, List.nil_append]
  refine gg ?_
  refine wl_op (ok_alloc rfl rfl rfl rfl (ze_of rfl) ?_); intro pb
  refine gg ?_
  exact grt (⟨A, c, B, d⟩ : PA) trivial

/-- the table and its variable -/
abbrev TabI (tb R : Nat) (ms : List Nat) (width : Int) (S : Int → Int → Bool) : List Res := [blk tb [vi width, .slice (some ⟨R, 0, none⟩) ms.length ms.length] TT, Tab R ms S]
theorem turn1_c {p : Pat} (hm : May p) (tb R : Nat) (ms : List Nat) (hms : (ms.length : Int) = p.width) (k r : Int) (w : World) (h0 : 0 ≤ r) (h1 : r < p.rows) (h2 : gt p.start r ≤ k) (h3 : k < gt p.start (r + 1)) (hw : Own (TabI tb R ms p.rows (fun a b => hasU p k b a)) w) :
    Calls Try.prog 109 ([vi r, vi (gt p.cols k), vi k] ++ [Value.pointer (some ⟨tb, 0, none⟩)]).toArray w (Ret (TabI tb R ms p.rows (fun a b => hasU p k b a)) (fun _ : Unit => .tuple #[]) (fun _ => TabI tb R ms p.rows (fun a b => hasU p (k + 1) b a)) (fun _ => True) w) := by
  obtain ⟨c0, c1, _⟩ := hm.row r h0 h1 k h2 h3
  have hr1 := hm.toHead.r1
  refine calls_wc ((TabI tb R ms p.rows (fun a b => hasU p k b a)).flatMap Res.fp) (TabI tb R ms p.rows (fun a b => hasU p k b a)) [] (fun _ => []) Try.func109 rfl rfl (fun _ => rfl) Try.ntmps109 rfl hw rfl ?_
  have e : (fun a b => hasU p (k + 1) b a) = fun a b => hasU p k b a || (a == gt p.cols k && b == r) := by
    funext a b
    rw [hasU_or hm h0 h1 h2 h3, Bool.and_comm]
  rw [e]
  refine gg ?_
  refine gm1 (by exact rfl) ?_
  refine gg ?_
  exact grt () trivial
section
variable {p : Pat} {x : PA}
theorem turn_c (w : World) (hp : RdP w x p) :
    Calls Try.prog 72 [pvl x p].toArray w (Ret [] (fun y : PA => .tuple #[pvl y (turnS p).1, vi (turnS p).2]) (fun y => PatR y (turnS p).1) (fun _ => True) w) := by
  have op := hp.old
  by_cases hm : May p
  · obtain ⟨h1, h2, h3, h4, h5, h6, h7, h8⟩ := hm.toHead
    rw [show turnS p = (shutP p.width.toNat p.rows (fun a b => hasB p b a), 0) by unfold turnS; rw [if_pos hm]]
    dsimp only
    unfold pvl patV
    refine calls_wc [] [] [.cell 2 TP, .tmp 3] (fun y : PA => [pvl y (shutP p.width.toNat p.rows (fun a b => hasB p b a)), vi 0]) Try.func72 rfl rfl (fun _ => rfl) Try.ntmps72 rfl (Own.nil w) rfl ?_
    refine gg ?_
    refine wl_op (ok_box rfl rfl rfl rfl rfl ?_); intro bp
    refine wl_op (ok_alloc rfl rfl rfl rfl (ze_of rfl) ?_); intro rb
    refine gg ?_
    refine gc1 (fun w hst => may_t (op.s.now hst) (op.c.now hst) hm) (by exact rfl) ?_
    refine gg ?_
    refine gc3 [] (fun w hst hst1 => blank_c (rows := p.width) (width := p.rows) w h3 h4) (by exact rfl) ?_
    (repeat (first | refine gk1 ?_ | refine gk2 ?_ | refine gk3 ?_ | refine gk0 ?_ | refine gk4 ?_))
    rintro ⟨R, ms⟩ hms
    dsimp only [List.cons_append, List.nil_append] at hms ⊢
    refine wl_op (ok_alloc rfl rfl rfl rfl (ze_of rfl) ?_); intro tb
    refine gg ?_
    rw [show (fun _ _ => false : Int → Int → Bool) = fun a b => hasU p 0 b a by rw [hasU_zero hm]]
    refine gc3 (TabI tb R ms p.rows (fun a b => hasU p 0 b a)) (fun w hst hst1 => each_c hm (fun k (_ : Unit) => TabI tb R ms p.rows (fun a b => hasU p k b a)) (fun _ _ => True) 109 [Value.pointer (some ⟨tb, 0, none⟩)] (bod_of rfl) () w (op.s.later hst1) (op.c.later hst1) trivial hst1.own (fun k r _ w h0 h1 h2 h3 _ hw => turn1_c hm tb R ms hms k r w h0 h1 h2 h3 hw.own)) (by exact rfl) ?_
    (repeat (first | refine gk1 ?_ | refine gk2 ?_ | refine gk3 ?_ | refine gk0 ?_ | refine gk4 ?_))
    rintro _ _
    dsimp only [List.cons_append, List.nil_append]
    rw [hasU_all hm]
    refine gg ?_
    refine gc3 [Tab R ms (fun a b => hasB p b a)] (fun w hst hst1 => shut_c (S := fun a b => hasB p b a) (width := p.rows) w hst1.own (by omega)) (by exact rfl) ?_
    (repeat (first | refine gk1 ?_ | refine gk2 ?_ | refine gk3 ?_ | refine gk0 ?_ | refine gk4 ?_))
    rintro y _
    dsimp only [List.cons_append, List.nil_append]
    rw [nat_cast_toNat hms]
    refine gg ?_
    exact grt y trivial
  · rw [show turnS p = (zP, 180) by unfold turnS; rw [if_neg hm]]
    dsimp only
    unfold pvl patV
    refine calls_wc [] [] [.cell 2 TP, .tmp 3] (fun y : PA => [pvl y zP, vi 180]) Try.func72 rfl rfl (fun _ => rfl) Try.ntmps72 rfl (Own.nil w) rfl ?_
    refine gnil ?_
    refine gnil ?_
    refine gg ?_
    refine wl_op (ok_box rfl rfl rfl rfl rfl ?_); intro bp
    refine wl_op (ok_alloc rfl rfl rfl rfl (ze_of rfl) ?_); intro rb
    refine gg ?_
    refine gc1 (fun w hst => may_f (op.s.now hst) (op.c.now hst) hm) (by exact rfl) ?_
    refine gg ?_
    refine gg ?_
    exact grt PA.nil trivial
end
theorem tabs_id (tb R : Nat) (ms : List Nat) (w : Int) {S S' : Int → Int → Bool} (h : S = S') : TabI tb R ms w S = TabI tb R ms w S' := by rw [h]
open Classical in
theorem lisB_within {rows width : Int} {rs cs : List Int} (h : ¬ Bad rows width rs cs) (a b : Int) (hab : lisB rs cs rs.length a b = true) : (0 ≤ a ∧ a < rows) ∧ 0 ≤ b ∧ b < width := by
  unfold lisB at hab
  obtain ⟨i, h0, h1, h2, h3⟩ := of_decide_eq_true hab
  have hn : ¬ BadAt rows width rs cs i := fun hb => h ⟨i, h0, h1, hb⟩
  unfold BadAt at hn
  omega
section
variable {A B : Option Addr} {c d : Nat} {rs cs : List Int} {rows width : Int}
theorem build_c (w : World) (hA : Rds vi w A c rs) (hB : Rds vi w B d cs) (hl : rs.length ≤ 17592186044416) (q : PE) (hq : buildS rows width rs cs = q) :
    Calls Try.prog 22 [vi rows, vi width, .slice A rs.length c, .slice B cs.length d].toArray w (Ret [] (fun y : PA => .tuple #[pvl y q.1, vi q.2]) (fun y => PatR y q.1) (fun _ => True) w) := by
  have oA := hA.old
  have oB := hB.old
  have lB := hB.len
  by_cases hs : Sized rows width
  · obtain ⟨⟨h1, h2⟩, h3, h4⟩ := hs
    by_cases hlen : rs.length = cs.length
    · refine calls_wc [] [] [.cell 8 TP, .tmp 9] (fun y : PA => [pvl y q.1, vi q.2]) Try.func22 rfl rfl (fun _ => rfl) Try.ntmps22 rfl (Own.nil w) rfl ?_
      refine gnil ?_
      refine gnil ?_
      refine gg ?_
      refine wl_op (ok_alloc rfl rfl rfl rfl (ze_of rfl) ?_); intro rb
      refine gg ?_
      refine gc1 (fun w hst => side_t w h1 h2) (by exact rfl) ?_
      refine gg ?_
      refine gc1 (fun w hst => side_t w h3 h4) (by exact rfl) ?_
      refine gg ?_
      refine gc3 [] (fun w hst hst1 => blank_c (rows := rows) (width := width) w h1 h2) (by exact rfl) ?_
      (repeat (first | refine gk1 ?_ | refine gk2 ?_ | refine gk3 ?_ | refine gk0 ?_ | refine gk4 ?_))
      rintro ⟨R, ms⟩ hms
      dsimp only [List.cons_append, List.nil_append] at hms ⊢
      refine wl_op (ok_alloc rfl rfl rfl rfl (ze_of rfl) ?_); intro tb
      refine gg ?_
      rw [← lisB_zero rs cs]
      refine wc_splitK R ms (lisB rs cs 0) ?_
      (repeat (first | refine gk1 ?_ | refine gk2 ?_ | refine gk3 ?_ | refine gk0 ?_ | refine gk4 ?_))
      refine glp (fun k : Int => 0 ≤ k ∧ k ≤ rs.length ∧ ∀ i, 0 ≤ i → i < k → ¬ BadAt rows width rs cs i) (fun k => [(0, vi rows), (1, vi width), (2, .slice A rs.length c), (3, .slice B cs.length d), (8, .pointer (some ⟨rb, 0, none⟩)), (10, .pointer (some ⟨tb, 0, none⟩)), (31, .slice A rs.length c), (32, vi rs.length), (33, vi k)])
        (fun k => [RowM R ms, SetsM ms (lisB rs cs k), blk tb [vi width, .slice (some ⟨R, 0, none⟩) ms.length ms.length] TT, blk rb pat0 TP, osl TI vi none 0 [], osl TI vi none 0 []]) (fun k => (rs.length - k).toNat) 0 ⟨by omega, by omega, fun i h h' => by omega⟩ ?_
      rintro k ⟨hk0, hk1, hok⟩
      by_cases hk : k < rs.length
      · by_cases hbad : BadAt rows width rs cs k
        · obtain rfl : (zP, (1 : Int)) = q := by
            rw [← hq]; unfold buildS
            rw [if_neg (by simp [Sized, h1, h2, h3, h4]), if_neg (by simp [hlen]), if_pos ⟨k, hk0, hk, hbad⟩]
          unfold BadAt at hbad
          by_cases g1 : gt rs k < 0
          · refine gg ?_
            exact grt PA.nil trivial
          · by_cases g2 : rows ≤ gt rs k
            · refine gg ?_
              exact grt PA.nil trivial
            · by_cases g3 : gt cs k < 0
              · refine gg ?_
                exact grt PA.nil trivial
              · refine gg ?_
                exact grt PA.nil trivial
        · have hbad' := hbad
          unfold BadAt at hbad'
          have g1 : 0 ≤ gt rs k := by omega
          have g2 : gt rs k < rows := by omega
          have g3 : 0 ≤ gt cs k := by omega
          have g4 : gt cs k < width := by omega
          clear hbad'
          refine gg ?_
          refine gwa [SetsM ms (lisB rs cs k)] ?_
          (repeat (first | refine gk1 ?_ | refine gk2 ?_ | refine gk3 ?_ | refine gk0 ?_ | refine gk4 ?_))
          (first | refine ga1 0 (by exact rfl) (by exact rfl) ?_ | refine ga2 0 (by exact rfl) (by exact rfl) ?_ | refine ga3 0 (by exact rfl) (by exact rfl) ?_ | refine ga4 0 (by exact rfl) (by exact rfl) ?_)
          (first | refine ga1 1 (by exact rfl) (by exact rfl) ?_ | refine ga2 1 (by exact rfl) (by exact rfl) ?_ | refine ga3 1 (by exact rfl) (by exact rfl) ?_ | refine ga4 1 (by exact rfl) (by exact rfl) ?_)
          (first | refine ga1 2 (by exact rfl) (by exact rfl) ?_ | refine ga2 2 (by exact rfl) (by exact rfl) ?_ | refine ga3 2 (by exact rfl) (by exact rfl) ?_ | refine ga4 2 (by exact rfl) (by exact rfl) ?_)
          (first | refine ga1 3 (by exact rfl) (by exact rfl) ?_ | refine ga2 3 (by exact rfl) (by exact rfl) ?_ | refine ga3 3 (by exact rfl) (by exact rfl) ?_ | refine ga4 3 (by exact rfl) (by exact rfl) ?_)
          refine ga6 4 (by exact rfl) (by exact rfl) ?_
          (first | refine ga1 5 (by exact rfl) (by exact rfl) ?_ | refine ga2 5 (by exact rfl) (by exact rfl) ?_ | refine ga3 5 (by exact rfl) (by exact rfl) ?_ | refine ga4 5 (by exact rfl) (by exact rfl) ?_)
          (first | refine ga1 6 (by exact rfl) (by exact rfl) ?_ | refine ga2 6 (by exact rfl) (by exact rfl) ?_ | refine ga3 6 (by exact rfl) (by exact rfl) ?_ | refine ga4 6 (by exact rfl) (by exact rfl) ?_)
          (first | refine ga1 7 (by exact rfl) (by exact rfl) ?_ | refine ga2 7 (by exact rfl) (by exact rfl) ?_ | refine ga3 7 (by exact rfl) (by exact rfl) ?_ | refine ga4 7 (by exact rfl) (by exact rfl) ?_)
          (first | refine ga1 8 (by exact rfl) (by exact rfl) ?_ | refine ga2 8 (by exact rfl) (by exact rfl) ?_ | refine ga3 8 (by exact rfl) (by exact rfl) ?_ | refine ga4 8 (by exact rfl) (by exact rfl) ?_)
          (first | refine ga1 9 (by exact rfl) (by exact rfl) ?_ | refine ga2 9 (by exact rfl) (by exact rfl) ?_ | refine ga3 9 (by exact rfl) (by exact rfl) ?_ | refine ga4 9 (by exact rfl) (by exact rfl) ?_)
          refine gaOne 10 rfl ?_
          refine gmS (by exact rfl) ?_ (by omega) (by omega) (by omega) (by omega)
          refine ⟨by repeat (first | exact Suf.refl | apply Suf.cons), ?_⟩
          refine gaDone ?_
          rw [← lisB_step hk0]
          refine gg ?_
          exact gnx (k + 1) ⟨by omega, by omega, fun i h h' => by
            by_cases hik : i < k
            · exact hok i h hik
            · obtain rfl : i = k := by omega
              exact hbad⟩ (by omega)
      · obtain rfl : k = rs.length := by omega
        obtain rfl : (shutP rows.toNat width (lisB rs cs rs.length), (0 : Int)) = q := by
          rw [← hq]; unfold buildS
          rw [if_neg (by simp [Sized, h1, h2, h3, h4]), if_neg (by simp [hlen]), if_neg]
          rintro ⟨i, i0, i1, hb⟩
          exact hok i i0 i1 hb
        refine wc_joinK R ms (lisB rs cs rs.length) ?_
        (repeat (first | refine gk1 ?_ | refine gk2 ?_ | refine gk3 ?_ | refine gk0 ?_ | refine gk4 ?_))
        refine gg ?_
        refine gc3 [Tab R ms (lisB rs cs rs.length)] (fun w hst hst1 => shut_c (S := lisB rs cs rs.length) (width := width) w hst1.own (by omega)) (by exact rfl) ?_
        (repeat (first | refine gk1 ?_ | refine gk2 ?_ | refine gk3 ?_ | refine gk0 ?_ | refine gk4 ?_))
        rintro y _
        dsimp only [List.cons_append, List.nil_append]
        rw [nat_cast_toNat hms]
        refine gg ?_
        exact grt y trivial
    · obtain rfl : (zP, (7 : Int)) = q := by
        rw [← hq]; unfold buildS
        rw [if_neg (by simp [Sized, h1, h2, h3, h4]), if_pos (by simp [hlen])]
      refine calls_wc [] [] [.cell 8 TP, .tmp 9] (fun y : PA => [pvl y zP, vi 7]) Try.func22 rfl rfl (fun _ => rfl) Try.ntmps22 rfl (Own.nil w) rfl ?_
      refine gnil ?_
      refine gnil ?_
      refine gg ?_
      refine wl_op (ok_alloc rfl rfl rfl rfl (ze_of rfl) ?_); intro rb
      refine gg ?_
      refine gc1 (fun w hst => side_t w h1 h2) (by exact rfl) ?_
      refine gg ?_
      refine gc1 (fun w hst => side_t w h3 h4) (by exact rfl) ?_
      refine gg ?_
      exact grt PA.nil trivial
  · obtain rfl : (zP, (180 : Int)) = q := by
      rw [← hq]; unfold buildS
      rw [if_pos hs]
    unfold Sized at hs
    by_cases h1 : 0 ≤ rows ∧ rows ≤ 128
    · refine calls_wc [] [] [.cell 8 TP, .tmp 9] (fun y : PA => [pvl y zP, vi 180]) Try.func22 rfl rfl (fun _ => rfl) Try.ntmps22 rfl (Own.nil w) rfl ?_
      refine gnil ?_
      refine gnil ?_
      refine gg ?_
      refine wl_op (ok_alloc rfl rfl rfl rfl (ze_of rfl) ?_); intro rb
      refine gg ?_
      refine gc1 (fun w hst => side_t w h1.1 h1.2) (by exact rfl) ?_
      refine gg ?_
      refine gc1 (fun w hst => side_f (x := width) w (by omega)) (by exact rfl) ?_
      refine gg ?_
      exact grt PA.nil trivial
    · refine calls_wc [] [] [.cell 8 TP, .tmp 9] (fun y : PA => [pvl y zP, vi 180]) Try.func22 rfl rfl (fun _ => rfl) Try.ntmps22 rfl (Own.nil w) rfl ?_
      refine gnil ?_
      refine gnil ?_
      refine gg ?_
      refine wl_op (ok_alloc rfl rfl rfl rfl (ze_of rfl) ?_); intro rb
      refine gg ?_
      refine gc1 (fun w hst => side_f (x := rows) w (by omega)) (by exact rfl) ?_
      refine gg ?_
      exact grt PA.nil trivial
end
end Go.Proofs.Ytofngbaefbbeiaa
