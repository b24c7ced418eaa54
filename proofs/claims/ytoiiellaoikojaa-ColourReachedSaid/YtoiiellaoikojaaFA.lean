/- Plain: graphs of rows and columns that meet, and of near neighbours. Walks: colour: isGraph, Rows, Columns, Near. Walks: the reference of colours: Meet, lines, shut. Walks: the reference of colours: shut, open, Things, Lines, Near. Walks: the reference of colours: open. Walks: the reference of colours: Things, Near. Walks: a Given object as one piece; the law ColourGraphs. -/
import Derived.Test.YtoiiellaoikojaaAB
import Derived.Test.YtoiiellaoikojaaT31
import Derived.Test.YtoiiellaoikojaaTG
import Derived.Test.YtoiiellaoikojaaCR
import Derived.Test.YtoiiellaoikojaaT24
set_option linter.unusedVariables false
set_option linter.unusedSimpArgs false
set_option maxHeartbeats 8000000
namespace Go.Proofs.Ytoiiellaoikojaa
open Go.RowKit
open Classical
/-- a graph: no vertex is its own neighbour -/
def IsGr (p : Pat) : Prop := Sym p ∧ ∀ v, ¬ HasP p v v
/-- rows that meet in a column -/
noncomputable def meetB (p : Pat) (u v : Int) : Bool := decide (u ≠ v ∧ ∃ k, HasP p u k ∧ HasP p v k)
/-- columns that meet in a row -/
noncomputable def meetC (p : Pat) (u v : Int) : Bool := decide (u ≠ v ∧ ∃ k, HasP p k u ∧ HasP p k v)
noncomputable def nearB (p : Pat) (u v : Int) : Bool := decide (u ≠ v ∧ (HasP p u v ∨ ∃ k, HasP p u k ∧ HasP p k v))
noncomputable def rowsS (p : Pat) : PE := if May p then (shutP p.rows.toNat p.rows (meetB p), 0) else (zP, 180)
noncomputable def colsS (p : Pat) : PE := if May p then (shutP p.width.toNat p.width (meetC p), 0) else (zP, 180)
noncomputable def nearS (p : Pat) : PE := if May p then (if IsGr p then (shutP p.rows.toNat p.rows (nearB p), 0) else (zP, 220)) else (zP, 180)
section
variable {p : Pat}
theorem both_eq (h : May p) : prodP p (turnP p) = shutP p.rows.toNat p.rows (prodB p (turnP p)) := by
  unfold prodP
  rw [show (turnP p).width = p.rows by rfl]
theorem has_both (h : May p) {a b : Int} : HasP (prodP p (turnP p)) a b ↔ ∃ k, HasP p a k ∧ HasP p b k := by
  rw [has_prod h (may_turn h)]
  exact exists_congr fun k => by rw [has_turn h]
theorem graph_both (h : May p) : closedS (prodP p (turnP p)) false = (shutP p.rows.toNat p.rows (meetB p), 0) := by
  have hm := may_prod h (may_turn h)
  unfold closedS
  rw [if_neg (not_not_intro hm), if_neg (by rw [both_eq h]; show ¬ ((p.rows.toNat : Int) ≠ p.rows); have := h.toHead.r0; omega)]
  have e : cloB (prodP p (turnP p)) false = meetB p := by
    funext a b
    rw [Bool.eq_iff_iff]
    unfold cloB meetB
    rw [Bool.and_eq_true, Bool.or_eq_true, hasB_iff, hasB_iff, has_both h, has_both h, Bool.false_or, decide_eq_true_iff]
    simp only [Bool.not_eq_true', beq_eq_false_iff_ne]
    constructor
    · rintro ⟨h1 | ⟨k, h1, h2⟩, hne⟩
      · exact ⟨hne, h1⟩
      · exact ⟨hne, k, h2, h1⟩
    · rintro ⟨hne, h1⟩
      exact ⟨.inl h1, hne⟩
  rw [e, both_eq h]
  show (shutP (p.rows.toNat : Int).toNat p.rows (meetB p), (0 : Int)) = _
  rw [Int.toNat_natCast]
theorem meet_turn (h : May p) : meetB (turnP p) = meetC p := by
  funext a b
  rw [Bool.eq_iff_iff]
  unfold meetB meetC
  rw [decide_eq_true_iff, decide_eq_true_iff]
  refine and_congr_right fun _ => exists_congr fun k => ?_
  rw [has_turn h, has_turn h]
theorem rowsS_turn (h : May p) : rowsS (turnP p) = colsS p := by
  unfold rowsS colsS
  rw [if_pos (may_turn h), if_pos h, meet_turn h, rows_turn h]
theorem meetB_within (h : May p) : Within p.rows.toNat p.rows (meetB p) := fun r hr c hc => by
  unfold meetB at hc
  rw [decide_eq_true_iff] at hc
  obtain ⟨_, k, _, h2⟩ := hc
  exact (h2.in_ h).1
theorem meetC_within (h : May p) : Within p.width.toNat p.width (meetC p) := fun r hr c hc => by
  unfold meetC at hc
  rw [decide_eq_true_iff] at hc
  obtain ⟨_, k, _, h2⟩ := hc
  exact (h2.in_ h).2
theorem nearB_within (h : May p) (hsq : p.rows = p.width) : Within p.rows.toNat p.rows (nearB p) := fun r hr c hc => by
  unfold nearB at hc
  rw [decide_eq_true_iff] at hc
  rcases hc.2 with h2 | ⟨k, _, h2⟩
  · have := (h2.in_ h).2; omega
  · have := (h2.in_ h).2; omega
theorem graph_near (h : May p) (hg : IsGr p) : Alike [p, prodP p p] ∧ closedS (unionP [p, prodP p p]) false = (shutP p.rows.toNat p.rows (nearB p), 0) := by
  have hsq := hg.1.2.1
  have hs := hg.1.2.2
  have h0 := h.toHead.r0
  have hpm := may_prod h h
  have hpr : (prodP p p).rows = p.rows := by show (p.rows.toNat : Int) = p.rows; omega
  have hpw : (prodP p p).width = p.width := rfl
  have ha : Alike [p, prodP p p] := alike2 h hpm hpr.symm hpw.symm
  refine ⟨ha, ?_⟩
  have hm := may_union ha
  have hur : (unionP [p, prodP p p]).rows = p.rows := by show (p.rows.toNat : Int) = p.rows; omega
  have huw : (unionP [p, prodP p p]).width = p.width := rfl
  unfold closedS
  rw [if_neg (not_not_intro hm), if_neg (by rw [hur, huw]; exact not_not_intro hsq)]
  have e : cloB (unionP [p, prodP p p]) false = nearB p := by
    funext a b
    rw [Bool.eq_iff_iff]
    unfold cloB nearB
    rw [Bool.and_eq_true, Bool.or_eq_true, hasB_iff, hasB_iff, has_union ha, has_union ha, Bool.false_or, decide_eq_true_iff]
    simp only [Bool.not_eq_true', beq_eq_false_iff_ne, List.mem_cons, List.not_mem_nil, or_false, exists_eq_or_imp, exists_eq_left, has_prod h h]
    constructor
    · rintro ⟨(h1 | h1) | (h1 | ⟨k, h1, h2⟩), hne⟩
      · exact ⟨hne, .inl h1⟩
      · exact ⟨hne, .inr h1⟩
      · exact ⟨hne, .inl (hs _ _ h1)⟩
      · exact ⟨hne, .inr ⟨k, hs _ _ h2, hs _ _ h1⟩⟩
    · rintro ⟨hne, h1⟩
      exact ⟨.inl h1, hne⟩
  rw [e, hur, huw, ← hsq]
end
theorem lpTwo {w : World} {x y : PA} {p q : Pat} (h1 : RdP w x p) (h2 : RdP w y q) : ∀ z ∈ [(x, p), (y, q)], RdP w z.1 z.2 := fun z hz => by
  simp only [List.mem_cons, List.not_mem_nil, or_false] at hz
  rcases hz with rfl | rfl
  · exact h1
  · exact h2
section
variable {p : Pat} {x : PA}
theorem isGraph_c (w : World) (hp : RdP w x p) (b : Bool) (hb : b = true ↔ IsGr p) : Calls Try.prog 51 [pvl x p].toArray w (one (.bool b) w) := by
  have op := hp.old
  unfold pvl patV
  refine calls_wc [] [] [.tmp 2] (fun _ => [.bool b]) Try.func51 rfl rfl (fun _ => rfl) Try.ntmps51 rfl (Own.nil w) rfl ?_
  refine gg ?_
  refine wl_op (ok_box rfl rfl rfl rfl rfl ?_); intro bp
  refine gg ?_
  by_cases hs : Sym p
  · have hm := hs.1
    obtain ⟨h1, h2, h3, h4, h5, h6, h7, h8⟩ := hm.toHead
    refine gc1 (fun w hst => symmetric_c (p := p) (x := x) w (op.now hst) true (by simp [hs])) (by exact rfl) ?_
    refine gg ?_
    refine glp (fun v : Int => 0 ≤ v ∧ v ≤ p.rows ∧ ∀ u : Int, 0 ≤ u → u < v → ¬ HasP p u u) (fun v => [(1, .pointer (some ⟨bp, 0, none⟩)), (8, vi p.rows), (9, vi v)])
      (fun _ => [blk bp (pcs x p) TP]) (fun v => (p.rows - v).toNat) 0 ⟨by omega, h1, fun u u0 u1 => by omega⟩ ?_
    rintro v ⟨hv0, hv1, hno⟩
    by_cases hv : v < p.rows
    · refine gg ?_
      by_cases hh : HasP p v v
      · obtain rfl : b = false := by
          cases b with
          | false => rfl
          | true => exact ((hb.1 rfl).2 v hh).elim
        refine gc1 (fun w hst => has_c (p := p) (r := v) (x := v) w (op.s.now hst) (op.c.now hst) true (by simp [hm, hh])) (by exact rfl) ?_
        refine gg ?_
        exact grt () trivial
      · refine gc1 (fun w hst => has_c (p := p) (r := v) (x := v) w (op.s.now hst) (op.c.now hst) false (by simp [hh])) (by exact rfl) ?_
        refine gg ?_
        exact gnx (v + 1) ⟨by omega, by omega, fun u u0 u1 => by
          by_cases e : u = v
          · rw [e]; exact hh
          · exact hno u u0 (by omega)⟩ (by omega)
    · obtain rfl : b = true := hb.2 ⟨hs, fun u hu => hno u (hu.in_ hm).1.1 (by have := (hu.in_ hm).1.2; omega) hu⟩
      refine gg ?_
      exact grt () trivial
  · obtain rfl : b = false := by
      cases b with
      | false => rfl
      | true => exact (hs (hb.1 rfl).1).elim
    refine gc1 (fun w hst => symmetric_c (p := p) (x := x) w (op.now hst) false (by simp [hs])) (by exact rfl) ?_
    refine gg ?_
    exact grt () trivial
theorem colRows_c (w : World) (hp : RdP w x p) :
    Calls Try.prog 15 [pvl x p].toArray w (Ret [] (fun y : PA => .tuple #[pvl y (rowsS p).1, vi (rowsS p).2]) (fun y => PatR y (rowsS p).1) (fun _ => True) w) := by
  have op := hp.old
  unfold pvl patV
  by_cases hm : May p
  · have hmt := may_turn hm
    rw [show rowsS p = (shutP p.rows.toNat p.rows (meetB p), 0) from if_pos hm]
    refine calls_wc [] [] [.cell 2 TP, .tmp 3] (fun y : PA => [pvl y (shutP p.rows.toNat p.rows (meetB p)), vi 0]) Try.func15 rfl rfl (fun _ => rfl) Try.ntmps15 rfl (Own.nil w) rfl ?_
    refine gg ?_
    refine wl_op (ok_box rfl rfl rfl rfl rfl ?_); intro bp
    refine wl_op (ok_alloc rfl rfl rfl rfl (ze_of rfl) ?_); intro rb
    refine gg ?_
    refine gc3 [] (fun w hst hst1 => turn_c (p := p) (x := x) w (op.now hst)) (by exact rfl) ?_
    (repeat (first | refine gk1 ?_ | refine gk2 ?_ | refine gk3 ?_ | refine gk0 ?_ | refine gk4 ?_))
    rintro y1 _
    dsimp only [List.cons_append, List.nil_append]
    rw [turnS_ok hm]
    refine gg ?_
    refine wl_op (ok_alloc rfl rfl rfl rfl (ze_of rfl) ?_); intro q4
    refine gg ?_
    refine gc3 [] (fun w hst hst1 => product_c (p := p) (q := turnP p) (x := x) (y := y1) w (op.now hst) (grdP hst) _ (productS_ok hm hmt (by rw [rows_turn hm]))) (by exact rfl) ?_
    (repeat (first | refine gk1 ?_ | refine gk2 ?_ | refine gk3 ?_ | refine gk0 ?_ | refine gk4 ?_))
    rintro y2 _
    dsimp only [List.cons_append, List.nil_append]
    refine gg ?_
    refine wl_op (ok_alloc rfl rfl rfl rfl (ze_of rfl) ?_); intro q6
    refine gg ?_
    refine gc3 [] (fun w hst hst1 => graph_c (p := prodP p (turnP p)) (x := y2) w (grdP hst)) (by exact rfl) ?_
    (repeat (first | refine gk1 ?_ | refine gk2 ?_ | refine gk3 ?_ | refine gk0 ?_ | refine gk4 ?_))
    rintro y3 _
    dsimp only [List.cons_append, List.nil_append]
    rw [graph_both hm]
    refine gg ?_
    exact grt y3 trivial
  · rw [show rowsS p = (zP, 180) from if_neg hm]
    refine calls_wc [] [] [.cell 2 TP, .tmp 3] (fun y : PA => [pvl y zP, vi 180]) Try.func15 rfl rfl (fun _ => rfl) Try.ntmps15 rfl (Own.nil w) rfl ?_
    refine gnil ?_
    refine gnil ?_
    refine gg ?_
    refine wl_op (ok_box rfl rfl rfl rfl rfl ?_); intro bp
    refine wl_op (ok_alloc rfl rfl rfl rfl (ze_of rfl) ?_); intro rb
    refine gg ?_
    refine gc3 [] (fun w hst hst1 => turn_c (p := p) (x := x) w (op.now hst)) (by exact rfl) ?_
    (repeat (first | refine gk1 ?_ | refine gk2 ?_ | refine gk3 ?_ | refine gk0 ?_ | refine gk4 ?_))
    rintro y1 _
    dsimp only [List.cons_append, List.nil_append]
    rw [show turnS p = (zP, 180) from if_neg hm]
    refine gg ?_
    refine wl_op (ok_alloc rfl rfl rfl rfl (ze_of rfl) ?_); intro q4
    refine gg ?_
    exact grt PA.nil trivial
theorem columns_c (w : World) (hp : RdP w x p) :
    Calls Try.prog 12 [pvl x p].toArray w (Ret [] (fun y : PA => .tuple #[pvl y (colsS p).1, vi (colsS p).2]) (fun y => PatR y (colsS p).1) (fun _ => True) w) := by
  have op := hp.old
  unfold pvl patV
  by_cases hm : May p
  · have hmt := may_turn hm
    rw [← rowsS_turn hm]
    refine calls_wc [] [] [.cell 2 TP, .tmp 3] (fun y : PA => [pvl y (rowsS (turnP p)).1, vi (rowsS (turnP p)).2]) Try.func12 rfl rfl (fun _ => rfl) Try.ntmps12 rfl (Own.nil w) rfl ?_
    refine gg ?_
    refine wl_op (ok_box rfl rfl rfl rfl rfl ?_); intro bp
    refine wl_op (ok_alloc rfl rfl rfl rfl (ze_of rfl) ?_); intro rb
    refine gg ?_
    refine gc3 [] (fun w hst hst1 => turn_c (p := p) (x := x) w (op.now hst)) (by exact rfl) ?_
    (repeat (first | refine gk1 ?_ | refine gk2 ?_ | refine gk3 ?_ | refine gk0 ?_ | refine gk4 ?_))
    rintro y1 _
    dsimp only [List.cons_append, List.nil_append]
    rw [turnS_ok hm]
    refine gg ?_
    refine wl_op (ok_alloc rfl rfl rfl rfl (ze_of rfl) ?_); intro q4
    refine gg ?_
    refine gc3 [] (fun w hst hst1 => colRows_c (p := turnP p) (x := y1) w (grdP hst)) (by exact rfl) ?_
    (repeat (first | refine gk1 ?_ | refine gk2 ?_ | refine gk3 ?_ | refine gk0 ?_ | refine gk4 ?_))
    rintro y2 _
    dsimp only [List.cons_append, List.nil_append]
    refine gg ?_
    exact grt y2 trivial
  · rw [show colsS p = (zP, 180) from if_neg hm]
    refine calls_wc [] [] [.cell 2 TP, .tmp 3] (fun y : PA => [pvl y zP, vi 180]) Try.func12 rfl rfl (fun _ => rfl) Try.ntmps12 rfl (Own.nil w) rfl ?_
    refine gnil ?_
    refine gnil ?_
    refine gg ?_
    refine wl_op (ok_box rfl rfl rfl rfl rfl ?_); intro bp
    refine wl_op (ok_alloc rfl rfl rfl rfl (ze_of rfl) ?_); intro rb
    refine gg ?_
    refine gc3 [] (fun w hst hst1 => turn_c (p := p) (x := x) w (op.now hst)) (by exact rfl) ?_
    (repeat (first | refine gk1 ?_ | refine gk2 ?_ | refine gk3 ?_ | refine gk0 ?_ | refine gk4 ?_))
    rintro y1 _
    dsimp only [List.cons_append, List.nil_append]
    rw [show turnS p = (zP, 180) from if_neg hm]
    refine gg ?_
    refine wl_op (ok_alloc rfl rfl rfl rfl (ze_of rfl) ?_); intro q4
    refine gg ?_
    exact grt PA.nil trivial
theorem near_c (w : World) (hp : RdP w x p) :
    Calls Try.prog 16 [pvl x p].toArray w (Ret [] (fun y : PA => .tuple #[pvl y (nearS p).1, vi (nearS p).2]) (fun y => PatR y (nearS p).1) (fun _ => True) w) := by
  have op := hp.old
  unfold pvl patV
  by_cases hm : May p
  · by_cases hg : IsGr p
    · obtain ⟨hal, hnear⟩ := graph_near hm hg
      rw [show nearS p = (shutP p.rows.toNat p.rows (nearB p), 0) by unfold nearS; rw [if_pos hm, if_pos hg]]
      refine calls_wc [] [] [.cell 2 TP, .tmp 3] (fun y : PA => [pvl y (shutP p.rows.toNat p.rows (nearB p)), vi 0]) Try.func16 rfl rfl (fun _ => rfl) Try.ntmps16 rfl (Own.nil w) rfl ?_
      refine gg ?_
      refine wl_op (ok_box rfl rfl rfl rfl rfl ?_); intro bp
      refine wl_op (ok_alloc rfl rfl rfl rfl (ze_of rfl) ?_); intro rb
      refine gg ?_
      refine gc1 (fun w hst => may_t (op.s.now hst) (op.c.now hst) hm) (by exact rfl) ?_
      refine gg ?_
      refine gc1 (fun w hst => isGraph_c (p := p) (x := x) w (op.now hst) true (by simp [hg])) (by exact rfl) ?_
      refine gg ?_
      refine gc3 [] (fun w hst hst1 => product_c (p := p) (q := p) (x := x) (y := x) w (op.now hst) (op.now hst) _ (productS_ok hm hm hg.1.2.1.symm)) (by exact rfl) ?_
      (repeat (first | refine gk1 ?_ | refine gk2 ?_ | refine gk3 ?_ | refine gk0 ?_ | refine gk4 ?_))
      rintro y1 _
      dsimp only [List.cons_append, List.nil_append]
      refine gg ?_
      refine wl_op (ok_alloc rfl rfl rfl rfl (ze_of rfl) ?_); intro q4
      refine gg ?_
      refine gbp [(x, p), (y1, prodP p p)] (ps := [(0, .agg (pcs x p).toArray), (1, .agg (pcs y1 (prodP p p)).toArray)]) rfl rfl rfl rfl rfl rfl (by simp) (by simp) (by kernel_rfl) ?_
      intro lb
      refine gc3 [] (fun w hst hst1 => union_c (l := [(x, p), (y1, prodP p p)]) w (grdPs hst (lpTwo (op.now hst) (grdP hst)) (by simp)) _ (unionS_ok hal)) (by exact rfl) ?_
      (repeat (first | refine gk1 ?_ | refine gk2 ?_ | refine gk3 ?_ | refine gk0 ?_ | refine gk4 ?_))
      rintro y2 _
      dsimp only [List.cons_append, List.nil_append]
      refine gg ?_
      refine wl_op (ok_alloc rfl rfl rfl rfl (ze_of rfl) ?_); intro q6
      refine gg ?_
      refine gc3 [] (fun w hst hst1 => graph_c (p := unionP [p, prodP p p]) (x := y2) w (grdP hst)) (by exact rfl) ?_
      (repeat (first | refine gk1 ?_ | refine gk2 ?_ | refine gk3 ?_ | refine gk0 ?_ | refine gk4 ?_))
      rintro y3 _
      dsimp only [List.cons_append, List.nil_append]
      rw [hnear]
      refine gg ?_
      exact grt y3 trivial
    · rw [show nearS p = (zP, 220) by unfold nearS; rw [if_pos hm, if_neg hg]]
      refine calls_wc [] [] [.cell 2 TP, .tmp 3] (fun y : PA => [pvl y zP, vi 220]) Try.func16 rfl rfl (fun _ => rfl) Try.ntmps16 rfl (Own.nil w) rfl ?_
      refine gnil ?_
      refine gnil ?_
      refine gg ?_
      refine wl_op (ok_box rfl rfl rfl rfl rfl ?_); intro bp
      refine wl_op (ok_alloc rfl rfl rfl rfl (ze_of rfl) ?_); intro rb
      refine gg ?_
      refine gc1 (fun w hst => may_t (op.s.now hst) (op.c.now hst) hm) (by exact rfl) ?_
      refine gg ?_
      refine gc1 (fun w hst => isGraph_c (p := p) (x := x) w (op.now hst) false (by simp [hg])) (by exact rfl) ?_
      refine gg ?_
      exact grt PA.nil trivial
  · rw [show nearS p = (zP, 180) by unfold nearS; rw [if_neg hm]]
    refine calls_wc [] [] [.cell 2 TP, .tmp 3] (fun y : PA => [pvl y zP, vi 180]) Try.func16 rfl rfl (fun _ => rfl) Try.ntmps16 rfl (Own.nil w) rfl ?_
    refine gnil ?_
    refine gnil ?_
    refine gg ?_
    refine wl_op (ok_box rfl rfl rfl rfl rfl ?_); intro bp
    refine wl_op (ok_alloc rfl rfl rfl rfl (ze_of rfl) ?_); intro rb
    refine gg ?_
    refine gc1 (fun w hst => may_f (op.s.now hst) (op.c.now hst) hm) (by exact rfl) ?_
    refine gg ?_
    exact grt PA.nil trivial
end
abbrev TGh : TypeId := 79
abbrev graC (n : Int) (A : Option Addr) (l c : Nat) : List Value := [vi n, .slice A l c]
theorem meet_c {n r x : Int} {A : Option Addr} {c : Nat} {on : List Bool} (w : World) (hA : Rds vb w A c on) (h2 : 0 ≤ n) (h3 : n ≤ 128) (hr0 : 0 ≤ r) (hr1 : r ≤ 128) (hx0 : 0 ≤ x) (hx1 : x ≤ 128) (hin : r * n + x < on.length) (b : Bool) (hb : gt on (r * n + x) = b) :
    Calls Try.prog 53 [.agg (graC n A on.length c).toArray, vi r, vi x].toArray w (one (.bool b) w) := by
  obtain ⟨m0, m1⟩ := mul_small hr0 hr1 h2 h3
  have oA := hA.old
  have lA := hA.len
  refine calls_wc [] [] [.tmp 6] (fun _ => [.bool b]) Try.func53 rfl rfl (fun _ => rfl) Try.ntmps53 rfl (Own.nil w) rfl ?_
  refine gg ?_
  refine wl_op (ok_box rfl rfl rfl rfl rfl ?_); intro bp
  refine gg ?_
  exact ⟨(), _, .cons (rv_tmp (look_to rfl (by rw [← hb]; rfl))) .nil, trivial, List.Perm.refl _⟩
theorem meetN_c {n r x : Int} {A : Option Addr} {c N : Nat} {on : List Bool} (w : World) (hN : on.length = N) (hA : Rds vb w A c on) (h2 : 0 ≤ n) (h3 : n ≤ 128) (hr0 : 0 ≤ r) (hr1 : r ≤ 128) (hx0 : 0 ≤ x) (hx1 : x ≤ 128) (hin : r * n + x < on.length) (b : Bool) (hb : gt on (r * n + x) = b) :
    Calls Try.prog 53 [.agg (graC n A N c).toArray, vi r, vi x].toArray w (one (.bool b) w) := by
  subst hN
  exact meet_c w hA h2 h3 hr0 hr1 hx0 hx1 hin b hb
/-- one place of a grid laid anew -/
def atS (S : Int → Int → Bool) (u v : Int) (b : Bool) (a c : Int) : Bool := if a = u ∧ c = v then b else S a c
section
variable {on : List Bool} {n u v : Int} {F G : Int → Int → Bool} {b b' : Bool}
theorem at_begin (h : IsGrid on n n (mixS F G u v)) (hb : G u v = b) : IsGrid on n n (atS (mixS F G u v) u v b) := h.congr fun a c a0 a1 c0 c1 => by
  unfold atS
  by_cases e : a = u ∧ c = v
  · rw [if_pos e, e.1, e.2]
    unfold mixS
    rw [if_neg (by omega), hb]
  · rw [if_neg e]
theorem at_end (h : IsGrid on n n (atS (mixS F G u v) u v b)) (hb : F u v = b) : IsGrid on n n (mixS F G u (v + 1)) := h.congr fun a c a0 a1 c0 c1 => by
  unfold atS mixS
  by_cases e : a = u ∧ c = v
  · rw [if_pos e, if_pos (by omega), e.1, e.2, hb]
  · rw [if_neg e]
    by_cases e2 : a < u ∨ a = u ∧ c < v
    · rw [if_pos e2, if_pos (by omega)]
    · rw [if_neg e2, if_neg (by omega)]
theorem at_set {S : Int → Int → Bool} (h : IsGrid on n n (atS S u v b)) (h0 : 0 ≤ u) (h1 : u < n) (h2 : 0 ≤ v) (h3 : v < n) : IsGrid (on.set (u * n + v).toNat b') n n (atS S u v b') := by
  refine h.set h0 h1 h2 h3 b' _ fun a c => ?_
  unfold atS
  by_cases e : a = u ∧ c = v
  · rw [if_pos e, if_pos e]
  · rw [if_neg e, if_neg e, if_neg e]
end
structure LnX where
  u : Int
  v : Int
  k : Int
  on : List Bool
open Classical
noncomputable def bitR (p : Pat) (u v k : Int) : Bool := decide (u ≠ v ∧ ∃ j : Int, 0 ≤ j ∧ j < k ∧ hasB p u j = true ∧ hasB p v j = true)
noncomputable def bitC (p : Pat) (u v k : Int) : Bool := decide (u ≠ v ∧ ∃ j : Int, 0 ≤ j ∧ j < k ∧ hasB p j u = true ∧ hasB p j v = true)
section
variable {p : Pat} {x : PA}
theorem bitR_zero (u v : Int) : bitR p u v 0 = false := by
  unfold bitR
  refine decide_eq_false ?_
  rintro ⟨_, j, h0, h1, _⟩
  omega
theorem bitR_all (hm : May p) (u v : Int) : bitR p u v p.width = meetB p u v := by
  unfold bitR meetB
  refine decide_eq_decide.2 (and_congr_right fun _ => exists_congr fun j => ?_)
  rw [hasB_iff, hasB_iff]
  exact ⟨fun h => h.2.2, fun h => ⟨(h.1.in_ hm).2.1, (h.1.in_ hm).2.2, h⟩⟩
theorem bitR_next {u v k : Int} (hne : u ≠ v) (hk : 0 ≤ k) : bitR p u v (k + 1) = (bitR p u v k || (hasB p u k && hasB p v k)) := by
  rw [Bool.eq_iff_iff, Bool.or_eq_true, Bool.and_eq_true]
  unfold bitR
  rw [decide_eq_true_iff, decide_eq_true_iff]
  constructor
  · rintro ⟨h1, j, h2, h3, h4⟩
    by_cases e : j = k
    · rw [e] at h4; exact .inr h4
    · exact .inl ⟨h1, j, h2, by omega, h4⟩
  · rintro (⟨h1, j, h2, h3, h4⟩ | h)
    · exact ⟨h1, j, h2, by omega, h4⟩
    · exact ⟨hne, k, hk, by omega, h⟩
theorem linesR_c (w : World) (hp : RdP w x p) (hm : May p) :
    Calls Try.prog 47 [pvl x p, .bool true].toArray w (Ret [] (fun y : OX => .agg (graC p.rows y.A y.on.length y.c).toArray) (fun y => [osl TB vb y.A y.c y.on]) (fun y => IsGrid y.on p.rows p.rows (meetB p)) w) := by
  have op := hp.old
  obtain ⟨h1, h2, h3, h4, h5, h6, h7, h8⟩ := hm.toHead
  have hopen : ∀ w (y : PA), RdP w y p → Calls Try.prog 68 [pvl y p].toArray w (Ret [] (fun x : OX => .agg (gridC p.rows p.width x.A x.on.length x.c).toArray) (fun x => [osl TB vb x.A x.c x.on]) (fun x => IsGrid x.on p.rows p.width (hasB p)) w) := fun w y hy => open_c w hy.s hy.c hm
  obtain ⟨m0, m1⟩ := mul_small h1 h2 h1 h2
  obtain ⟨m2, m3⟩ := mul_small h1 h2 h3 h4
  unfold pvl patV
  refine calls_wc [] [] [.cell 4 TGh] (fun y : OX => [.agg (graC p.rows y.A y.on.length y.c).toArray]) Try.func47 rfl rfl (fun _ => rfl) Try.ntmps47 rfl (Own.nil w) rfl ?_
  refine gg ?_
  refine wl_op (ok_box rfl rfl rfl rfl rfl ?_); intro bp
  refine wl_op (ok_alloc rfl rfl rfl rfl (ze_of rfl) ?_); intro rb
  refine gg ?_
  refine gc3 [] (fun w hst hst1 => hopen w x (op.now hst)) (by exact rfl) ?_
  (repeat (first | refine gk1 ?_ | refine gk2 ?_ | refine gk3 ?_ | refine gk0 ?_ | refine gk4 ?_))
  rintro ⟨G1, d1, on1⟩ hg1
  dsimp only [List.cons_append, List.nil_append] at hg1 ⊢
  have hgl1 := hg1.len
  refine wl_op (ok_alloc rfl rfl rfl rfl (ze_of rfl) ?_); intro q5
  refine gg ?_
  refine gmk vb false rfl rfl rfl rfl rfl rfl rfl rfl rfl rfl rfl m0 (Int.le_refl _) (by omega) (by omega) ?_
  intro sb
  refine wl_v rfl rfl rfl (val_build (ps := [(0, vi p.rows), (1, .slice (some ⟨sb, 0, none⟩) (p.rows * p.rows).toNat (p.rows * p.rows).toNat)]) (cells := graC p.rows (some ⟨sb, 0, none⟩) (p.rows * p.rows).toNat (p.rows * p.rows).toNat) rfl rfl (by kernel_rfl)) ?_
  refine wl_op (ok_alloc rfl rfl rfl rfl (ze_of rfl) ?_); intro q8
  refine gg ?_
  refine glp (fun y : LnX => 0 ≤ y.u ∧ y.u ≤ p.rows ∧ IsGrid y.on p.rows p.rows (mixS (meetB p) (fun _ _ => false) y.u 0)) (fun y => [(1, .bool true), (4, .pointer (some ⟨rb, 0, none⟩)), (5, .pointer (some ⟨q5, 0, none⟩)), (6, vi p.rows), (7, vi p.width), (8, .pointer (some ⟨q8, 0, none⟩)), (9, vi y.u)])
    (fun y => [blk rb [vi 0, nilS] TGh, osl TB vb G1 d1 on1, blk q5 (gridC p.rows p.width G1 on1.length d1) TGr, osl TB vb (some ⟨sb, 0, none⟩) (p.rows * p.rows).toNat y.on, blk q8 (graC p.rows (some ⟨sb, 0, none⟩) (p.rows * p.rows).toNat (p.rows * p.rows).toNat) TGh]) (fun y => (p.rows - y.u).toNat) ⟨0, 0, 0, List.replicate (p.rows * p.rows).toNat false⟩ ⟨by simp, by dsimp only; omega, mix_zero (IsGrid.none m0)⟩ ?_
  rintro ⟨u, _, _, on⟩ ⟨hu0, hu1, hg⟩
  dsimp only at hu0 hu1 hg ⊢
  by_cases hu : u < p.rows
  · refine gg ?_
    refine glp (fun y : LnX => 0 ≤ y.v ∧ y.v ≤ p.rows ∧ IsGrid y.on p.rows p.rows (mixS (meetB p) (fun _ _ => false) u y.v)) (fun y => [(1, .bool true), (4, .pointer (some ⟨rb, 0, none⟩)), (5, .pointer (some ⟨q5, 0, none⟩)), (6, vi p.rows), (7, vi p.width), (8, .pointer (some ⟨q8, 0, none⟩)), (9, vi u), (10, vi y.v)])
      (fun y => [blk rb [vi 0, nilS] TGh, osl TB vb G1 d1 on1, blk q5 (gridC p.rows p.width G1 on1.length d1) TGr, osl TB vb (some ⟨sb, 0, none⟩) (p.rows * p.rows).toNat y.on, blk q8 (graC p.rows (some ⟨sb, 0, none⟩) (p.rows * p.rows).toNat (p.rows * p.rows).toNat) TGh]) (fun y => (p.rows - y.v).toNat) ⟨0, 0, 0, on⟩ ⟨by simp, by dsimp only; omega, hg⟩ ?_
    rintro ⟨_, v, _, on⟩ ⟨hv0, hv1, hg⟩
    dsimp only at hv0 hv1 hg ⊢
    by_cases hv : v < p.rows
    · refine gg ?_
      refine glp (fun y : LnX => 0 ≤ y.k ∧ y.k ≤ p.width ∧ IsGrid y.on p.rows p.rows (atS (mixS (meetB p) (fun _ _ => false) u v) u v (bitR p u v y.k))) (fun y => [(1, .bool true), (4, .pointer (some ⟨rb, 0, none⟩)), (5, .pointer (some ⟨q5, 0, none⟩)), (6, vi p.rows), (7, vi p.width), (8, .pointer (some ⟨q8, 0, none⟩)), (9, vi u), (10, vi v), (11, vi y.k)])
        (fun y => [blk rb [vi 0, nilS] TGh, osl TB vb G1 d1 on1, blk q5 (gridC p.rows p.width G1 on1.length d1) TGr, osl TB vb (some ⟨sb, 0, none⟩) (p.rows * p.rows).toNat y.on, blk q8 (graC p.rows (some ⟨sb, 0, none⟩) (p.rows * p.rows).toNat (p.rows * p.rows).toNat) TGh]) (fun y => (p.width - y.k).toNat) ⟨0, 0, 0, on⟩ ⟨by simp, by dsimp only; omega, at_begin hg (bitR_zero u v).symm⟩ ?_
      rintro ⟨_, _, k, on⟩ ⟨hk0, hk1, hg⟩
      dsimp only at hk0 hk1 hg ⊢
      have hgl := hg.len
      have luv := cell_lt hu0 hu hv0 hv
      obtain ⟨m4, m5⟩ := mul_small hu0 (show u ≤ 128 by omega) h1 h2
      by_cases hne : u = v
      · refine gg ?_
        exact gnx (⟨0, v + 1, 0, on⟩ : LnX) ⟨by dsimp only; omega, by dsimp only; omega, at_end hg (by rw [hne]; unfold meetB bitR; rw [decide_eq_false (fun h => h.1 rfl), decide_eq_false (fun h => h.1 rfl)])⟩ (by dsimp only; omega)
      · by_cases hk : k < p.width
        · have hnx := bitR_next (p := p) hne hk0
          have hA := hg1.at_ u k hu0 hu hk0 hk
          have lA := cell_lt hu0 hu hk0 hk
          have hB := hg1.at_ v k hv0 hv hk0 hk
          have lB := cell_lt hv0 hv hk0 hk
          obtain ⟨m6, m7⟩ := mul_small (x := u) (y := p.width) (by omega) (by omega) h3 h4
          obtain ⟨m8, m9⟩ := mul_small (x := v) (y := p.width) (by omega) (by omega) h3 h4
          refine gg ?_
          cases ha : hasB p u k with
          | false =>
            rw [ha] at hA
            rw [ha, Bool.false_and, Bool.or_false] at hnx
            refine gc1 (fun w hst => at_c (rows := p.rows) (width := p.width) (r := u) (x := k) w (grd hst) h3 h4 (by omega) (by omega) (by omega) (by omega) (by omega) _ hA) (by exact rfl) ?_
            refine gg ?_
            exact gnx (⟨0, 0, k + 1, on⟩ : LnX) ⟨by dsimp only; omega, by dsimp only; omega, by dsimp only; rw [hnx]; exact hg⟩ (by dsimp only; omega)
          | true =>
            rw [ha] at hA
            refine gc1 (fun w hst => at_c (rows := p.rows) (width := p.width) (r := u) (x := k) w (grd hst) h3 h4 (by omega) (by omega) (by omega) (by omega) (by omega) _ hA) (by exact rfl) ?_
            refine gg ?_
            cases hb : hasB p v k with
            | false =>
              rw [hb] at hB
              rw [hb, Bool.and_false, Bool.or_false] at hnx
              refine gc1 (fun w hst => at_c (rows := p.rows) (width := p.width) (r := v) (x := k) w (grd hst) h3 h4 (by omega) (by omega) (by omega) (by omega) (by omega) _ hB) (by exact rfl) ?_
              refine gg ?_
              exact gnx (⟨0, 0, k + 1, on⟩ : LnX) ⟨by dsimp only; omega, by dsimp only; omega, by dsimp only; rw [hnx]; exact hg⟩ (by dsimp only; omega)
            | true =>
              rw [hb] at hB
              rw [ha, hb, Bool.and_true, Bool.or_true] at hnx
              refine gc1 (fun w hst => at_c (rows := p.rows) (width := p.width) (r := v) (x := k) w (grd hst) h3 h4 (by omega) (by omega) (by omega) (by omega) (by omega) _ hB) (by exact rfl) ?_
              refine gg ?_
              exact gnx (⟨0, 0, k + 1, on.set (u * p.rows + v).toNat true⟩ : LnX) ⟨by dsimp only; omega, by dsimp only; omega, by dsimp only; rw [hnx]; exact at_set hg hu0 hu hv0 hv⟩ (by dsimp only; omega)
        · obtain rfl : k = p.width := by omega
          refine gg ?_
          exact gnx (⟨0, v + 1, 0, on⟩ : LnX) ⟨by dsimp only; omega, by dsimp only; omega, at_end hg (bitR_all hm u v).symm⟩ (by dsimp only; omega)
    · obtain rfl : v = p.rows := by omega
      refine gg ?_
      exact gnx (⟨u + 1, 0, 0, on⟩ : LnX) ⟨by dsimp only; omega, by dsimp only; omega, mix_next hg⟩ (by dsimp only; omega)
  · obtain rfl : u = p.rows := by omega
    have hgl := hg.len
    refine gg ?_
    rw [show (p.rows * p.rows).toNat = on.length by omega]
    exact grt (⟨some ⟨sb, 0, none⟩, on.length, on⟩ : OX) (mix_end hg)
theorem bitC_zero (u v : Int) : bitC p u v 0 = false := by
  unfold bitC
  refine decide_eq_false ?_
  rintro ⟨_, j, h0, h1, _⟩
  omega
theorem bitC_all (hm : May p) (u v : Int) : bitC p u v p.rows = meetC p u v := by
  unfold bitC meetC
  refine decide_eq_decide.2 (and_congr_right fun _ => exists_congr fun j => ?_)
  rw [hasB_iff, hasB_iff]
  exact ⟨fun h => h.2.2, fun h => ⟨(h.1.in_ hm).1.1, (h.1.in_ hm).1.2, h⟩⟩
theorem bitC_next {u v k : Int} (hne : u ≠ v) (hk : 0 ≤ k) : bitC p u v (k + 1) = (bitC p u v k || (hasB p k u && hasB p k v)) := by
  rw [Bool.eq_iff_iff, Bool.or_eq_true, Bool.and_eq_true]
  unfold bitC
  rw [decide_eq_true_iff, decide_eq_true_iff]
  constructor
  · rintro ⟨h1, j, h2, h3, h4⟩
    by_cases e : j = k
    · rw [e] at h4; exact .inr h4
    · exact .inl ⟨h1, j, h2, by omega, h4⟩
  · rintro (⟨h1, j, h2, h3, h4⟩ | h)
    · exact ⟨h1, j, h2, by omega, h4⟩
    · exact ⟨hne, k, hk, by omega, h⟩
theorem linesC_c (w : World) (hp : RdP w x p) (hm : May p) :
    Calls Try.prog 47 [pvl x p, .bool false].toArray w (Ret [] (fun y : OX => .agg (graC p.width y.A y.on.length y.c).toArray) (fun y => [osl TB vb y.A y.c y.on]) (fun y => IsGrid y.on p.width p.width (meetC p)) w) := by
  have op := hp.old
  obtain ⟨h1, h2, h3, h4, h5, h6, h7, h8⟩ := hm.toHead
  have hopen : ∀ w (y : PA), RdP w y p → Calls Try.prog 68 [pvl y p].toArray w (Ret [] (fun x : OX => .agg (gridC p.rows p.width x.A x.on.length x.c).toArray) (fun x => [osl TB vb x.A x.c x.on]) (fun x => IsGrid x.on p.rows p.width (hasB p)) w) := fun w y hy => open_c w hy.s hy.c hm
  obtain ⟨m0, m1⟩ := mul_small h3 h4 h3 h4
  obtain ⟨m2, m3⟩ := mul_small h1 h2 h3 h4
  unfold pvl patV
  refine calls_wc [] [] [.cell 4 TGh] (fun y : OX => [.agg (graC p.width y.A y.on.length y.c).toArray]) Try.func47 rfl rfl (fun _ => rfl) Try.ntmps47 rfl (Own.nil w) rfl ?_
  refine gg ?_
  refine wl_op (ok_box rfl rfl rfl rfl rfl ?_); intro bp
  refine wl_op (ok_alloc rfl rfl rfl rfl (ze_of rfl) ?_); intro rb
  refine gg ?_
  refine gc3 [] (fun w hst hst1 => hopen w x (op.now hst)) (by exact rfl) ?_
  (repeat (first | refine gk1 ?_ | refine gk2 ?_ | refine gk3 ?_ | refine gk0 ?_ | refine gk4 ?_))
  rintro ⟨G1, d1, on1⟩ hg1
  dsimp only [List.cons_append, List.nil_append] at hg1 ⊢
  have hgl1 := hg1.len
  refine wl_op (ok_alloc rfl rfl rfl rfl (ze_of rfl) ?_); intro q5
  refine gg ?_
  refine gmk vb false rfl rfl rfl rfl rfl rfl rfl rfl rfl rfl rfl m0 (Int.le_refl _) (by omega) (by omega) ?_
  intro sb
  refine wl_v rfl rfl rfl (val_build (ps := [(0, vi p.width), (1, .slice (some ⟨sb, 0, none⟩) (p.width * p.width).toNat (p.width * p.width).toNat)]) (cells := graC p.width (some ⟨sb, 0, none⟩) (p.width * p.width).toNat (p.width * p.width).toNat) rfl rfl (by kernel_rfl)) ?_
  refine wl_op (ok_alloc rfl rfl rfl rfl (ze_of rfl) ?_); intro q8
  refine gg ?_
  refine glp (fun y : LnX => 0 ≤ y.u ∧ y.u ≤ p.width ∧ IsGrid y.on p.width p.width (mixS (meetC p) (fun _ _ => false) y.u 0)) (fun y => [(1, .bool false), (4, .pointer (some ⟨rb, 0, none⟩)), (5, .pointer (some ⟨q5, 0, none⟩)), (6, vi p.width), (7, vi p.rows), (8, .pointer (some ⟨q8, 0, none⟩)), (9, vi y.u)])
    (fun y => [blk rb [vi 0, nilS] TGh, osl TB vb G1 d1 on1, blk q5 (gridC p.rows p.width G1 on1.length d1) TGr, osl TB vb (some ⟨sb, 0, none⟩) (p.width * p.width).toNat y.on, blk q8 (graC p.width (some ⟨sb, 0, none⟩) (p.width * p.width).toNat (p.width * p.width).toNat) TGh]) (fun y => (p.width - y.u).toNat) ⟨0, 0, 0, List.replicate (p.width * p.width).toNat false⟩ ⟨by simp, by dsimp only; omega, mix_zero (IsGrid.none m0)⟩ ?_
  rintro ⟨u, _, _, on⟩ ⟨hu0, hu1, hg⟩
  dsimp only at hu0 hu1 hg ⊢
  by_cases hu : u < p.width
  · refine gg ?_
    refine glp (fun y : LnX => 0 ≤ y.v ∧ y.v ≤ p.width ∧ IsGrid y.on p.width p.width (mixS (meetC p) (fun _ _ => false) u y.v)) (fun y => [(1, .bool false), (4, .pointer (some ⟨rb, 0, none⟩)), (5, .pointer (some ⟨q5, 0, none⟩)), (6, vi p.width), (7, vi p.rows), (8, .pointer (some ⟨q8, 0, none⟩)), (9, vi u), (10, vi y.v)])
      (fun y => [blk rb [vi 0, nilS] TGh, osl TB vb G1 d1 on1, blk q5 (gridC p.rows p.width G1 on1.length d1) TGr, osl TB vb (some ⟨sb, 0, none⟩) (p.width * p.width).toNat y.on, blk q8 (graC p.width (some ⟨sb, 0, none⟩) (p.width * p.width).toNat (p.width * p.width).toNat) TGh]) (fun y => (p.width - y.v).toNat) ⟨0, 0, 0, on⟩ ⟨by simp, by dsimp only; omega, hg⟩ ?_
    rintro ⟨_, v, _, on⟩ ⟨hv0, hv1, hg⟩
    dsimp only at hv0 hv1 hg ⊢
    by_cases hv : v < p.width
    · refine gg ?_
      refine glp (fun y : LnX => 0 ≤ y.k ∧ y.k ≤ p.rows ∧ IsGrid y.on p.width p.width (atS (mixS (meetC p) (fun _ _ => false) u v) u v (bitC p u v y.k))) (fun y => [(1, .bool false), (4, .pointer (some ⟨rb, 0, none⟩)), (5, .pointer (some ⟨q5, 0, none⟩)), (6, vi p.width), (7, vi p.rows), (8, .pointer (some ⟨q8, 0, none⟩)), (9, vi u), (10, vi v), (11, vi y.k)])
        (fun y => [blk rb [vi 0, nilS] TGh, osl TB vb G1 d1 on1, blk q5 (gridC p.rows p.width G1 on1.length d1) TGr, osl TB vb (some ⟨sb, 0, none⟩) (p.width * p.width).toNat y.on, blk q8 (graC p.width (some ⟨sb, 0, none⟩) (p.width * p.width).toNat (p.width * p.width).toNat) TGh]) (fun y => (p.rows - y.k).toNat) ⟨0, 0, 0, on⟩ ⟨by simp, by dsimp only; omega, at_begin hg (bitC_zero u v).symm⟩ ?_
      rintro ⟨_, _, k, on⟩ ⟨hk0, hk1, hg⟩
      dsimp only at hk0 hk1 hg ⊢
      have hgl := hg.len
      have luv := cell_lt hu0 hu hv0 hv
      obtain ⟨m4, m5⟩ := mul_small hu0 (show u ≤ 128 by omega) h3 h4
      by_cases hne : u = v
      · refine gg ?_
        exact gnx (⟨0, v + 1, 0, on⟩ : LnX) ⟨by dsimp only; omega, by dsimp only; omega, at_end hg (by rw [hne]; unfold meetC bitC; rw [decide_eq_false (fun h => h.1 rfl), decide_eq_false (fun h => h.1 rfl)])⟩ (by dsimp only; omega)
      · by_cases hk : k < p.rows
        · have hnx := bitC_next (p := p) hne hk0
          have hA := hg1.at_ k u hk0 hk hu0 hu
          have lA := cell_lt hk0 hk hu0 hu
          have hB := hg1.at_ k v hk0 hk hv0 hv
          have lB := cell_lt hk0 hk hv0 hv
          obtain ⟨m6, m7⟩ := mul_small (x := k) (y := p.width) (by omega) (by omega) h3 h4
          obtain ⟨m8, m9⟩ := mul_small (x := k) (y := p.width) (by omega) (by omega) h3 h4
          refine gg ?_
          cases ha : hasB p k u with
          | false =>
            rw [ha] at hA
            rw [ha, Bool.false_and, Bool.or_false] at hnx
            refine gc1 (fun w hst => at_c (rows := p.rows) (width := p.width) (r := k) (x := u) w (grd hst) h3 h4 (by omega) (by omega) (by omega) (by omega) (by omega) _ hA) (by exact rfl) ?_
            refine gg ?_
            exact gnx (⟨0, 0, k + 1, on⟩ : LnX) ⟨by dsimp only; omega, by dsimp only; omega, by dsimp only; rw [hnx]; exact hg⟩ (by dsimp only; omega)
          | true =>
            rw [ha] at hA
            refine gc1 (fun w hst => at_c (rows := p.rows) (width := p.width) (r := k) (x := u) w (grd hst) h3 h4 (by omega) (by omega) (by omega) (by omega) (by omega) _ hA) (by exact rfl) ?_
            refine gg ?_
            cases hb : hasB p k v with
            | false =>
              rw [hb] at hB
              rw [hb, Bool.and_false, Bool.or_false] at hnx
              refine gc1 (fun w hst => at_c (rows := p.rows) (width := p.width) (r := k) (x := v) w (grd hst) h3 h4 (by omega) (by omega) (by omega) (by omega) (by omega) _ hB) (by exact rfl) ?_
              refine gg ?_
              exact gnx (⟨0, 0, k + 1, on⟩ : LnX) ⟨by dsimp only; omega, by dsimp only; omega, by dsimp only; rw [hnx]; exact hg⟩ (by dsimp only; omega)
            | true =>
              rw [hb] at hB
              rw [ha, hb, Bool.and_true, Bool.or_true] at hnx
              refine gc1 (fun w hst => at_c (rows := p.rows) (width := p.width) (r := k) (x := v) w (grd hst) h3 h4 (by omega) (by omega) (by omega) (by omega) (by omega) _ hB) (by exact rfl) ?_
              refine gg ?_
              exact gnx (⟨0, 0, k + 1, on.set (u * p.width + v).toNat true⟩ : LnX) ⟨by dsimp only; omega, by dsimp only; omega, by dsimp only; rw [hnx]; exact at_set hg hu0 hu hv0 hv⟩ (by dsimp only; omega)
        · obtain rfl : k = p.rows := by omega
          refine gg ?_
          exact gnx (⟨0, v + 1, 0, on⟩ : LnX) ⟨by dsimp only; omega, by dsimp only; omega, at_end hg (bitC_all hm u v).symm⟩ (by dsimp only; omega)
    · obtain rfl : v = p.width := by omega
      refine gg ?_
      exact gnx (⟨u + 1, 0, 0, on⟩ : LnX) ⟨by dsimp only; omega, by dsimp only; omega, mix_next hg⟩ (by dsimp only; omega)
  · obtain rfl : u = p.width := by omega
    have hgl := hg.len
    refine gg ?_
    rw [show (p.width * p.width).toNat = on.length by omega]
    exact grt (⟨some ⟨sb, 0, none⟩, on.length, on⟩ : OX) (mix_end hg)
end
theorem gshut_c {A : Option Addr} {c m : Nat} {on : List Bool} {S : Int → Int → Bool} (w : World) (hA : Rds vb w A c on) (hg : IsGrid on m m S) (hm : m ≤ 128) (hS : Within m m S) :
    Calls Try.prog 46 [.agg (graC m A on.length c).toArray].toArray w (Ret [] (fun y : PA => pvl y (shutP m m S)) (fun y => PatR y (shutP m m S)) (fun _ => True) w) := by
  have oA := hA.old
  have lA := hA.len
  have hgl := hg.len
  refine calls_wc [] [] [.cell 2 TP] (fun y : PA => [pvl y (shutP m m S)]) Try.func46 rfl rfl (fun _ => rfl) Try.ntmps46 rfl (Own.nil w) rfl ?_
  refine gnil ?_
  refine gg ?_
  refine wl_op (ok_box rfl rfl rfl rfl rfl ?_); intro gb
  refine wl_op (ok_alloc rfl rfl rfl rfl (ze_of rfl) ?_); intro rb
  refine gg ?_
  refine gbi (by exact rfl) ?_; intro sb
  refine wl_v rfl rfl rfl (val_build (ps := [(0, vi m), (1, vi m), (2, .slice (some ⟨sb, 0, none⟩) 1 1)]) (cells := [vi m, vi m, .slice (some ⟨sb, 0, none⟩) 1 1, .slice none 0 0]) rfl rfl (by kernel_rfl)) ?_
  refine wl_op (ok_alloc rfl rfl rfl rfl (ze_of rfl) ?_); intro pb
  refine gg ?_
  refine glp (fun x : SX => x.r ≤ m) (fun x => [(1, .pointer (some ⟨gb, 0, none⟩)), (2, .pointer (some ⟨rb, 0, none⟩)), (3, .pointer (some ⟨pb, 0, none⟩)), (4, vi x.r)])
    (fun x => [blk pb [vi m, vi m, .slice x.As (startTo m S x.r).length x.cs, .slice x.Ac (colsTo m S x.r 0).length x.cc] TP, osl TI vi x.As x.cs (startTo m S x.r), osl TI vi x.Ac x.cc (colsTo m S x.r 0), blk gb (graC m A on.length c) TGh, blk rb pat0 TP])
    (fun x => m - x.r) ⟨0, 0, some ⟨sb, 0, none⟩, 1, none, 0⟩ (by simp) ?_ (hM := by rw [(colsTo_first m S).1, (colsTo_first m S).2]; refine SubK.e ?_; (repeat (first | refine gk1 ?_ | refine gk2 ?_ | refine gk3 ?_ | refine gk0 ?_ | refine gk4 ?_)); trivial)
  rintro ⟨r, _, As, cs, Ac, cc⟩ hr
  dsimp only at hr ⊢
  have hsl := startTo_len hm S r
  by_cases hlt : r < m
  · obtain ⟨q0, q1⟩ := mul_small (x := (r : Int)) (y := m) (by omega) (by omega) (by omega) (by omega)
    refine gg ?_
    refine glp (fun x : SX => 0 ≤ x.c ∧ x.c ≤ m) (fun x => [(1, .pointer (some ⟨gb, 0, none⟩)), (2, .pointer (some ⟨rb, 0, none⟩)), (3, .pointer (some ⟨pb, 0, none⟩)), (4, vi r), (5, vi x.c)])
      (fun x => [blk pb [vi m, vi m, .slice As (startTo m S r).length cs, .slice x.Ac (colsTo m S r x.c).length x.cc] TP, osl TI vi As cs (startTo m S r), osl TI vi x.Ac x.cc (colsTo m S r x.c), blk gb (graC m A on.length c) TGh, blk rb pat0 TP])
      (fun x => (m - x.c).toNat) ⟨r, 0, As, cs, Ac, cc⟩ ⟨by simp, by dsimp only; omega⟩ ?_
    rintro ⟨_, k, _, _, Ac, cc⟩ ⟨hk0, hk1⟩
    dsimp only at hk0 hk1 ⊢
    have hcl := colsTo_len hm S r k
    by_cases hk : k < m
    · have hcell := cell_lt (r := (r : Int)) (c := k) (rows := (m : Int)) (width := m) (by omega) (by omega) hk0 hk
      have hat := hg.at_ r k (by omega) (by omega) hk0 hk
      have hstep := rowTo_step (f := S r) hk0 (by omega)
      cases hb : S r k with
      | true =>
        rw [hb] at hat
        rw [hb, if_pos rfl] at hstep
        have hst : colsTo m S r (k + 1) = colsTo m S r k ++ [k] := by unfold colsTo; rw [hstep, List.append_assoc]
        refine gg ?_
        refine gc1 (fun w hst => meet_c (n := m) (r := r) (x := k) w (oA.now hst) (by omega) (by omega) (by omega) (by omega) (by omega) (by omega) (by omega) true hat) (by exact rfl) ?_
        refine gg ?_
        refine gpush (by exact rfl) (fun b => by exact rfl) ?_
        intro bb A' c'
        rw [← hst]
        refine gg ?_
        exact gnx (⟨r, k + 1, As, cs, A', c'⟩ : SX) ⟨by dsimp only; omega, by dsimp only; omega⟩ (by dsimp only; omega)
      | false =>
        rw [hb] at hat
        rw [hb, if_neg (by simp)] at hstep
        have hst : colsTo m S r (k + 1) = colsTo m S r k := by unfold colsTo; rw [hstep]
        rw [← hst]
        refine gg ?_
        refine gc1 (fun w hst => meet_c (n := m) (r := r) (x := k) w (oA.now hst) (by omega) (by omega) (by omega) (by omega) (by omega) (by omega) (by omega) false hat) (by exact rfl) ?_
        refine gg ?_
        exact gnx (⟨r, k + 1, As, cs, Ac, cc⟩ : SX) ⟨by dsimp only; omega, by dsimp only; omega⟩ (by dsimp only; omega)
    · obtain rfl : k = m := by omega
      rw [colsTo_next hlt hS]
      refine gg ?_
      refine gpush (by exact rfl) (fun b => by exact rfl) ?_
      intro bb A' c'
      rw [← startTo_next hlt]
      refine gg ?_
      exact gnx (⟨r + 1, 0, A', c', Ac, cc⟩ : SX) (by dsimp only; omega) (by dsimp only; omega)
  · obtain rfl : r = m := by omega
    rw [(to_end r r S).1, (to_end r r S).2]
    refine gg ?_
    exact grt (⟨As, cs, Ac, cc⟩ : PA) trivial
section
variable {p : Pat} {x : PA}
theorem refLines_c (w : World) (hp : RdP w x p) (b : Bool) (z : PE) (hz : (if b then rowsS p else colsS p) = z) :
    Calls Try.prog 14 [pvl x p, .bool b].toArray w (Ret [] (fun y : PA => .tuple #[pvl y z.1, vi z.2]) (fun y => PatR y z.1) (fun _ => True) w) := by
  have op := hp.old
  by_cases hm : May p
  · obtain ⟨h1, h2, h3, h4, h5, h6, h7, h8⟩ := hm.toHead
    cases b with
    | true =>
      obtain rfl : (shutP p.rows.toNat p.rows (meetB p), (0 : Int)) = z := by rw [← hz, if_pos rfl]; exact (if_pos hm).symm
      have hls : ∀ w, RdP w x p → Calls Try.prog 47 [pvl x p, .bool true].toArray w (Ret [] (fun y : OX => .agg (graC p.rows.toNat y.A y.on.length y.c).toArray) (fun y => [osl TB vb y.A y.c y.on]) (fun y => IsGrid y.on p.rows.toNat p.rows.toNat (meetB p)) w) := fun w h => by
        have := linesR_c w h hm
        rwa [show p.rows = (p.rows.toNat : Int) by omega] at this
      have hw := meetB_within hm
      have hsh : ∀ (y : OX) (w : World), Rds vb w y.A y.c y.on → IsGrid y.on p.rows.toNat p.rows.toNat (meetB p) → Calls Try.prog 46 [.agg (graC p.rows.toNat y.A y.on.length y.c).toArray].toArray w (Ret [] (fun z : PA => pvl z (shutP p.rows.toNat p.rows (meetB p))) (fun z => PatR z (shutP p.rows.toNat p.rows (meetB p))) (fun _ => True) w) := fun y w h hg => by
        have := gshut_c (m := p.rows.toNat) w h hg (by omega) (by rw [show (p.rows.toNat : Int) = p.rows by omega]; exact hw)
        rwa [show shutP p.rows.toNat (p.rows.toNat : Int) (meetB p) = shutP p.rows.toNat p.rows (meetB p) by rw [show (p.rows.toNat : Int) = p.rows by omega]] at this
      unfold pvl patV at *
      refine calls_wc [] [] [.cell 4 TP, .tmp 5] (fun y : PA => [pvl y (shutP p.rows.toNat p.rows (meetB p)), vi 0]) Try.func14 rfl rfl (fun _ => rfl) Try.ntmps14 rfl (Own.nil w) rfl ?_
      refine gg ?_
      refine wl_op (ok_box rfl rfl rfl rfl rfl ?_); intro bp
      refine wl_op (ok_alloc rfl rfl rfl rfl (ze_of rfl) ?_); intro rb
      refine gg ?_
      refine gc1 (fun w hst => refMay_c (op.s.now hst) (op.c.now hst) true (by simp [hm])) (by exact rfl) ?_
      refine gg ?_
      refine gc3 [] (fun w hst hst1 => hls w (op.now hst)) (by exact rfl) ?_
      (repeat (first | refine gk1 ?_ | refine gk2 ?_ | refine gk3 ?_ | refine gk0 ?_ | refine gk4 ?_))
      rintro y1 hg
      dsimp only [List.cons_append, List.nil_append] at hg ⊢
      refine gg ?_
      refine gc3 [] (fun w hst hst1 => hsh y1 w (grd hst) hg) (by exact rfl) ?_
      (repeat (first | refine gk1 ?_ | refine gk2 ?_ | refine gk3 ?_ | refine gk0 ?_ | refine gk4 ?_))
      rintro y2 _
      dsimp only [List.cons_append, List.nil_append]
      refine gg ?_
      exact grt y2 trivial
    | false =>
      obtain rfl : (shutP p.width.toNat p.width (meetC p), (0 : Int)) = z := by rw [← hz, if_neg (by simp)]; exact (if_pos hm).symm
      have hls : ∀ w, RdP w x p → Calls Try.prog 47 [pvl x p, .bool false].toArray w (Ret [] (fun y : OX => .agg (graC p.width.toNat y.A y.on.length y.c).toArray) (fun y => [osl TB vb y.A y.c y.on]) (fun y => IsGrid y.on p.width.toNat p.width.toNat (meetC p)) w) := fun w h => by
        have := linesC_c w h hm
        rw [show (p.width.toNat : Int) = p.width by omega]
        exact this
      have hw := meetC_within hm
      have hsh : ∀ (y : OX) (w : World), Rds vb w y.A y.c y.on → IsGrid y.on p.width.toNat p.width.toNat (meetC p) → Calls Try.prog 46 [.agg (graC p.width.toNat y.A y.on.length y.c).toArray].toArray w (Ret [] (fun z : PA => pvl z (shutP p.width.toNat p.width (meetC p))) (fun z => PatR z (shutP p.width.toNat p.width (meetC p))) (fun _ => True) w) := fun y w h hg => by
        have := gshut_c (m := p.width.toNat) w h hg (by omega) (by rw [show (p.width.toNat : Int) = p.width by omega]; exact hw)
        rwa [show shutP p.width.toNat (p.width.toNat : Int) (meetC p) = shutP p.width.toNat p.width (meetC p) by rw [show (p.width.toNat : Int) = p.width by omega]] at this
      unfold pvl patV at *
      refine calls_wc [] [] [.cell 4 TP, .tmp 5] (fun y : PA => [pvl y (shutP p.width.toNat p.width (meetC p)), vi 0]) Try.func14 rfl rfl (fun _ => rfl) Try.ntmps14 rfl (Own.nil w) rfl ?_
      refine gg ?_
      refine wl_op (ok_box rfl rfl rfl rfl rfl ?_); intro bp
      refine wl_op (ok_alloc rfl rfl rfl rfl (ze_of rfl) ?_); intro rb
      refine gg ?_
      refine gc1 (fun w hst => refMay_c (op.s.now hst) (op.c.now hst) true (by simp [hm])) (by exact rfl) ?_
      refine gg ?_
      refine gc3 [] (fun w hst hst1 => hls w (op.now hst)) (by exact rfl) ?_
      (repeat (first | refine gk1 ?_ | refine gk2 ?_ | refine gk3 ?_ | refine gk0 ?_ | refine gk4 ?_))
      rintro y1 hg
      dsimp only [List.cons_append, List.nil_append] at hg ⊢
      refine gg ?_
      refine gc3 [] (fun w hst hst1 => hsh y1 w (grd hst) hg) (by exact rfl) ?_
      (repeat (first | refine gk1 ?_ | refine gk2 ?_ | refine gk3 ?_ | refine gk0 ?_ | refine gk4 ?_))
      rintro y2 _
      dsimp only [List.cons_append, List.nil_append]
      refine gg ?_
      exact grt y2 trivial
  · obtain rfl : (zP, (180 : Int)) = z := by
      rw [← hz]
      cases b with
      | true => rw [if_pos rfl]; exact (if_neg hm).symm
      | false => rw [if_neg (by simp)]; exact (if_neg hm).symm
    unfold pvl patV
    refine calls_wc [] [] [.cell 4 TP, .tmp 5] (fun y : PA => [pvl y zP, vi 180]) Try.func14 rfl rfl (fun _ => rfl) Try.ntmps14 rfl (Own.nil w) rfl ?_
    refine gnil ?_
    refine gnil ?_
    refine gg ?_
    refine wl_op (ok_box rfl rfl rfl rfl rfl ?_); intro bp
    refine wl_op (ok_alloc rfl rfl rfl rfl (ze_of rfl) ?_); intro rb
    refine gg ?_
    refine gc1 (fun w hst => refMay_c (op.s.now hst) (op.c.now hst) false (by simp [hm])) (by exact rfl) ?_
    refine gg ?_
    exact grt PA.nil trivial
end
theorem gmk0 {n : Nat} {w0 : World} {D : List Nat} {ops : Array Oper} {o : Oper} {Γ : Tm} {σ : List Res} {K : Tm → List Res → Prop} {α : Type} (f : α → Value) (z : α) {t e : TypeId} {x y : Operand} {l c : Int} {bytes dd : Nat} (hop : o.op = .makeSlice t x y) (hx : ev Γ x = some (.int .i64 l)) (hy : ev Γ y = some (.int .i64 c))
    (hg : gd Γ ops o = some true) (hd : o.dst = some dd) (hdn : Nat.blt dd n = true) (ht : lookN elT t = some e) (hz : lookN zeT e = some (f z)) (hz1 : (f z).cells = #[f z]) (hs : lookN szT e = some 1) (hb : lookN byT e = some bytes)
    (h0 : 0 ≤ l) (hlc : l ≤ c) (hcb : (bytes : Int) * c ≤ 281474976710656) (hc : c ≤ 281474976710656)
    (h : ∀ b, K ((dd, .slice (some ⟨b, 0, none⟩) l.toNat c.toNat) :: Γ) (osl e f (some ⟨b, 0, none⟩) c.toNat (List.replicate l.toNat z) :: σ)) : OpOK Try.prog n w0 D ops o K Γ σ :=
  ok_makeSlice f z hop hx hy hg hd hdn (el_of ht) (ze_of hz) hz1 (sz_of hs) (by_of hb) h0 hlc hcb hc (fun b => by rw [List.length_replicate]; exact h b)
section
variable {p : Pat} {x : PA}
/-- places ahead of (u, v) are as a graph's -/
def GrTo (p : Pat) (u v : Int) : Prop := ∀ a c : Int, 0 ≤ a → a < p.rows → 0 ≤ c → c < p.rows → (a < u ∨ a = u ∧ c < v) → hasB p a c = hasB p c a ∧ (a = c → hasB p a c = false)
theorem GrTo.next {u v : Int} (h : GrTo p u v) (h1 : hasB p u v = hasB p v u) (h2 : u = v → hasB p u v = false) : GrTo p u (v + 1) := fun a c a0 a1 c0 c1 hl => by
  by_cases e : a = u ∧ c = v
  · rw [e.1, e.2]; exact ⟨h1, h2⟩
  · exact h a c a0 a1 c0 c1 (by omega)
theorem GrTo.row {u : Int} (h : GrTo p u p.rows) : GrTo p (u + 1) 0 := fun a c a0 a1 c0 c1 hl => h a c a0 a1 c0 c1 (by omega)
theorem GrTo.gr (hm : May p) (hsq : p.rows = p.width) (h : GrTo p p.rows 0) : IsGr p := by
  refine ⟨⟨hm, hsq, fun r c hh => ?_⟩, fun v hh => ?_⟩
  · have hr := hh.in_ hm
    have := (h r c hr.1.1 hr.1.2 hr.2.1 (by omega) (.inl hr.1.2)).1
    rw [← hasB_iff, ← this]
    exact hasB_iff.2 hh
  · have hr := hh.in_ hm
    have := (h v v hr.1.1 hr.1.2 hr.1.1 hr.1.2 (.inl hr.1.2)).2 rfl
    rw [hasB_iff.2 hh] at this
    cases this
theorem IsGr.sym (h : IsGr p) (a c : Int) : hasB p a c = hasB p c a := by
  rw [Bool.eq_iff_iff, hasB_iff, hasB_iff]
  exact ⟨h.1.2.2 a c, h.1.2.2 c a⟩
theorem IsGr.irr (h : IsGr p) (a : Int) : hasB p a a = false := by
  cases hh : hasB p a a with
  | false => rfl
  | true => exact (h.2 a (hasB_iff.1 hh)).elim
theorem gopen_c (w : World) (hp : RdP w x p) (hm : May p) (ok : Bool) (hok : ok = true ↔ IsGr p) :
    Calls Try.prog 81 [pvl x p].toArray w (Ret [] (fun y : OX => .tuple #[.agg (graC (if ok then p.rows else 0) y.A y.on.length y.c).toArray, .bool ok]) (fun y => [osl TB vb y.A y.c y.on]) (fun y => (ok = true → IsGrid y.on p.rows p.rows (hasB p)) ∧ (ok = false → y.on = [])) w) := by
  have op := hp.old
  obtain ⟨h1, h2, h3, h4, h5, h6, h7, h8⟩ := hm.toHead
  obtain ⟨m0, m1⟩ := mul_small h1 h2 h1 h2
  have fals : ¬ IsGr p → ok = false := fun h => by
    cases ok with
    | false => rfl
    | true => exact (h (hok.1 rfl)).elim
  unfold pvl patV
  by_cases hsq : p.rows = p.width
  · have hopen : ∀ w (y : PA), RdP w y p → Calls Try.prog 68 [pvl y p].toArray w (Ret [] (fun x : OX => .agg (gridC p.rows p.rows x.A x.on.length x.c).toArray) (fun x => [osl TB vb x.A x.c x.on]) (fun x => IsGrid x.on p.rows p.rows (hasB p)) w) := fun w y hy => by
      have := open_c w hy.s hy.c hm
      rwa [← hsq] at this
    refine calls_wc [] [] [.cell 2 TGh, .tmp 3] (fun y : OX => [.agg (graC (if ok then p.rows else 0) y.A y.on.length y.c).toArray, .bool ok]) Try.func81 rfl rfl (fun _ => rfl) Try.ntmps81 rfl (Own.nil w) rfl ?_
    refine gg ?_
    refine wl_op (ok_box rfl rfl rfl rfl rfl ?_); intro bp
    refine wl_none TB vb ?_
    refine wl_op (ok_alloc rfl rfl rfl rfl (ze_of rfl) ?_); intro rb
    refine gg ?_
    refine gc3 [] (fun w hst hst1 => hopen w x (op.now hst)) (by exact rfl) ?_
    (repeat (first | refine gk1 ?_ | refine gk2 ?_ | refine gk3 ?_ | refine gk0 ?_ | refine gk4 ?_))
    rintro ⟨G1, d1, on1⟩ hg1
    dsimp only [List.cons_append, List.nil_append] at hg1 ⊢
    have hgl1 := hg1.len
    refine wl_op (ok_alloc rfl rfl rfl rfl (ze_of rfl) ?_); intro q4
    refine gg ?_
    refine wc_meetK (fun _ : Nat × Nat => True) (fun z => [(1, .pointer (some ⟨bp, 0, none⟩)), (2, .pointer (some ⟨rb, 0, none⟩)), (4, .pointer (some ⟨q4, 0, none⟩)), (5, .pointer (some ⟨z.2, 0, none⟩))])
      (fun z => [osl TB vb G1 d1 on1, blk q4 (gridC p.rows p.rows G1 on1.length d1) TGr, osl TB vb (some ⟨z.1, 0, none⟩) (p.rows * p.rows).toNat (List.replicate (p.rows * p.rows).toNat false), blk z.2 (graC p.rows (some ⟨z.1, 0, none⟩) (p.rows * p.rows).toNat (p.rows * p.rows).toNat) TGh, blk rb [vi 0, nilS] TGh, blk bp (pcs x p) TP, osl TB vb none 0 []]) ?_ ?_
    · refine gwa [] ?_
      (repeat (first | refine gk1 ?_ | refine gk2 ?_ | refine gk3 ?_ | refine gk0 ?_ | refine gk4 ?_))
      dsimp only [List.cons_append, List.nil_append]
      (first | refine ga1 0 (by exact rfl) (by exact rfl) ?_ | refine ga2 0 (by exact rfl) (by exact rfl) ?_ | refine ga3 0 (by exact rfl) (by exact rfl) ?_ | refine ga4 0 (by exact rfl) (by exact rfl) ?_)
      (first | refine ga1 1 (by exact rfl) (by exact rfl) ?_ | refine ga2 1 (by exact rfl) (by exact rfl) ?_ | refine ga3 1 (by exact rfl) (by exact rfl) ?_ | refine ga4 1 (by exact rfl) (by exact rfl) ?_)
      (first | refine ga1 2 (by exact rfl) (by exact rfl) ?_ | refine ga2 2 (by exact rfl) (by exact rfl) ?_ | refine ga3 2 (by exact rfl) (by exact rfl) ?_ | refine ga4 2 (by exact rfl) (by exact rfl) ?_)
      (first | refine ga1 3 (by exact rfl) (by exact rfl) ?_ | refine ga2 3 (by exact rfl) (by exact rfl) ?_ | refine ga3 3 (by exact rfl) (by exact rfl) ?_ | refine ga4 3 (by exact rfl) (by exact rfl) ?_)
      (first | refine ga1 4 (by exact rfl) (by exact rfl) ?_ | refine ga2 4 (by exact rfl) (by exact rfl) ?_ | refine ga3 4 (by exact rfl) (by exact rfl) ?_ | refine ga4 4 (by exact rfl) (by exact rfl) ?_)
      (first | refine ga1 5 (by exact rfl) (by exact rfl) ?_ | refine ga2 5 (by exact rfl) (by exact rfl) ?_ | refine ga3 5 (by exact rfl) (by exact rfl) ?_ | refine ga4 5 (by exact rfl) (by exact rfl) ?_)
      (first | refine ga1 6 (by exact rfl) (by exact rfl) ?_ | refine ga2 6 (by exact rfl) (by exact rfl) ?_ | refine ga3 6 (by exact rfl) (by exact rfl) ?_ | refine ga4 6 (by exact rfl) (by exact rfl) ?_)
      refine gaAll [7, 9] ?_
      intro j hj
      simp only [List.mem_cons, List.not_mem_nil, or_false] at hj
      rcases hj with rfl | rfl
      · refine ⟨_, rfl, ?_⟩
        refine gmk0 vb false rfl rfl rfl rfl rfl rfl rfl rfl rfl rfl rfl m0 (Int.le_refl _) (by omega) (by omega) ?_
        intro sb
        refine ⟨by (repeat (first | exact Suf.refl | exact Suf.nil | exact Suf.app _ _ | apply Suf.cons)), ?_⟩
        refine wa_v 8 [_] rfl (by kernel_rfl) rfl rfl rfl rfl (val_build (ps := [(0, vi p.rows), (1, .slice (some ⟨sb, 0, none⟩) (p.rows * p.rows).toNat (p.rows * p.rows).toNat)]) (cells := graC p.rows (some ⟨sb, 0, none⟩) (p.rows * p.rows).toNat (p.rows * p.rows).toNat) rfl rfl (by kernel_rfl)) ?_
        refine gaOne 9 rfl ?_
        refine ok_alloc rfl rfl rfl rfl (ze_of rfl) ?_
        intro q
        refine ⟨by (repeat (first | exact Suf.refl | exact Suf.nil | exact Suf.app _ _ | apply Suf.cons)), ?_⟩
        refine gaOne 10 rfl ?_
        refine gt0 (by exact rfl) ?_
        refine ⟨by (repeat (first | exact Suf.refl | exact Suf.nil | exact Suf.app _ _ | apply Suf.cons)), ?_⟩
        refine gaDone ?_
        exact ⟨(sb, q), trivial, .cons rfl (.cons rfl (.cons rfl (.cons rfl .nil))), by refine SubK.e ?_; (repeat (first | refine gk1 ?_ | refine gk2 ?_ | refine gk3 ?_ | refine gk0 ?_ | refine gk4 ?_)); trivial⟩
      · refine ⟨_, rfl, ?_⟩
        refine ok_alloc rfl rfl rfl rfl (ze_of rfl) ?_
        intro q
        refine ⟨by (repeat (first | exact Suf.refl | exact Suf.nil | exact Suf.app _ _ | apply Suf.cons)), ?_⟩
        refine gaOne 7 rfl ?_
        refine gmk0 vb false rfl rfl rfl rfl rfl rfl rfl rfl rfl rfl rfl m0 (Int.le_refl _) (by omega) (by omega) ?_
        intro sb
        refine ⟨by (repeat (first | exact Suf.refl | exact Suf.nil | exact Suf.app _ _ | apply Suf.cons)), ?_⟩
        refine wa_v 8 [_, _] rfl (by kernel_rfl) rfl rfl rfl rfl (val_build (ps := [(0, vi p.rows), (1, .slice (some ⟨sb, 0, none⟩) (p.rows * p.rows).toNat (p.rows * p.rows).toNat)]) (cells := graC p.rows (some ⟨sb, 0, none⟩) (p.rows * p.rows).toNat (p.rows * p.rows).toNat) rfl rfl (by kernel_rfl)) ?_
        refine gaOne 10 rfl ?_
        refine gt0 (by exact rfl) ?_
        refine ⟨by (repeat (first | exact Suf.refl | exact Suf.nil | exact Suf.app _ _ | apply Suf.cons)), ?_⟩
        refine gaDone ?_
        exact ⟨(sb, q), trivial, .cons rfl (.cons rfl (.cons rfl (.cons rfl .nil))), by refine SubK.e ?_; (repeat (first | refine gk1 ?_ | refine gk2 ?_ | refine gk3 ?_ | refine gk0 ?_ | refine gk4 ?_)); trivial⟩
    rintro ⟨sb, q⟩ _
    dsimp only
    refine gg ?_
    refine glp (fun y : LnX => 0 ≤ y.u ∧ y.u ≤ p.rows ∧ GrTo p y.u 0 ∧ IsGrid y.on p.rows p.rows (mixS (hasB p) (fun _ _ => false) y.u 0)) (fun y => [(2, .pointer (some ⟨rb, 0, none⟩)), (4, .pointer (some ⟨q4, 0, none⟩)), (5, .pointer (some ⟨q, 0, none⟩)), (6, vi y.u)])
      (fun y => [osl TB vb G1 d1 on1, blk q4 (gridC p.rows p.rows G1 on1.length d1) TGr, osl TB vb (some ⟨sb, 0, none⟩) (p.rows * p.rows).toNat y.on, blk q (graC p.rows (some ⟨sb, 0, none⟩) (p.rows * p.rows).toNat (p.rows * p.rows).toNat) TGh, blk rb [vi 0, nilS] TGh, osl TB vb none 0 []]) (fun y => (p.rows - y.u).toNat) ⟨0, 0, 0, List.replicate (p.rows * p.rows).toNat false⟩ ⟨by simp, h1, fun a c a0 a1 c0 c1 hl => by dsimp only at hl; omega, mix_zero (IsGrid.none m0)⟩ ?_
    rintro ⟨u, _, _, on⟩ ⟨hu0, hu1, hgr, hg⟩
    dsimp only at hu0 hu1 hgr hg ⊢
    by_cases hu : u < p.rows
    · obtain ⟨m4, m5⟩ := mul_small hu0 (show u ≤ 128 by omega) h1 h2
      refine gg ?_
      refine glp (fun y : LnX => 0 ≤ y.v ∧ y.v ≤ p.rows ∧ GrTo p u y.v ∧ IsGrid y.on p.rows p.rows (mixS (hasB p) (fun _ _ => false) u y.v)) (fun y => [(2, .pointer (some ⟨rb, 0, none⟩)), (4, .pointer (some ⟨q4, 0, none⟩)), (5, .pointer (some ⟨q, 0, none⟩)), (6, vi u), (7, vi y.v)])
        (fun y => [osl TB vb G1 d1 on1, blk q4 (gridC p.rows p.rows G1 on1.length d1) TGr, osl TB vb (some ⟨sb, 0, none⟩) (p.rows * p.rows).toNat y.on, blk q (graC p.rows (some ⟨sb, 0, none⟩) (p.rows * p.rows).toNat (p.rows * p.rows).toNat) TGh, blk rb [vi 0, nilS] TGh, osl TB vb none 0 []]) (fun y => (p.rows - y.v).toNat) ⟨0, 0, 0, on⟩ ⟨by simp, h1, hgr, hg⟩ ?_
      rintro ⟨_, v, _, on⟩ ⟨hv0, hv1, hgr, hg⟩
      dsimp only at hv0 hv1 hgr hg ⊢
      by_cases hv : v < p.rows
      · have hgl := hg.len
        have luv := cell_lt hu0 hu hv0 hv
        have lvu := cell_lt hv0 hv hu0 hu
        obtain ⟨m6, m7⟩ := mul_small hv0 (show v ≤ 128 by omega) h1 h2
        have huv := hg1.at_ u v hu0 hu hv0 hv
        have hvu := hg1.at_ v u hv0 hv hu0 hu
        have hset := mix_set (F := hasB p) hg hu0 hu hv0 hv (v := hasB p u v) rfl
        refine gg ?_
        refine gwa [osl TB vb (some ⟨sb, 0, none⟩) (p.rows * p.rows).toNat on] ?_
        (repeat (first | refine gk1 ?_ | refine gk2 ?_ | refine gk3 ?_ | refine gk0 ?_ | refine gk4 ?_))
        dsimp only [List.cons_append, List.nil_append]
        (first | refine ga1 0 (by exact rfl) (by exact rfl) ?_ | refine ga2 0 (by exact rfl) (by exact rfl) ?_ | refine ga3 0 (by exact rfl) (by exact rfl) ?_ | refine ga4 0 (by exact rfl) (by exact rfl) ?_)
        (first | refine ga1 1 (by exact rfl) (by exact rfl) ?_ | refine ga2 1 (by exact rfl) (by exact rfl) ?_ | refine ga3 1 (by exact rfl) (by exact rfl) ?_ | refine ga4 1 (by exact rfl) (by exact rfl) ?_)
        (first | refine ga1 2 (by exact rfl) (by exact rfl) ?_ | refine ga2 2 (by exact rfl) (by exact rfl) ?_ | refine ga3 2 (by exact rfl) (by exact rfl) ?_ | refine ga4 2 (by exact rfl) (by exact rfl) ?_)
        (first | refine ga1 3 (by exact rfl) (by exact rfl) ?_ | refine ga2 3 (by exact rfl) (by exact rfl) ?_ | refine ga3 3 (by exact rfl) (by exact rfl) ?_ | refine ga4 3 (by exact rfl) (by exact rfl) ?_)
        (first | refine ga1 4 (by exact rfl) (by exact rfl) ?_ | refine ga2 4 (by exact rfl) (by exact rfl) ?_ | refine ga3 4 (by exact rfl) (by exact rfl) ?_ | refine ga4 4 (by exact rfl) (by exact rfl) ?_)
        (first | refine ga1 5 (by exact rfl) (by exact rfl) ?_ | refine ga2 5 (by exact rfl) (by exact rfl) ?_ | refine ga3 5 (by exact rfl) (by exact rfl) ?_ | refine ga4 5 (by exact rfl) (by exact rfl) ?_)
        (first | refine ga1 6 (by exact rfl) (by exact rfl) ?_ | refine ga2 6 (by exact rfl) (by exact rfl) ?_ | refine ga3 6 (by exact rfl) (by exact rfl) ?_ | refine ga4 6 (by exact rfl) (by exact rfl) ?_)
        (first | refine ga1 7 (by exact rfl) (by exact rfl) ?_ | refine ga2 7 (by exact rfl) (by exact rfl) ?_ | refine ga3 7 (by exact rfl) (by exact rfl) ?_ | refine ga4 7 (by exact rfl) (by exact rfl) ?_)
        (first | refine ga1 8 (by exact rfl) (by exact rfl) ?_ | refine ga2 8 (by exact rfl) (by exact rfl) ?_ | refine ga3 8 (by exact rfl) (by exact rfl) ?_ | refine ga4 8 (by exact rfl) (by exact rfl) ?_)
        (first | refine ga1 9 (by exact rfl) (by exact rfl) ?_ | refine ga2 9 (by exact rfl) (by exact rfl) ?_ | refine ga3 9 (by exact rfl) (by exact rfl) ?_ | refine ga4 9 (by exact rfl) (by exact rfl) ?_)
        (first | refine ga1 10 (by exact rfl) (by exact rfl) ?_ | refine ga2 10 (by exact rfl) (by exact rfl) ?_ | refine ga3 10 (by exact rfl) (by exact rfl) ?_ | refine ga4 10 (by exact rfl) (by exact rfl) ?_)
        refine gaOne 11 rfl ?_
        refine ok_call1 (fun w hst => at_c (rows := p.rows) (width := p.rows) (r := u) (x := v) w (grd hst) h1 h2 (by omega) (by omega) (by omega) (by omega) (by omega) _ huv) rfl (by rfl) (bod_of rfl) (by rfl) (by rfl) (by rfl) ?_
        refine ⟨by (repeat (first | exact Suf.refl | exact Suf.nil | exact Suf.app _ _ | apply Suf.cons)), ?_⟩
        (first | refine ga1 12 (by exact rfl) (by exact rfl) ?_ | refine ga2 12 (by exact rfl) (by exact rfl) ?_ | refine ga3 12 (by exact rfl) (by exact rfl) ?_ | refine ga4 12 (by exact rfl) (by exact rfl) ?_)
        refine gaOne 13 rfl ?_
        refine gt0 (by exact rfl) ?_
        refine ⟨by (repeat (first | exact Suf.refl | exact Suf.nil | exact Suf.app _ _ | apply Suf.cons)), ?_⟩
        refine gaDone ?_
        refine gg ?_
        refine wc_quiet mixed (by kernel_rfl) ?_
        refine gg ?_
        refine gc2 (fun w hst => at_c (rows := p.rows) (width := p.rows) (r := u) (x := v) w (grd hst) h1 h2 (by omega) (by omega) (by omega) (by omega) (by omega) _ huv) (by exact rfl) ?_
        refine gg ?_
        refine gc2 (fun w hst => at_c (rows := p.rows) (width := p.rows) (r := v) (x := u) w (grd hst) h1 h2 (by omega) (by omega) (by omega) (by omega) (by omega) _ hvu) (by exact rfl) ?_
        refine wq_val rfl rfl rfl (val_neb uB rfl rfl rfl) ?_
        by_cases hne : hasB p u v = hasB p v u
        · rw [hne, show (!(hasB p v u == hasB p v u)) = false by simp]
          rw [← hne]
          refine gg ?_
          by_cases huv' : u = v
          · refine gg ?_
            cases hb : hasB p u v with
            | true =>
              have hng : ¬ IsGr p := fun h => by rw [huv', h.irr] at hb; cases hb
              obtain rfl := fals hng
              rw [hb] at huv
              refine gc2 (fun w hst => at_c (rows := p.rows) (width := p.rows) (r := u) (x := v) w (grd hst) h1 h2 (by omega) (by omega) (by omega) (by omega) (by omega) _ huv) (by exact rfl) ?_
              refine gg ?_
              exact grt (⟨none, 0, []⟩ : OX) ⟨fun h => (by cases h), fun _ => rfl⟩
            | false =>
              rw [hb] at huv hset
              refine gc2 (fun w hst => at_c (rows := p.rows) (width := p.rows) (r := u) (x := v) w (grd hst) h1 h2 (by omega) (by omega) (by omega) (by omega) (by omega) _ huv) (by exact rfl) ?_
              refine gg ?_
              exact gnx (⟨0, v + 1, 0, on.set (u * p.rows + v).toNat false⟩ : LnX) ⟨by dsimp only; omega, by dsimp only; omega, hgr.next hne (fun _ => hb), hset⟩ (by dsimp only; omega)
          · refine gg ?_
            exact gnx (⟨0, v + 1, 0, on.set (u * p.rows + v).toNat (hasB p u v)⟩ : LnX) ⟨by dsimp only; omega, by dsimp only; omega, hgr.next hne (fun e => (huv' e).elim), hset⟩ (by dsimp only; omega)
        · have hng : ¬ IsGr p := fun h => hne (h.sym u v)
          obtain rfl := fals hng
          rw [show (!(hasB p u v == hasB p v u)) = true by simp [hne]]
          refine gg ?_
          exact grt (⟨none, 0, []⟩ : OX) ⟨fun h => (by cases h), fun _ => rfl⟩
      · obtain rfl : v = p.rows := by omega
        refine gg ?_
        exact gnx (⟨u + 1, 0, 0, on⟩ : LnX) ⟨by dsimp only; omega, by dsimp only; omega, hgr.row, mix_next hg⟩ (by dsimp only; omega)
    · obtain rfl : u = p.rows := by omega
      have hgl := hg.len
      obtain rfl : ok = true := hok.2 (GrTo.gr hm hsq hgr)
      refine gg ?_
      rw [show (p.rows * p.rows).toNat = on.length by omega]
      exact grt (⟨some ⟨sb, 0, none⟩, on.length, on⟩ : OX) ⟨fun _ => mix_end hg, fun h => (by cases h)⟩
  · obtain rfl := fals (fun h => hsq h.1.2.1)
    refine calls_wc [] [] [.cell 2 TGh, .tmp 3] (fun y : OX => [.agg (graC (if false then p.rows else 0) y.A y.on.length y.c).toArray, .bool false]) Try.func81 rfl rfl (fun _ => rfl) Try.ntmps81 rfl (Own.nil w) rfl ?_
    refine gg ?_
    refine wl_op (ok_box rfl rfl rfl rfl rfl ?_); intro bp
    refine wl_none TB vb ?_
    refine wl_op (ok_alloc rfl rfl rfl rfl (ze_of rfl) ?_); intro rb
    refine gg ?_
    exact grt (⟨none, 0, []⟩ : OX) ⟨fun h => (by cases h), fun _ => rfl⟩
end
open Classical
noncomputable def thE (k : Int) (p : Pat) : Int := if ¬ May p then 180 else if k = 2 ∨ k = 3 then 0 else if k = 1 ∨ k = 4 ∨ k = 5 then (if IsGr p then 0 else 220) else 242
def thN (k : Int) (p : Pat) : Int := if k = 2 then p.width else p.rows
noncomputable def thF (k : Int) (p : Pat) : Int → Int → Bool := if k = 2 then meetC p else if k = 3 then meetB p else hasB p
section
variable {p : Pat} {x : PA} {k : Int}
theorem things_c (w : World) (hp : RdP w x p) :
    Calls Try.prog 42 [vi k, pvl x p].toArray w (Ret [] (fun y : OX => .tuple #[.agg (graC (if thE k p = 0 then thN k p else 0) y.A y.on.length y.c).toArray, vi (thE k p)]) (fun y => [osl TB vb y.A y.c y.on]) (fun y => (thE k p = 0 → IsGrid y.on (thN k p) (thN k p) (thF k p)) ∧ (thE k p ≠ 0 → y.on = [])) w) := by
  have op := hp.old
  by_cases hm : May p
  · by_cases h2 : k = 2
    · subst h2
      have e : thE 2 p = 0 := by unfold thE; rw [if_neg (by simp [hm]), if_pos (.inl rfl)]
      rw [e, show thN 2 p = p.width from if_pos rfl, show thF 2 p = meetC p from if_pos rfl, if_pos rfl]
      have hl : ∀ w, RdP w x p → _ := fun w h => linesC_c w h hm
      unfold pvl patV at *
      refine calls_wc [] [] [.cell 4 TGh, .tmp 5] (fun y : OX => [.agg (graC p.width y.A y.on.length y.c).toArray, vi 0]) Try.func42 rfl rfl (fun _ => rfl) Try.ntmps42 rfl (Own.nil w) rfl ?_
      refine gg ?_
      refine wl_op (ok_box rfl rfl rfl rfl rfl ?_); intro bp
      refine wl_op (ok_alloc rfl rfl rfl rfl (ze_of rfl) ?_); intro rb
      refine gg ?_
      refine gc1 (fun w hst => refMay_c (op.s.now hst) (op.c.now hst) true (by simp [hm])) (by exact rfl) ?_
      refine gg ?_
      refine gc3 [] (fun w hst hst1 => hl w (op.now hst)) (by exact rfl) ?_
      (repeat (first | refine gk1 ?_ | refine gk2 ?_ | refine gk3 ?_ | refine gk0 ?_ | refine gk4 ?_))
      rintro y hy
      dsimp only [List.cons_append, List.nil_append]
      refine gg ?_
      exact grt y ⟨fun _ => hy, fun h => (h rfl).elim⟩
    by_cases h3 : k = 3
    · subst h3
      have e : thE 3 p = 0 := by unfold thE; rw [if_neg (by simp [hm]), if_pos (.inr rfl)]
      rw [e, show thN 3 p = p.rows from if_neg (by decide), show thF 3 p = meetB p from (if_neg (by decide)).trans (if_pos rfl), if_pos rfl]
      have hl : ∀ w, RdP w x p → _ := fun w h => linesR_c w h hm
      unfold pvl patV at *
      refine calls_wc [] [] [.cell 4 TGh, .tmp 5] (fun y : OX => [.agg (graC p.rows y.A y.on.length y.c).toArray, vi 0]) Try.func42 rfl rfl (fun _ => rfl) Try.ntmps42 rfl (Own.nil w) rfl ?_
      refine gg ?_
      refine wl_op (ok_box rfl rfl rfl rfl rfl ?_); intro bp
      refine wl_op (ok_alloc rfl rfl rfl rfl (ze_of rfl) ?_); intro rb
      refine gg ?_
      refine gc1 (fun w hst => refMay_c (op.s.now hst) (op.c.now hst) true (by simp [hm])) (by exact rfl) ?_
      refine gg ?_
      refine gc3 [] (fun w hst hst1 => hl w (op.now hst)) (by exact rfl) ?_
      (repeat (first | refine gk1 ?_ | refine gk2 ?_ | refine gk3 ?_ | refine gk0 ?_ | refine gk4 ?_))
      rintro y hy
      dsimp only [List.cons_append, List.nil_append]
      refine gg ?_
      exact grt y ⟨fun _ => hy, fun h => (h rfl).elim⟩
    by_cases hk : k = 1 ∨ k = 4 ∨ k = 5
    · have hN : thN k p = p.rows := if_neg h2
      have hF : thF k p = hasB p := (if_neg h2).trans (if_neg h3)
      rw [hN, hF]
      by_cases hg : IsGr p
      · have e : thE k p = 0 := by unfold thE; rw [if_neg (by simp [hm]), if_neg (by omega), if_pos hk, if_pos hg]
        rw [e, if_pos rfl]
        have hl : ∀ w, RdP w x p → _ := fun w h => gopen_c w h hm true (by simp [hg])
        unfold pvl patV at *
        refine calls_wc [] [] [.cell 4 TGh, .tmp 5] (fun y : OX => [.agg (graC p.rows y.A y.on.length y.c).toArray, vi 0]) Try.func42 rfl rfl (fun _ => rfl) Try.ntmps42 rfl (Own.nil w) rfl ?_
        refine gg ?_
        refine wl_op (ok_box rfl rfl rfl rfl rfl ?_); intro bp
        refine wl_op (ok_alloc rfl rfl rfl rfl (ze_of rfl) ?_); intro rb
        refine gg ?_
        refine gc1 (fun w hst => refMay_c (op.s.now hst) (op.c.now hst) true (by simp [hm])) (by exact rfl) ?_
        refine gg ?_
        rcases hk with rfl | rfl | rfl
        · refine gg ?_
          refine gc3 [] (fun w hst hst1 => hl w (op.now hst)) (by exact rfl) ?_
          (repeat (first | refine gk1 ?_ | refine gk2 ?_ | refine gk3 ?_ | refine gk0 ?_ | refine gk4 ?_))
          rintro y ⟨hy, _⟩
          dsimp only [List.cons_append, List.nil_append]
          refine gg ?_
          refine wl_op (ok_alloc rfl rfl rfl rfl (ze_of rfl) ?_); intro q6
          refine gg ?_
          exact grt y ⟨fun _ => hy rfl, fun h => (h rfl).elim⟩
        · refine gg ?_
          refine gc3 [] (fun w hst hst1 => hl w (op.now hst)) (by exact rfl) ?_
          (repeat (first | refine gk1 ?_ | refine gk2 ?_ | refine gk3 ?_ | refine gk0 ?_ | refine gk4 ?_))
          rintro y ⟨hy, _⟩
          dsimp only [List.cons_append, List.nil_append]
          refine gg ?_
          refine wl_op (ok_alloc rfl rfl rfl rfl (ze_of rfl) ?_); intro q6
          refine gg ?_
          exact grt y ⟨fun _ => hy rfl, fun h => (h rfl).elim⟩
        · refine gg ?_
          refine gc3 [] (fun w hst hst1 => hl w (op.now hst)) (by exact rfl) ?_
          (repeat (first | refine gk1 ?_ | refine gk2 ?_ | refine gk3 ?_ | refine gk0 ?_ | refine gk4 ?_))
          rintro y ⟨hy, _⟩
          dsimp only [List.cons_append, List.nil_append]
          refine gg ?_
          refine wl_op (ok_alloc rfl rfl rfl rfl (ze_of rfl) ?_); intro q6
          refine gg ?_
          exact grt y ⟨fun _ => hy rfl, fun h => (h rfl).elim⟩
      · have e : thE k p = 220 := by unfold thE; rw [if_neg (by simp [hm]), if_neg (by omega), if_pos hk, if_neg hg]
        rw [e, if_neg (by decide)]
        have hl : ∀ w, RdP w x p → _ := fun w h => gopen_c w h hm false (by simp [hg])
        unfold pvl patV at *
        refine calls_wc [] [] [.cell 4 TGh, .tmp 5] (fun y : OX => [.agg (graC 0 y.A y.on.length y.c).toArray, vi 220]) Try.func42 rfl rfl (fun _ => rfl) Try.ntmps42 rfl (Own.nil w) rfl ?_
        refine gg ?_
        refine wl_op (ok_box rfl rfl rfl rfl rfl ?_); intro bp
        refine wl_none TB vb ?_
        refine wl_op (ok_alloc rfl rfl rfl rfl (ze_of rfl) ?_); intro rb
        refine gg ?_
        refine gc1 (fun w hst => refMay_c (op.s.now hst) (op.c.now hst) true (by simp [hm])) (by exact rfl) ?_
        refine gg ?_
        rcases hk with rfl | rfl | rfl
        · refine gg ?_
          refine gc3 [] (fun w hst hst1 => hl w (op.now hst)) (by exact rfl) ?_
          (repeat (first | refine gk1 ?_ | refine gk2 ?_ | refine gk3 ?_ | refine gk0 ?_ | refine gk4 ?_))
          rintro y ⟨_, hy⟩
          dsimp only [List.cons_append, List.nil_append]
          refine gg ?_
          refine wl_op (ok_alloc rfl rfl rfl rfl (ze_of rfl) ?_); intro q6
          refine gg ?_
          exact grt (⟨none, 0, []⟩ : OX) ⟨fun h => absurd h (by decide), fun _ => rfl⟩
        · refine gg ?_
          refine gc3 [] (fun w hst hst1 => hl w (op.now hst)) (by exact rfl) ?_
          (repeat (first | refine gk1 ?_ | refine gk2 ?_ | refine gk3 ?_ | refine gk0 ?_ | refine gk4 ?_))
          rintro y ⟨_, hy⟩
          dsimp only [List.cons_append, List.nil_append]
          refine gg ?_
          refine wl_op (ok_alloc rfl rfl rfl rfl (ze_of rfl) ?_); intro q6
          refine gg ?_
          exact grt (⟨none, 0, []⟩ : OX) ⟨fun h => absurd h (by decide), fun _ => rfl⟩
        · refine gg ?_
          refine gc3 [] (fun w hst hst1 => hl w (op.now hst)) (by exact rfl) ?_
          (repeat (first | refine gk1 ?_ | refine gk2 ?_ | refine gk3 ?_ | refine gk0 ?_ | refine gk4 ?_))
          rintro y ⟨_, hy⟩
          dsimp only [List.cons_append, List.nil_append]
          refine gg ?_
          refine wl_op (ok_alloc rfl rfl rfl rfl (ze_of rfl) ?_); intro q6
          refine gg ?_
          exact grt (⟨none, 0, []⟩ : OX) ⟨fun h => absurd h (by decide), fun _ => rfl⟩
    · have e : thE k p = 242 := by unfold thE; rw [if_neg (by simp [hm]), if_neg (by omega), if_neg hk]
      rw [e, if_neg (by decide)]
      have k1 : k ≠ 1 := fun h => hk (.inl h)
      have k4 : k ≠ 4 := fun h => hk (.inr (.inl h))
      have k5 : k ≠ 5 := fun h => hk (.inr (.inr h))
      unfold pvl patV
      refine calls_wc [] [] [.cell 4 TGh, .tmp 5] (fun y : OX => [.agg (graC 0 y.A y.on.length y.c).toArray, vi 242]) Try.func42 rfl rfl (fun _ => rfl) Try.ntmps42 rfl (Own.nil w) rfl ?_
      refine gg ?_
      refine wl_op (ok_box rfl rfl rfl rfl rfl ?_); intro bp
      refine wl_none TB vb ?_
      refine wl_op (ok_alloc rfl rfl rfl rfl (ze_of rfl) ?_); intro rb
      refine gg ?_
      refine gc1 (fun w hst => refMay_c (op.s.now hst) (op.c.now hst) true (by simp [hm])) (by exact rfl) ?_
      refine gg ?_
      exact grt (⟨none, 0, []⟩ : OX) ⟨fun h => absurd h (by decide), fun _ => rfl⟩
  · have e : thE k p = 180 := by unfold thE; rw [if_pos hm]
    rw [e, if_neg (by decide)]
    unfold pvl patV
    refine calls_wc [] [] [.cell 4 TGh, .tmp 5] (fun y : OX => [.agg (graC 0 y.A y.on.length y.c).toArray, vi 180]) Try.func42 rfl rfl (fun _ => rfl) Try.ntmps42 rfl (Own.nil w) rfl ?_
    refine gg ?_
    refine wl_op (ok_box rfl rfl rfl rfl rfl ?_); intro bp
    refine wl_none TB vb ?_
    refine wl_op (ok_alloc rfl rfl rfl rfl (ze_of rfl) ?_); intro rb
    refine gg ?_
    refine gc1 (fun w hst => refMay_c (op.s.now hst) (op.c.now hst) false (by simp [hm])) (by exact rfl) ?_
    refine gg ?_
    exact grt (⟨none, 0, []⟩ : OX) ⟨fun h => absurd h (by decide), fun _ => rfl⟩
end
structure NrX where
  k : Int
  b : Bool
/-- near so far -/
noncomputable def bitN (p : Pat) (u v k : Int) : Bool := decide (hasB p u v = true ∨ ∃ j : Int, 0 ≤ j ∧ j < k ∧ hasB p u j = true ∧ hasB p j v = true)
section
variable {p : Pat} {x : PA}
theorem bitN_zero (u v : Int) : bitN p u v 0 = hasB p u v := by
  unfold bitN
  rw [Bool.eq_iff_iff, decide_eq_true_iff]
  exact ⟨fun h => h.elim id (fun ⟨j, h0, h1, _⟩ => by omega), .inl⟩
theorem bitN_next {u v k : Int} (hk : 0 ≤ k) : bitN p u v (k + 1) = (bitN p u v k || (hasB p u k && hasB p k v)) := by
  rw [Bool.eq_iff_iff, Bool.or_eq_true, Bool.and_eq_true]
  unfold bitN
  rw [decide_eq_true_iff, decide_eq_true_iff]
  constructor
  · rintro (h | ⟨j, h2, h3, h4⟩)
    · exact .inl (.inl h)
    · by_cases e : j = k
      · rw [e] at h4; exact .inr h4
      · exact .inl (.inr ⟨j, h2, by omega, h4⟩)
  · rintro ((h | ⟨j, h2, h3, h4⟩) | h)
    · exact .inl h
    · exact .inr ⟨j, h2, by omega, h4⟩
    · exact .inr ⟨k, hk, by omega, h⟩
theorem bitN_all (hm : May p) (u v : Int) : nearB p u v = (bitN p u v p.rows && decide (u ≠ v)) := by
  rw [Bool.eq_iff_iff, Bool.and_eq_true]
  unfold bitN nearB
  rw [decide_eq_true_iff, decide_eq_true_iff, decide_eq_true_iff, hasB_iff]
  constructor
  · rintro ⟨h1, h2 | ⟨j, h2, h3⟩⟩
    · exact ⟨.inl h2, h1⟩
    · exact ⟨.inr ⟨j, (h3.in_ hm).1.1, (h3.in_ hm).1.2, hasB_iff.2 h2, hasB_iff.2 h3⟩, h1⟩
  · rintro ⟨h2 | ⟨j, _, _, h2, h3⟩, h1⟩
    · exact ⟨h1, .inl h2⟩
    · exact ⟨h1, .inr ⟨j, hasB_iff.1 h2, hasB_iff.1 h3⟩⟩
theorem nearE (p : Pat) : nearS p = if thE 1 p = 0 then (shutP p.rows.toNat p.rows (nearB p), 0) else (zP, thE 1 p) := by
  by_cases hm : May p
  · by_cases hg : IsGr p
    · simp [nearS, thE, hm, hg]
    · simp [nearS, thE, hm, hg]
  · simp [nearS, thE, hm]
theorem refNear_c (w : World) (hp : RdP w x p) :
    Calls Try.prog 17 [pvl x p].toArray w (Ret [] (fun y : PA => .tuple #[pvl y (nearS p).1, vi (nearS p).2]) (fun y => PatR y (nearS p).1) (fun _ => True) w) := by
  have op := hp.old
  rw [nearE]
  by_cases he : thE 1 p = 0
  · rw [if_pos he]
    obtain ⟨hm, hgr⟩ : May p ∧ IsGr p := by
      unfold thE at he
      by_cases hm : May p
      · rw [if_neg (not_not_intro hm), if_neg (by decide), if_pos (.inl rfl)] at he
        by_cases hg : IsGr p
        · exact ⟨hm, hg⟩
        · rw [if_neg hg] at he; exact absurd he (by decide)
      · rw [if_pos hm] at he; exact absurd he (by decide)
    have hsq := hgr.1.2.1
    obtain ⟨h1, h2, h3, h4, h5, h6, h7, h8⟩ := hm.toHead
    obtain ⟨m0, m1⟩ := mul_small h1 h2 h1 h2
    have hw := nearB_within hm hsq
    have hsh : ∀ (y : OX) (w : World), Rds vb w y.A y.c y.on → IsGrid y.on p.rows p.rows (nearB p) → Calls Try.prog 46 [.agg (graC p.rows y.A y.on.length y.c).toArray].toArray w (Ret [] (fun z : PA => pvl z (shutP p.rows.toNat p.rows (nearB p))) (fun z => PatR z (shutP p.rows.toNat p.rows (nearB p))) (fun _ => True) w) := fun y w h hg => by
      have en : (p.rows.toNat : Int) = p.rows := by omega
      have := gshut_c (m := p.rows.toNat) (S := nearB p) w h (by rw [en]; exact hg) (by omega) (by rw [en]; exact hw)
      rwa [en] at this
    unfold pvl patV at *
    refine calls_wc [] [] [.cell 2 TP, .tmp 3] (fun y : PA => [pvl y (shutP p.rows.toNat p.rows (nearB p)), vi 0]) Try.func17 rfl rfl (fun _ => rfl) Try.ntmps17 rfl (Own.nil w) rfl ?_
    refine gg ?_
    refine wl_op (ok_box rfl rfl rfl rfl rfl ?_); intro bp
    refine wl_op (ok_alloc rfl rfl rfl rfl (ze_of rfl) ?_); intro rb
    refine gg ?_
    refine gc3 [] (fun w hst hst1 => things_c (p := p) (x := x) (k := 1) w (op.now hst)) (by exact rfl) ?_
    (repeat (first | refine gk1 ?_ | refine gk2 ?_ | refine gk3 ?_ | refine gk0 ?_ | refine gk4 ?_))
    rintro ⟨A1, c1, on1⟩ ⟨hy, _⟩
    dsimp only [List.cons_append, List.nil_append] at hy ⊢
    rw [he, if_pos rfl, show thN 1 p = p.rows from if_neg (by decide)]
    have hg1 : IsGrid on1 p.rows p.rows (hasB p) := by
      have := hy he
      rwa [show thN 1 p = p.rows from if_neg (by decide), show thF 1 p = hasB p from (if_neg (by decide)).trans (if_neg (by decide))] at this
    have hgl1 := hg1.len
    refine gg ?_
    refine wl_op (ok_alloc rfl rfl rfl rfl (ze_of rfl) ?_); intro q4
    refine gg ?_
    refine wc_meetK (fun _ : Nat × Nat => True) (fun z => [(2, .pointer (some ⟨rb, 0, none⟩)), (4, .pointer (some ⟨q4, 0, none⟩)), (6, .pointer (some ⟨z.2, 0, none⟩))])
      (fun z => [osl TB vb A1 c1 on1, blk q4 (graC p.rows A1 on1.length c1) TGh, osl TB vb (some ⟨z.1, 0, none⟩) (p.rows * p.rows).toNat (List.replicate (p.rows * p.rows).toNat false), blk z.2 (graC p.rows (some ⟨z.1, 0, none⟩) (p.rows * p.rows).toNat (p.rows * p.rows).toNat) TGh, blk rb pat0 TP]) ?_ ?_
    · refine gwa [] ?_
      (repeat (first | refine gk1 ?_ | refine gk2 ?_ | refine gk3 ?_ | refine gk0 ?_ | refine gk4 ?_))
      dsimp only [List.cons_append, List.nil_append]
      (first | refine ga1 0 (by exact rfl) (by exact rfl) ?_ | refine ga2 0 (by exact rfl) (by exact rfl) ?_ | refine ga3 0 (by exact rfl) (by exact rfl) ?_ | refine ga4 0 (by exact rfl) (by exact rfl) ?_)
      (first | refine ga1 1 (by exact rfl) (by exact rfl) ?_ | refine ga2 1 (by exact rfl) (by exact rfl) ?_ | refine ga3 1 (by exact rfl) (by exact rfl) ?_ | refine ga4 1 (by exact rfl) (by exact rfl) ?_)
      (first | refine ga1 2 (by exact rfl) (by exact rfl) ?_ | refine ga2 2 (by exact rfl) (by exact rfl) ?_ | refine ga3 2 (by exact rfl) (by exact rfl) ?_ | refine ga4 2 (by exact rfl) (by exact rfl) ?_)
      (first | refine ga1 3 (by exact rfl) (by exact rfl) ?_ | refine ga2 3 (by exact rfl) (by exact rfl) ?_ | refine ga3 3 (by exact rfl) (by exact rfl) ?_ | refine ga4 3 (by exact rfl) (by exact rfl) ?_)
      (first | refine ga1 4 (by exact rfl) (by exact rfl) ?_ | refine ga2 4 (by exact rfl) (by exact rfl) ?_ | refine ga3 4 (by exact rfl) (by exact rfl) ?_ | refine ga4 4 (by exact rfl) (by exact rfl) ?_)
      (first | refine ga1 5 (by exact rfl) (by exact rfl) ?_ | refine ga2 5 (by exact rfl) (by exact rfl) ?_ | refine ga3 5 (by exact rfl) (by exact rfl) ?_ | refine ga4 5 (by exact rfl) (by exact rfl) ?_)
      (first | refine ga1 6 (by exact rfl) (by exact rfl) ?_ | refine ga2 6 (by exact rfl) (by exact rfl) ?_ | refine ga3 6 (by exact rfl) (by exact rfl) ?_ | refine ga4 6 (by exact rfl) (by exact rfl) ?_)
      refine gaAll [7, 9] ?_
      intro j hj
      simp only [List.mem_cons, List.not_mem_nil, or_false] at hj
      rcases hj with rfl | rfl
      · refine ⟨_, rfl, ?_⟩
        refine gmk0 vb false rfl rfl rfl rfl rfl rfl rfl rfl rfl rfl rfl m0 (Int.le_refl _) (by omega) (by omega) ?_
        intro sb
        refine ⟨by (repeat (first | exact Suf.refl | exact Suf.nil | exact Suf.app _ _ | apply Suf.cons)), ?_⟩
        refine wa_v 8 [_] rfl (by kernel_rfl) rfl rfl rfl rfl (val_build (ps := [(0, vi p.rows), (1, .slice (some ⟨sb, 0, none⟩) (p.rows * p.rows).toNat (p.rows * p.rows).toNat)]) (cells := graC p.rows (some ⟨sb, 0, none⟩) (p.rows * p.rows).toNat (p.rows * p.rows).toNat) rfl rfl (by kernel_rfl)) ?_
        refine gaOne 9 rfl ?_
        refine ok_alloc rfl rfl rfl rfl (ze_of rfl) ?_
        intro q
        refine ⟨by (repeat (first | exact Suf.refl | exact Suf.nil | exact Suf.app _ _ | apply Suf.cons)), ?_⟩
        refine gaOne 10 rfl ?_
        refine gt0 (by exact rfl) ?_
        refine ⟨by (repeat (first | exact Suf.refl | exact Suf.nil | exact Suf.app _ _ | apply Suf.cons)), ?_⟩
        refine gaDone ?_
        exact ⟨(sb, q), trivial, .cons rfl (.cons rfl (.cons rfl .nil)), by refine SubK.e ?_; (repeat (first | refine gk1 ?_ | refine gk2 ?_ | refine gk3 ?_ | refine gk0 ?_ | refine gk4 ?_)); trivial⟩
      · refine ⟨_, rfl, ?_⟩
        refine ok_alloc rfl rfl rfl rfl (ze_of rfl) ?_
        intro q
        refine ⟨by (repeat (first | exact Suf.refl | exact Suf.nil | exact Suf.app _ _ | apply Suf.cons)), ?_⟩
        refine gaOne 7 rfl ?_
        refine gmk0 vb false rfl rfl rfl rfl rfl rfl rfl rfl rfl rfl rfl m0 (Int.le_refl _) (by omega) (by omega) ?_
        intro sb
        refine ⟨by (repeat (first | exact Suf.refl | exact Suf.nil | exact Suf.app _ _ | apply Suf.cons)), ?_⟩
        refine wa_v 8 [_, _] rfl (by kernel_rfl) rfl rfl rfl rfl (val_build (ps := [(0, vi p.rows), (1, .slice (some ⟨sb, 0, none⟩) (p.rows * p.rows).toNat (p.rows * p.rows).toNat)]) (cells := graC p.rows (some ⟨sb, 0, none⟩) (p.rows * p.rows).toNat (p.rows * p.rows).toNat) rfl rfl (by kernel_rfl)) ?_
        refine gaOne 10 rfl ?_
        refine gt0 (by exact rfl) ?_
        refine ⟨by (repeat (first | exact Suf.refl | exact Suf.nil | exact Suf.app _ _ | apply Suf.cons)), ?_⟩
        refine gaDone ?_
        exact ⟨(sb, q), trivial, .cons rfl (.cons rfl (.cons rfl .nil)), by refine SubK.e ?_; (repeat (first | refine gk1 ?_ | refine gk2 ?_ | refine gk3 ?_ | refine gk0 ?_ | refine gk4 ?_)); trivial⟩
    rintro ⟨sb, q⟩ _
    dsimp only
    refine gg ?_
    refine glp (fun y : LnX => 0 ≤ y.u ∧ y.u ≤ p.rows ∧ IsGrid y.on p.rows p.rows (mixS (nearB p) (fun _ _ => false) y.u 0)) (fun y => [(2, .pointer (some ⟨rb, 0, none⟩)), (4, .pointer (some ⟨q4, 0, none⟩)), (6, .pointer (some ⟨q, 0, none⟩)), (7, vi y.u)])
      (fun y => [osl TB vb A1 c1 on1, blk q4 (graC p.rows A1 on1.length c1) TGh, osl TB vb (some ⟨sb, 0, none⟩) (p.rows * p.rows).toNat y.on, blk q (graC p.rows (some ⟨sb, 0, none⟩) (p.rows * p.rows).toNat (p.rows * p.rows).toNat) TGh, blk rb pat0 TP]) (fun y => (p.rows - y.u).toNat) ⟨0, 0, 0, List.replicate (p.rows * p.rows).toNat false⟩ ⟨by simp, h1, mix_zero (IsGrid.none m0)⟩ ?_
    rintro ⟨u, _, _, on⟩ ⟨hu0, hu1, hg⟩
    dsimp only at hu0 hu1 hg ⊢
    by_cases hu : u < p.rows
    · obtain ⟨m4, m5⟩ := mul_small hu0 (show u ≤ 128 by omega) h1 h2
      refine gg ?_
      refine glp (fun y : LnX => 0 ≤ y.v ∧ y.v ≤ p.rows ∧ IsGrid y.on p.rows p.rows (mixS (nearB p) (fun _ _ => false) u y.v)) (fun y => [(2, .pointer (some ⟨rb, 0, none⟩)), (4, .pointer (some ⟨q4, 0, none⟩)), (6, .pointer (some ⟨q, 0, none⟩)), (7, vi u), (8, vi y.v)])
        (fun y => [osl TB vb A1 c1 on1, blk q4 (graC p.rows A1 on1.length c1) TGh, osl TB vb (some ⟨sb, 0, none⟩) (p.rows * p.rows).toNat y.on, blk q (graC p.rows (some ⟨sb, 0, none⟩) (p.rows * p.rows).toNat (p.rows * p.rows).toNat) TGh, blk rb pat0 TP]) (fun y => (p.rows - y.v).toNat) ⟨0, 0, 0, on⟩ ⟨by simp, h1, hg⟩ ?_
      rintro ⟨_, v, _, on⟩ ⟨hv0, hv1, hg⟩
      dsimp only at hv0 hv1 hg ⊢
      by_cases hv : v < p.rows
      · have hgl := hg.len
        have luv := cell_lt hu0 hu hv0 hv
        have huv := hg1.at_ u v hu0 hu hv0 hv
        rw [← bitN_zero] at huv
        have hall := bitN_all hm u v
        refine gg ?_
        refine gc1 (fun w hst => meet_c (n := p.rows) (r := u) (x := v) w (grd hst) h1 h2 (by omega) (by omega) (by omega) (by omega) (by omega) _ huv) (by exact rfl) ?_
        refine gg ?_
        refine glp (fun y : NrX => 0 ≤ y.k ∧ y.k ≤ p.rows ∧ y.b = bitN p u v y.k) (fun y => [(2, .pointer (some ⟨rb, 0, none⟩)), (4, .pointer (some ⟨q4, 0, none⟩)), (6, .pointer (some ⟨q, 0, none⟩)), (7, vi u), (8, vi v), (9, .bool y.b), (10, vi y.k)])
          (fun y => [osl TB vb A1 c1 on1, blk q4 (graC p.rows A1 on1.length c1) TGh, osl TB vb (some ⟨sb, 0, none⟩) (p.rows * p.rows).toNat on, blk q (graC p.rows (some ⟨sb, 0, none⟩) (p.rows * p.rows).toNat (p.rows * p.rows).toNat) TGh, blk rb pat0 TP]) (fun y => (p.rows - y.k).toNat) ⟨0, bitN p u v 0⟩ ⟨by simp, h1, rfl⟩ ?_
        rintro ⟨k, b⟩ ⟨hk0, hk1, hb⟩
        dsimp only at hk0 hk1 hb ⊢
        by_cases hk : k < p.rows
        · have hnx := bitN_next (p := p) (u := u) (v := v) hk0
          obtain ⟨m6, m7⟩ := mul_small hk0 (show k ≤ 128 by omega) h1 h2
          have huk := hg1.at_ u k hu0 hu hk0 hk
          have hkv := hg1.at_ k v hk0 hk hv0 hv
          have luk := cell_lt hu0 hu hk0 hk
          have lkv := cell_lt hk0 hk hv0 hv
          cases b with
          | true =>
            rw [← hb, Bool.true_or] at hnx
            refine gg ?_
            exact gnx (⟨k + 1, true⟩ : NrX) ⟨by dsimp only; omega, by dsimp only; omega, hnx.symm⟩ (by dsimp only; omega)
          | false =>
            rw [← hb, Bool.false_or] at hnx
            refine gg ?_
            cases hc : hasB p u k with
            | false =>
              rw [hc] at huk hnx
              rw [Bool.false_and] at hnx
              refine gc1 (fun w hst => meet_c (n := p.rows) (r := u) (x := k) w (grd hst) h1 h2 (by omega) (by omega) (by omega) (by omega) (by omega) _ huk) (by exact rfl) ?_
              refine gg ?_
              exact gnx (⟨k + 1, false⟩ : NrX) ⟨by dsimp only; omega, by dsimp only; omega, hnx.symm⟩ (by dsimp only; omega)
            | true =>
              rw [hc] at huk hnx
              rw [Bool.true_and] at hnx
              refine gc1 (fun w hst => meet_c (n := p.rows) (r := u) (x := k) w (grd hst) h1 h2 (by omega) (by omega) (by omega) (by omega) (by omega) _ huk) (by exact rfl) ?_
              refine gg ?_
              refine gc1 (fun w hst => meet_c (n := p.rows) (r := k) (x := v) w (grd hst) h1 h2 (by omega) (by omega) (by omega) (by omega) (by omega) _ hkv) (by exact rfl) ?_
              refine gg ?_
              exact gnx (⟨k + 1, hasB p k v⟩ : NrX) ⟨by dsimp only; omega, by dsimp only; omega, hnx.symm⟩ (by dsimp only; omega)
        · obtain rfl : k = p.rows := by omega
          cases b with
          | true =>
            rw [← hb, Bool.true_and] at hall
            by_cases hne : u = v
            · have hset := mix_set (F := nearB p) hg hu0 hu hv0 hv (v := false) (by rw [hall]; simp [hne])
              refine gg ?_
              exact gnx (⟨0, v + 1, 0, on.set (u * p.rows + v).toNat false⟩ : LnX) ⟨by dsimp only; omega, by dsimp only; omega, hset⟩ (by dsimp only; omega)
            · have hset := mix_set (F := nearB p) hg hu0 hu hv0 hv (v := true) (by rw [hall]; simp [hne])
              refine gg ?_
              exact gnx (⟨0, v + 1, 0, on.set (u * p.rows + v).toNat true⟩ : LnX) ⟨by dsimp only; omega, by dsimp only; omega, hset⟩ (by dsimp only; omega)
          | false =>
            rw [← hb, Bool.false_and] at hall
            have hset := mix_set (F := nearB p) hg hu0 hu hv0 hv (v := false) hall
            refine gg ?_
            exact gnx (⟨0, v + 1, 0, on.set (u * p.rows + v).toNat false⟩ : LnX) ⟨by dsimp only; omega, by dsimp only; omega, hset⟩ (by dsimp only; omega)
      · obtain rfl : v = p.rows := by omega
        refine gg ?_
        exact gnx (⟨u + 1, 0, 0, on⟩ : LnX) ⟨by dsimp only; omega, by dsimp only; omega, mix_next hg⟩ (by dsimp only; omega)
    · obtain rfl : u = p.rows := by omega
      have hgl := hg.len
      refine gg ?_
      rw [show (p.rows * p.rows).toNat = on.length by omega]
      refine gc3 [] (fun w hst hst1 => hsh ⟨some ⟨sb, 0, none⟩, on.length, on⟩ w (grd hst) (mix_end hg)) (by exact rfl) ?_
      (repeat (first | refine gk1 ?_ | refine gk2 ?_ | refine gk3 ?_ | refine gk0 ?_ | refine gk4 ?_))
      rintro y _
      dsimp only [List.cons_append, List.nil_append]
      refine gg ?_
      exact grt y trivial
  · rw [if_neg he]
    unfold pvl patV
    refine calls_wc [] [] [.cell 2 TP, .tmp 3] (fun y : PA => [pvl y zP, vi (thE 1 p)]) Try.func17 rfl rfl (fun _ => rfl) Try.ntmps17 rfl (Own.nil w) rfl ?_
    refine gnil ?_
    refine gnil ?_
    refine gg ?_
    refine wl_op (ok_box rfl rfl rfl rfl rfl ?_); intro bp
    refine wl_op (ok_alloc rfl rfl rfl rfl (ze_of rfl) ?_); intro rb
    refine gg ?_
    refine gc3 [] (fun w hst hst1 => things_c (p := p) (x := x) (k := 1) w (op.now hst)) (by exact rfl) ?_
    (repeat (first | refine gk1 ?_ | refine gk2 ?_ | refine gk3 ?_ | refine gk0 ?_ | refine gk4 ?_))
    rintro ⟨A1, c1, on1⟩ _
    dsimp only [List.cons_append, List.nil_append]
    refine gg ?_
    refine wl_op (ok_alloc rfl rfl rfl rfl (ze_of rfl) ?_); intro q4
    refine gg ?_
    exact grt PA.nil trivial
end
/-- many pieces as one -/
def bun (l : List Res) : Res := ⟨l.flatMap Res.fp, fun w => ∀ r ∈ l, r.ok w, fun w w' h ho r hr => r.st w w' (fun b hb => h b (List.mem_flatMap.2 ⟨r, hr, hb⟩)) (ho r hr)⟩
theorem bun_fp (l : List Res) : [bun l].flatMap Res.fp = l.flatMap Res.fp := by simp [bun]
section
variable {w0 w : World} {D : List Nat} {σ l : List Res}
theorem bun_in (h : St w0 D (l ++ σ) w) : St w0 D (bun l :: σ) w := by
  refine ⟨h.only, fun r hr => ?_, fun r hr b hb => ?_, fun r hr b hb => ?_, ?_⟩
  · rcases List.mem_cons.1 hr with rfl | hr
    · exact fun q hq => h.ok q (List.mem_append_left _ hq)
    · exact h.ok r (List.mem_append_right _ hr)
  · rcases List.mem_cons.1 hr with rfl | hr
    · obtain ⟨q, hq, hb⟩ := List.mem_flatMap.1 hb
      exact h.lt q (List.mem_append_left _ hq) b hb
    · exact h.lt r (List.mem_append_right _ hr) b hb
  · rcases List.mem_cons.1 hr with rfl | hr
    · obtain ⟨q, hq, hb⟩ := List.mem_flatMap.1 hb
      exact h.new q (List.mem_append_left _ hq) b hb
    · exact h.new r (List.mem_append_right _ hr) b hb
  · have := h.nd
    rw [List.flatMap_append] at this
    exact this
theorem bun_out (h : St w0 D (bun l :: σ) w) : St w0 D (l ++ σ) w := by
  refine ⟨h.only, fun r hr => ?_, fun r hr b hb => ?_, fun r hr b hb => ?_, ?_⟩
  · rcases List.mem_append.1 hr with hr | hr
    · exact h.ok (bun l) List.mem_cons_self r hr
    · exact h.ok r (List.mem_cons_of_mem _ hr)
  · rcases List.mem_append.1 hr with hr | hr
    · exact h.lt (bun l) List.mem_cons_self b (List.mem_flatMap.2 ⟨r, hr, hb⟩)
    · exact h.lt r (List.mem_cons_of_mem _ hr) b hb
  · rcases List.mem_append.1 hr with hr | hr
    · exact h.new (bun l) List.mem_cons_self b (List.mem_flatMap.2 ⟨r, hr, hb⟩)
    · exact h.new r (List.mem_cons_of_mem _ hr) b hb
  · have := h.nd
    rw [List.flatMap_cons] at this
    rw [List.flatMap_append]
    exact this
theorem Ret.bun {α : Type} {vf : α → Value} {ρ : α → List Res} {φ : α → Prop} {e : Ending} {w' : World} (h : Ret l vf ρ φ w e w') : Ret [bun l] vf (fun x => [Go.Proofs.Ytoiiellaoikojaa.bun (ρ x)]) φ w e w' := by
  obtain ⟨x, h1, h2, h3, h4, h5, h6⟩ := h
  refine ⟨x, h1, h2, by rw [bun_fp]; exact h3, fun r hr => ?_, by rw [bun_fp, bun_fp]; exact h5, by rw [bun_fp]; exact h6⟩
  rw [List.mem_singleton.1 hr]
  exact h4
theorem grB {r : Res} (hst : St w0 D σ w) (hr : r ∈ l) (h : HasR σ (bun l) := by (repeat (first | exact .here | refine .there ?_)) <;> fail) : r.ok w := (h.st hst) r hr
end
theorem bun_out1 {w0 w : World} {D : List Nat} {l : List Res} (h : St w0 D [bun l] w) : St w0 D l w := by
  have := bun_out h
  rwa [List.append_nil] at this
section
variable {P : Program} {n : Nat} {w0 : World} {D : List Nat} {Γ : Tm} {σ : List Res} {ops : Array Oper} {os : List Oper} {Q : QQ}
theorem wl_bun (l : List Res) (h : SubK l σ (fun σ' => WL P n w0 D ops os Q Γ (bun l :: σ'))) : WL P n w0 D ops os Q Γ σ := by
  obtain ⟨rest, hp, h⟩ := h
  exact .mk fun a w hs hst => h.run a w hs (bun_in (hst.perm hp))
/-- a Given object at its birth -/
theorem wl_giv {g : Nat} (h : SubK [blk g (gvC none 0 0 none 0 0) TG, osl TIs sv none 0 [], osl TIs sv none 0 []] σ (fun σ' => WL P n w0 D ops os Q Γ (bun (Giv g ⟨none, 0, none, 0, []⟩) :: σ'))) : WL P n w0 D ops os Q Γ σ := wl_bun (Giv g ⟨none, 0, none, 0, []⟩) h
end
section
variable {p : Pat} {x : PA} {g : Nat}
theorem gpat_c (s : GS) (w : World) (hp : RdPO w ((Giv g s).flatMap Res.fp) x p) (hl : p.start.length ≤ 17592186043904) (hl2 : p.cols.length ≤ 17592186043904) (he : s.es.length ≤ 900) (hw : Own (Giv g s) w) :
    Calls Try.prog 13 [.pointer (some ⟨g, 0, none⟩), pvl x p].toArray w (Ret [bun (Giv g s)] (fun y : GS × GE × GE => pvl ⟨y.2.1.A, y.2.1.c, y.2.2.A, y.2.2.c⟩ p) (fun y => [bun (Giv g y.1)]) (fun y => y.1.es = s.es ++ [y.2.1, y.2.2] ∧ y.2.1.xs = p.start ++ gMarks ∧ y.2.2.xs = p.cols ++ gMarks) w) :=
  (givenPattern_c (p := p) s w hp.s hp.c hl hl2 he hw).mono fun e w' h => h.bun
theorem gintact_c (s : GS) (w : World) (he : s.es.length ≤ 1000) (hw : Own (Giv g s) w) :
    Calls Try.prog 20 [.pointer (some ⟨g, 0, none⟩)].toArray w (Ret [bun (Giv g s)] (fun _ : Unit => .bool true) (fun _ => [bun (Giv g s)]) (fun _ => True) w) :=
  (intact_c s w he hw).mono fun e w' h => h.bun
/-- a given pattern reads so -/
theorem grdG {w0 w : World} {D : List Nat} {σ : List Res} {s : GS} {e1 e2 : GE} (hst : St w0 D σ w) (h1 : e1 ∈ s.es) (h2 : e2 ∈ s.es) (x1 : e1.xs = p.start ++ gMarks) (x2 : e2.xs = p.cols ++ gMarks) (h : HasR σ (bun (Giv g s)) := by (repeat (first | exact .here | refine .there ?_)) <;> fail) : RdP w ⟨e1.A, e1.c, e2.A, e2.c⟩ p := by
  have q1 := grB hst (Giv.mem (g := g) h1).1 h
  have q2 := grB hst (Giv.mem (g := g) h2).1 h
  rw [x1] at q1
  rw [x2] at q2
  exact ⟨(osl_reads q1).pre, (osl_reads q2).pre⟩
theorem num_c (e : Int) (w : World) : Calls Try.prog 18 [vi e].toArray w (one (vi e) w) := by
  refine calls_wc [] [] [.tmp 2] (fun _ => [vi e]) Try.func18 rfl rfl (fun _ => rfl) Try.ntmps18 rfl (Own.nil w) rfl ?_
  refine gg ?_
  exact grt () trivial
theorem lawColourGraphs_c (w : World) (hp : RdP w x p) (hl : p.start.length ≤ 17592186043904) (hl2 : p.cols.length ≤ 17592186043904) :
    Calls Try.prog 3 [pvl x p].toArray w (one (.bool true) w) := by
  have op := hp.old
  unfold pvl patV
  refine calls_wc [] [] [.tmp 2] (fun _ => [.bool true]) Try.func3 rfl rfl (fun _ => rfl) Try.ntmps3 rfl (Own.nil w) rfl ?_
  refine gg ?_
  refine wl_op (ok_box rfl rfl rfl rfl rfl ?_); intro bp
  refine wl_none TIs sv ?_
  refine wl_none TIs sv ?_
  refine gg ?_
  refine wl_op (ok_alloc rfl rfl rfl rfl (ze_of rfl) ?_); intro g
  refine wl_giv (g := g) ?_
  (repeat (first | refine gk1 ?_ | refine gk2 ?_ | refine gk3 ?_ | refine gk0 ?_ | refine gk4 ?_))
  refine gg ?_
  refine gc3 [bun (Giv g ⟨none, 0, none, 0, []⟩)] (fun w hst hst1 => gpat_c (p := p) (x := x) ⟨none, 0, none, 0, []⟩ w (op.later (bun_out1 hst1)) hl hl2 (by simp) (bun_out1 hst1).own) (by exact rfl) ?_
  (repeat (first | refine gk1 ?_ | refine gk2 ?_ | refine gk3 ?_ | refine gk0 ?_ | refine gk4 ?_))
  rintro ⟨z1, e1, f1⟩ ⟨h1a, h1b, h1c⟩
  dsimp only [List.cons_append, List.nil_append] at h1a h1b h1c ⊢
  have me1 : e1 ∈ z1.es := by rw [h1a]; simp
  have mf1 : f1 ∈ z1.es := by rw [h1a]; simp
  refine gc3 [] (fun w hst hst1 => columns_c (p := p) (x := ⟨e1.A, e1.c, f1.A, f1.c⟩) w (grdG hst me1 mf1 h1b h1c)) (by exact rfl) ?_
  (repeat (first | refine gk1 ?_ | refine gk2 ?_ | refine gk3 ?_ | refine gk0 ?_ | refine gk4 ?_))
  rintro y1 _
  dsimp only [List.cons_append, List.nil_append]
  refine gg ?_
  refine wl_op (ok_alloc rfl rfl rfl rfl (ze_of rfl) ?_); intro q4
  refine gg ?_
  refine gc3 [] (fun w hst hst1 => refLines_c (p := p) (x := x) w (op.now hst) false (colsS p) rfl) (by exact rfl) ?_
  (repeat (first | refine gk1 ?_ | refine gk2 ?_ | refine gk3 ?_ | refine gk0 ?_ | refine gk4 ?_))
  rintro x1 _
  dsimp only [List.cons_append, List.nil_append]
  refine gg ?_
  refine wl_op (ok_alloc rfl rfl rfl rfl (ze_of rfl) ?_); intro q6
  refine gg ?_
  refine gc3 [bun (Giv g z1)] (fun w hst hst1 => gpat_c (p := p) (x := x) z1 w (op.later (bun_out1 hst1)) hl hl2 (by rw [h1a]; simp) (bun_out1 hst1).own) (by exact rfl) ?_
  (repeat (first | refine gk1 ?_ | refine gk2 ?_ | refine gk3 ?_ | refine gk0 ?_ | refine gk4 ?_))
  rintro ⟨z2, e2, f2⟩ ⟨h2a, h2b, h2c⟩
  dsimp only [List.cons_append, List.nil_append] at h2a h2b h2c ⊢
  have me2 : e2 ∈ z2.es := by rw [h2a]; simp
  have mf2 : f2 ∈ z2.es := by rw [h2a]; simp
  refine gc3 [] (fun w hst hst1 => colRows_c (p := p) (x := ⟨e2.A, e2.c, f2.A, f2.c⟩) w (grdG hst me2 mf2 h2b h2c)) (by exact rfl) ?_
  (repeat (first | refine gk1 ?_ | refine gk2 ?_ | refine gk3 ?_ | refine gk0 ?_ | refine gk4 ?_))
  rintro y2 _
  dsimp only [List.cons_append, List.nil_append]
  refine gg ?_
  refine wl_op (ok_alloc rfl rfl rfl rfl (ze_of rfl) ?_); intro q8
  refine gg ?_
  refine gc3 [] (fun w hst hst1 => refLines_c (p := p) (x := x) w (op.now hst) true (rowsS p) rfl) (by exact rfl) ?_
  (repeat (first | refine gk1 ?_ | refine gk2 ?_ | refine gk3 ?_ | refine gk0 ?_ | refine gk4 ?_))
  rintro x2 _
  dsimp only [List.cons_append, List.nil_append]
  refine gg ?_
  refine wl_op (ok_alloc rfl rfl rfl rfl (ze_of rfl) ?_); intro q10
  refine gg ?_
  refine gc3 [bun (Giv g z2)] (fun w hst hst1 => gpat_c (p := p) (x := x) z2 w (op.later (bun_out1 hst1)) hl hl2 (by rw [h2a, h1a]; simp) (bun_out1 hst1).own) (by exact rfl) ?_
  (repeat (first | refine gk1 ?_ | refine gk2 ?_ | refine gk3 ?_ | refine gk0 ?_ | refine gk4 ?_))
  rintro ⟨z3, e3, f3⟩ ⟨h3a, h3b, h3c⟩
  dsimp only [List.cons_append, List.nil_append] at h3a h3b h3c ⊢
  have me3 : e3 ∈ z3.es := by rw [h3a]; simp
  have mf3 : f3 ∈ z3.es := by rw [h3a]; simp
  refine gc3 [] (fun w hst hst1 => near_c (p := p) (x := ⟨e3.A, e3.c, f3.A, f3.c⟩) w (grdG hst me3 mf3 h3b h3c)) (by exact rfl) ?_
  (repeat (first | refine gk1 ?_ | refine gk2 ?_ | refine gk3 ?_ | refine gk0 ?_ | refine gk4 ?_))
  rintro y3 _
  dsimp only [List.cons_append, List.nil_append]
  refine gg ?_
  refine wl_op (ok_alloc rfl rfl rfl rfl (ze_of rfl) ?_); intro q12
  refine gg ?_
  refine gc3 [] (fun w hst hst1 => refNear_c (p := p) (x := x) w (op.now hst)) (by exact rfl) ?_
  (repeat (first | refine gk1 ?_ | refine gk2 ?_ | refine gk3 ?_ | refine gk0 ?_ | refine gk4 ?_))
  rintro x3 _
  dsimp only [List.cons_append, List.nil_append]
  refine gg ?_
  refine wl_op (ok_alloc rfl rfl rfl rfl (ze_of rfl) ?_); intro q14
  refine gg ?_
  refine gc1 (fun w hst => num_c _ w) (by exact rfl) ?_
  refine gg ?_
  refine gc1 (fun w hst => num_c _ w) (by exact rfl) ?_
  refine gg ?_
  refine gc1 (fun w hst => num_c _ w) (by exact rfl) ?_
  refine gg ?_
  refine gc1 (fun w hst => samePattern_c (p := (colsS p).1) (q := (colsS p).1) (x := y1) (y := x1) w (grdP hst) (grdP hst) true (by simp)) (by exact rfl) ?_
  refine gg ?_
  refine gc1 (fun w hst => samePattern_c (p := (rowsS p).1) (q := (rowsS p).1) (x := y2) (y := x2) w (grdP hst) (grdP hst) true (by simp)) (by exact rfl) ?_
  refine gg ?_
  refine gc1 (fun w hst => samePattern_c (p := (nearS p).1) (q := (nearS p).1) (x := y3) (y := x3) w (grdP hst) (grdP hst) true (by simp)) (by exact rfl) ?_
  refine gg ?_
  refine gc3 [bun (Giv g z3)] (fun w hst hst1 => gintact_c z3 w (by rw [h3a, h2a, h1a]; simp) (bun_out1 hst1).own) (by exact rfl) ?_
  (repeat (first | refine gk1 ?_ | refine gk2 ?_ | refine gk3 ?_ | refine gk0 ?_ | refine gk4 ?_))
  rintro _ _
  dsimp only [List.cons_append, List.nil_append]
  refine gg ?_
  exact grt () trivial
end
end Go.Proofs.Ytoiiellaoikojaa
