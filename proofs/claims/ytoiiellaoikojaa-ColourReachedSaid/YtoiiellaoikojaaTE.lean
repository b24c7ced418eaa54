/- Walks: shut, Turn, Build. Walks: Build. -/
import Derived.Test.YtoiiellaoikojaaGA
import Derived.Test.YtoiiellaoikojaaPB
import Derived.Test.YtoiiellaoikojaaTB
set_option linter.unusedVariables false
set_option linter.unusedSimpArgs false
set_option maxHeartbeats 8000000
namespace Go.Proofs.Ytoiiellaoikojaa
open Go.RowKit
abbrev pat0 : List Value := [vi 0, vi 0, .slice none 0 0, .slice none 0 0]
theorem shut_c {R : Nat} {ms : List Nat} {S : Int → Int → Bool} {width : Int} (w : World) (hw : Own [Tab R ms S] w) (hl : ms.length ≤ 128) :
    Calls Try.prog 73 [tabV width R ms].toArray w (Ret [Tab R ms S] (fun x : PA => pvl x (shutP ms.length width S)) (fun x => PatR x (shutP ms.length width S)) (fun _ => True) w) := by
  refine calls_wc (R :: ms) [Tab R ms S] [.cell 2 TP] (fun x : PA => [pvl x (shutP ms.length width S)]) Try.func73 rfl rfl (fun _ => rfl) Try.ntmps73 rfl hw (by simp [Tab]) ?_
  unfold tabV
  refine gg ?_
  refine wl_op (ok_box rfl rfl rfl rfl rfl ?_); intro bt
  refine wl_op (ok_alloc rfl rfl rfl rfl (ze_of rfl) ?_); intro rb
  refine gg ?_
  refine gc3 [Tab R ms S] (fun w hst hst1 => pattern_c (S := S) (width := width) w hst1.own hl) (by exact rfl) ?_
  (repeat (first | refine gk1 ?_ | refine gk2 ?_ | refine gk3 ?_ | refine gk0 ?_ | refine gk4 ?_))
  rintro ⟨A, c, B, d, v⟩ _
  dsimp only [List.cons_append, List.nil_append]
  refine gg ?_
  refine wl_op (ok_alloc rfl rfl rfl rfl (ze_of rfl) ?_); intro pb
  refine gg ?_
  exact grt (⟨A, c, B, d⟩ : PA) trivial

/-- the table and its variable -/
abbrev TabI (tb R : Nat) (ms : List Nat) (width : Int) (S : Int → Int → Bool) : List Res := [blk tb [vi width, .slice (some ⟨R, 0, none⟩) ms.length ms.length] TT, Tab R ms S]
theorem turn1_c {p : Pat} (hm : May p) (tb R : Nat) (ms : List Nat) (hms : (ms.length : Int) = p.width) (k r : Int) (w : World) (h0 : 0 ≤ r) (h1 : r < p.rows) (h2 : gt p.start r ≤ k) (h3 : k < gt p.start (r + 1)) (hw : Own (TabI tb R ms p.rows (fun a b => hasU p k b a)) w) :
    Calls Try.prog 72 ([vi r, vi (gt p.cols k), vi k] ++ [Value.pointer (some ⟨tb, 0, none⟩)]).toArray w (Ret (TabI tb R ms p.rows (fun a b => hasU p k b a)) (fun _ : Unit => .tuple #[]) (fun _ => TabI tb R ms p.rows (fun a b => hasU p (k + 1) b a)) (fun _ => True) w) := by
  obtain ⟨c0, c1, _⟩ := hm.row r h0 h1 k h2 h3
  have hr1 := hm.toHead.r1
  refine calls_wc ((TabI tb R ms p.rows (fun a b => hasU p k b a)).flatMap Res.fp) (TabI tb R ms p.rows (fun a b => hasU p k b a)) [] (fun _ => []) Try.func72 rfl rfl (fun _ => rfl) Try.ntmps72 rfl hw rfl ?_
  have e : (fun a b => hasU p (k + 1) b a) = fun a b => hasU p k b a || (a == gt p.cols k && b == r) := by
    funext a b
    rw [hasU_or hm h0 h1 h2 h3, Bool.and_comm]
  rw [e]
  refine gg ?_
  refine gm1 (by exact rfl) ?_
  refine gg ?_
  exact grt () trivial
section
variable {p : Pat} {x : PA}
theorem turn_c (w : World) (hp : RdP w x p) :
    Calls Try.prog 32 [pvl x p].toArray w (Ret [] (fun y : PA => .tuple #[pvl y (turnS p).1, vi (turnS p).2]) (fun y => PatR y (turnS p).1) (fun _ => True) w) := by
  have op := hp.old
  by_cases hm : May p
  · obtain ⟨h1, h2, h3, h4, h5, h6, h7, h8⟩ := hm.toHead
    rw [show turnS p = (shutP p.width.toNat p.rows (fun a b => hasB p b a), 0) by unfold turnS; rw [if_pos hm]]
    dsimp only
    unfold pvl patV
    refine calls_wc [] [] [.cell 2 TP, .tmp 3] (fun y : PA => [pvl y (shutP p.width.toNat p.rows (fun a b => hasB p b a)), vi 0]) Try.func32 rfl rfl (fun _ => rfl) Try.ntmps32 rfl (Own.nil w) rfl ?_
    refine gg ?_
    refine wl_op (ok_box rfl rfl rfl rfl rfl ?_); intro bp
    refine wl_op (ok_alloc rfl rfl rfl rfl (ze_of rfl) ?_); intro rb
    refine gg ?_
    refine gc1 (fun w hst => may_t (op.s.now hst) (op.c.now hst) hm) (by exact rfl) ?_
    refine gg ?_
    refine gc3 [] (fun w hst hst1 => blank_c (rows := p.width) (width := p.rows) w h3 h4) (by exact rfl) ?_
    (repeat (first | refine gk1 ?_ | refine gk2 ?_ | refine gk3 ?_ | refine gk0 ?_ | refine gk4 ?_))
    rintro ⟨R, ms⟩ hms
    dsimp only [List.cons_append, List.nil_append] at hms ⊢
    refine wl_op (ok_alloc rfl rfl rfl rfl (ze_of rfl) ?_); intro tb
    refine gg ?_
    rw [show (fun _ _ => false : Int → Int → Bool) = fun a b => hasU p 0 b a by rw [hasU_zero hm]]
    refine gc3 (TabI tb R ms p.rows (fun a b => hasU p 0 b a)) (fun w hst hst1 => each_c hm (fun k (_ : Unit) => TabI tb R ms p.rows (fun a b => hasU p k b a)) (fun _ _ => True) 72 [Value.pointer (some ⟨tb, 0, none⟩)] (bod_of rfl) () w (op.s.later hst1) (op.c.later hst1) trivial hst1.own (fun k r _ w h0 h1 h2 h3 _ hw => turn1_c hm tb R ms hms k r w h0 h1 h2 h3 hw.own)) (by exact rfl) ?_
    (repeat (first | refine gk1 ?_ | refine gk2 ?_ | refine gk3 ?_ | refine gk0 ?_ | refine gk4 ?_))
    rintro _ _
    dsimp only [List.cons_append, List.nil_append]
    rw [hasU_all hm]
    refine gg ?_
    refine gc3 [Tab R ms (fun a b => hasB p b a)] (fun w hst hst1 => shut_c (S := fun a b => hasB p b a) (width := p.rows) w hst1.own (by omega)) (by exact rfl) ?_
    (repeat (first | refine gk1 ?_ | refine gk2 ?_ | refine gk3 ?_ | refine gk0 ?_ | refine gk4 ?_))
    rintro y _
    dsimp only [List.cons_append, List.nil_append]
    rw [nat_cast_toNat hms]
    refine gg ?_
    exact grt y trivial
  · rw [show turnS p = (zP, 180) by unfold turnS; rw [if_neg hm]]
    dsimp only
    unfold pvl patV
    refine calls_wc [] [] [.cell 2 TP, .tmp 3] (fun y : PA => [pvl y zP, vi 180]) Try.func32 rfl rfl (fun _ => rfl) Try.ntmps32 rfl (Own.nil w) rfl ?_
    refine gnil ?_
    refine gnil ?_
    refine gg ?_
    refine wl_op (ok_box rfl rfl rfl rfl rfl ?_); intro bp
    refine wl_op (ok_alloc rfl rfl rfl rfl (ze_of rfl) ?_); intro rb
    refine gg ?_
    refine gc1 (fun w hst => may_f (op.s.now hst) (op.c.now hst) hm) (by exact rfl) ?_
    refine gg ?_
    refine gg ?_
    exact grt PA.nil trivial
end
theorem tabs_id (tb R : Nat) (ms : List Nat) (w : Int) {S S' : Int → Int → Bool} (h : S = S') : TabI tb R ms w S = TabI tb R ms w S' := by rw [h]
open Classical in
theorem lisB_within {rows width : Int} {rs cs : List Int} (h : ¬ Bad rows width rs cs) (a b : Int) (hab : lisB rs cs rs.length a b = true) : (0 ≤ a ∧ a < rows) ∧ 0 ≤ b ∧ b < width := by
  unfold lisB at hab
  obtain ⟨i, h0, h1, h2, h3⟩ := of_decide_eq_true hab
  have hn : ¬ BadAt rows width rs cs i := fun hb => h ⟨i, h0, h1, hb⟩
  unfold BadAt at hn
  omega
section
variable {A B : Option Addr} {c d : Nat} {rs cs : List Int} {rows width : Int}
end
end Go.Proofs.Ytoiiellaoikojaa
