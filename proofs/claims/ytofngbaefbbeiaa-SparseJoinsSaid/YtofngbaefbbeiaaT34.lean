/- Walks: opened, Inter. -/
import Derived.Test.YtofngbaefbbeiaaT33
set_option linter.unusedVariables false
set_option linter.unusedSimpArgs false
set_option maxHeartbeats 8000000
namespace Go.Proofs.Ytofngbaefbbeiaa
open Go.RowKit
section
open Classical
/-- of which all of the first i patterns know -/
noncomputable def interF (l : List Pat) (i : Int) (a b : Int) : Bool := decide (∀ j : Int, 0 ≤ j → j < i → HasP (gt l j) a b)
noncomputable def interM (l : List Pat) (i r : Int) (a b : Int) : Bool := interF l i a b && (!(decide (a < r)) || hasB (gt l i) a b)
theorem interF_one (l : List Pat) : interF l 1 = hasB (gt l 0) := by
  funext a b
  refine decide_eq_decide.2 ⟨fun h => h 0 (by omega) (by omega), fun h j j0 j1 => ?_⟩
  obtain rfl : j = 0 := by omega
  exact h
theorem interF_in {l : List Pat} {i a b : Int} (hi : 1 ≤ i) (h : interF l i a b = true) : 0 ≤ a ∧ a < (gt l 0).rows := by
  have := (of_decide_eq_true h) 0 (by omega) (by omega)
  exact ⟨this.1, this.2.1⟩
theorem interM_zero {l : List Pat} {i : Int} (hi : 1 ≤ i) : interM l i 0 = interF l i := by
  funext a b
  unfold interM
  cases h : interF l i a b with
  | false => rfl
  | true =>
    have := interF_in hi h
    rw [decide_eq_false (by omega)]
    rfl
theorem interM_step {l : List Pat} {i r : Int} : interM l i (r + 1) = fun a b => if a = r then (interM l i r r b && hasB (gt l i) r b) else interM l i r a b := by
  funext a b
  by_cases e : a = r
  · subst e
    simp only [if_true]
    unfold interM
    rw [decide_eq_true (show a < a + 1 by omega), decide_eq_false (show ¬ a < a by omega)]
    simp
  · rw [if_neg e]
    unfold interM
    congr 3
    exact decide_eq_decide.2 (by omega)
theorem interM_end {l : List Pat} {i : Int} (hi : 1 ≤ i) : interM l i (gt l 0).rows = interF l (i + 1) := by
  funext a b
  rw [Bool.eq_iff_iff]
  unfold interM
  rw [Bool.and_eq_true]
  constructor
  · rintro ⟨h, h'⟩
    have hr := interF_in hi h
    rw [decide_eq_true hr.2] at h'
    have h'' : HasP (gt l i) a b := by simpa [hasB_iff] using h'
    refine decide_eq_true fun j j0 j1 => ?_
    by_cases e : j = i
    · rw [e]; exact h''
    · exact (of_decide_eq_true h) j j0 (by omega)
  · intro h
    have h0 := of_decide_eq_true h
    refine ⟨decide_eq_true fun j j0 j1 => h0 j j0 (by omega), ?_⟩
    rw [Bool.or_eq_true, hasB_iff]
    exact .inr (h0 i (by omega) (by omega))
theorem interF_all (l : List Pat) : interF l l.length = interB l := by
  funext a b
  refine decide_eq_decide.2 ⟨fun h p hp => ?_, fun h j j0 j1 => h _ (gt_mem j0 j1)⟩
  obtain ⟨j, j0, j1, rfl⟩ := mem_gt hp
  exact h j j0 j1
theorem interB_within {l : List Pat} (h : Alike l) : Within (gt l 0).rows.toNat (gt l 0).width (interB l) := fun r _ c hc => by
  have h0 : 0 < l.length := List.length_pos_iff.2 h.some_
  have hm := gt_mem (xs := l) (i := 0) (by omega) (by omega)
  exact ((of_decide_eq_true hc) _ hm |>.in_ (h.may _ hm)).2
end
section
variable {n : Nat} {w0 : World} {D : List Nat} {Γ : Tm} {σ : List Res} {ops : Array Oper} {o : Oper} {os : List Oper} {Q : QQ} {R : Nat} {ms : List Nat} {S : Int → Int → Bool}
theorem wl_hole (R : Nat) (ms : List Nat) (S : Int → Int → Bool) (i : Nat) (hi : i < ms.length) (h : PickK (Tab R ms S) σ (fun σ' => WL Try.prog n w0 D ops os Q Γ (SetR (gt ms (i : Int)) (S i) :: TabX R ms S i :: σ'))) : WL Try.prog n w0 D ops os Q Γ σ := by
  obtain ⟨σ', hp, h⟩ := h
  exact ⟨fun a w hs hst => h.run a w hs (St.hole hi (hst.perm hp))⟩
theorem wl_know {φ : Prop} (hk : ∀ w, St w0 D σ w → φ) (h : φ → WL Try.prog n w0 D ops os Q Γ σ) : WL Try.prog n w0 D ops os Q Γ σ := .mk fun a w hs hst => (h (hk w hst)).run a w hs hst
/-- l[1:] -/
theorem val_tailP {A : Option Addr} {c : Nat} {l : LP} {x y : Operand} (hr : RdPsO w0 D A c l) (hop : o.op = .slice TPs x (some y) none none) (hx : ev Γ x = some (.slice A l.length c)) (hy : ev Γ y = some (.int .i64 1)) (hl : 0 < l.length) : ValOK Try.prog w0 D σ Γ o (.slice (if c = 1 then A else A.map (·.add 4)) l.tail.length (c - 1)) := by
  refine ⟨fun w hst g hg => ?_⟩
  have hcap := (hr.now hst).cap
  have e1 : (1 : Int) ≤ (l.length : Int) := by omega
  have e2 : (l.length : Int) ≤ (c : Int) := by omega
  have e3 : l.tail.length = l.length - 1 := by simp
  have e4 : (0 : Int) ≤ (l.length : Int) := by omega
  have e5 : (1 : Int) ≤ max (l.length : Int) 0 := by omega
  have e6 : (1 : Int) ≤ (max (l.length : Int) 0) := e5
  simp [execOp, hop, hg _ _ hx, hg _ _ hy, Instr.sliceAt, Instr.slice, run_underlying (elem?_spec (el_of (t := TPs) (k := TP) rfl)), Instr.sliceBounds, Instr.sliceBound, asIntOf, run_sizeOf' (sz_of (t := TP) (k := 4) rfl), Result.andThen, e1, e2, e3, e4, e5]
theorem RdPsO.tail {A : Option Addr} {c : Nat} {l : LP} (h : RdPsO w0 D A c l) (hl : 0 < l.length) : RdPsO w0 D (if c = 1 then A else A.map (·.add 4)) (c - 1) l.tail := fun w ho => by
  have h := h w ho
  have hcap := h.cap
  have e3 : l.tail.length = l.length - 1 := by simp
  refine ⟨by rw [e3]; omega, by have := h.max; omega, fun hpos => ?_, fun ad e j hj f v hv => ?_, fun x hx => h.pat x (List.mem_of_mem_tail hx)⟩
  · rw [e3] at hpos
    obtain ⟨ad, e⟩ := h.ad hl
    subst e
    rw [if_neg (by omega)]
    exact ⟨_, rfl⟩
  · rw [e3] at hj
    obtain ⟨ad0, e0⟩ := h.ad hl
    subst e0
    rw [if_neg (by omega)] at e
    simp only [Option.map_some, Option.some.injEq] at e
    subst e
    rw [add_add, show 4 + (j * 4 + f) = (j + 1) * 4 + f by omega]
    refine h.cell ad0 rfl (j + 1) (by omega) f v ?_
    simpa [List.getElem_tail] using hv
end
theorem inter1_c {p : Pat} {x : PA} (hm : May p) (pb rb : Nat) (r y : Int) (w : World) (hw : Own [blk pb (pcs x p) TP, blk rb [vi r] TI] w) (hD : RdPO w ([blk pb (pcs x p) TP, blk rb [vi r] TI].flatMap Res.fp) x p) :
    Calls Try.prog 114 ([vi y, Value.agg #[]] ++ [Value.pointer (some ⟨pb, 0, none⟩), Value.pointer (some ⟨rb, 0, none⟩)]).toArray w (Ret [blk pb (pcs x p) TP, blk rb [vi r] TI] (fun _ : Unit => .bool (!hasB p r y)) (fun _ => [blk pb (pcs x p) TP, blk rb [vi r] TI]) (fun _ => True) w) := by
  refine calls_wc ([blk pb (pcs x p) TP, blk rb [vi r] TI].flatMap Res.fp) [blk pb (pcs x p) TP, blk rb [vi r] TI] [.tmp 6] (fun _ => [.bool (!hasB p r y)]) Try.func114 rfl rfl (fun _ => rfl) Try.ntmps114 rfl hw rfl ?_
  (repeat (first | with_reducible refine thenQ_normal ?_ | with_reducible refine thenQ_exit ?_ | with_reducible refine thenQ_ret ?_ | with_reducible refine blkQ_normal ?_ | with_reducible refine blkQ_ret ?_ | with_reducible refine blkQ_hit ?_ | (with_reducible refine blkQ_miss ?_ ?_; · rfl) | refine wc_seq ?_ | refine wc_skip ?_ | refine wc_block ?_ | refine wc_true rfl ?_ | refine wc_false rfl ?_ | refine wc_exit ?_ | refine wc_ret ?_ | (refine wc_region ?_; repeat (first | refine gp1 (by exact rfl) ?_ | refine gl1 (by exact rfl) ?_ | refine gb1 (by exact rfl) ?_ | refine gi1 (by exact rfl) ?_ | refine gt1 (by exact rfl) ?_)) | refine wl_nil ?_ | refine wq_nil ?_ | refine gp1 (by exact rfl) ?_ | refine gl1 (by exact rfl) ?_ | refine gb1 (by exact rfl) ?_ | refine gi1 (by exact rfl) ?_ | refine gt1 (by exact rfl) ?_ | refine gp2 (by exact rfl) ?_ | refine gl2 (by exact rfl) ?_ | refine gb2 (by exact rfl) ?_ | refine gi2 (by exact rfl) ?_))
  refine wl_op (ok_box rfl rfl rfl rfl rfl ?_); intro eb
  (repeat (first | with_reducible refine thenQ_normal ?_ | with_reducible refine thenQ_exit ?_ | with_reducible refine thenQ_ret ?_ | with_reducible refine blkQ_normal ?_ | with_reducible refine blkQ_ret ?_ | with_reducible refine blkQ_hit ?_ | (with_reducible refine blkQ_miss ?_ ?_; · rfl) | refine wc_seq ?_ | refine wc_skip ?_ | refine wc_block ?_ | refine wc_true rfl ?_ | refine wc_false rfl ?_ | refine wc_exit ?_ | refine wc_ret ?_ | (refine wc_region ?_; repeat (first | refine gp1 (by exact rfl) ?_ | refine gl1 (by exact rfl) ?_ | refine gb1 (by exact rfl) ?_ | refine gi1 (by exact rfl) ?_ | refine gt1 (by exact rfl) ?_)) | refine wl_nil ?_ | refine wq_nil ?_ | refine gp1 (by exact rfl) ?_ | refine gl1 (by exact rfl) ?_ | refine gb1 (by exact rfl) ?_ | refine gi1 (by exact rfl) ?_ | refine gt1 (by exact rfl) ?_ | refine gp2 (by exact rfl) ?_ | refine gl2 (by exact rfl) ?_ | refine gb2 (by exact rfl) ?_ | refine gi2 (by exact rfl) ?_))
  refine gc3 [] (fun w hst hst1 => find_c (p := p) (r := r) (x := y) w (hD.s.now hst) (hD.c.now hst) hm) (by exact rfl) ?_
  (repeat (first | refine gk1 ?_ | refine gk2 ?_ | refine gk3 ?_ | refine gk0 ?_ | refine gk4 ?_))
  rintro ⟨j, ok⟩ ⟨hok, _⟩
  dsimp only [List.cons_append, List.nil_append] at hok ⊢
  obtain rfl : ok = hasB p r y := by rw [Bool.eq_iff_iff, hok, hasB_iff]
  (repeat (first | with_reducible refine thenQ_normal ?_ | with_reducible refine thenQ_exit ?_ | with_reducible refine thenQ_ret ?_ | with_reducible refine blkQ_normal ?_ | with_reducible refine blkQ_ret ?_ | with_reducible refine blkQ_hit ?_ | (with_reducible refine blkQ_miss ?_ ?_; · rfl) | refine wc_seq ?_ | refine wc_skip ?_ | refine wc_block ?_ | refine wc_true rfl ?_ | refine wc_false rfl ?_ | refine wc_exit ?_ | refine wc_ret ?_ | (refine wc_region ?_; repeat (first | refine gp1 (by exact rfl) ?_ | refine gl1 (by exact rfl) ?_ | refine gb1 (by exact rfl) ?_ | refine gi1 (by exact rfl) ?_ | refine gt1 (by exact rfl) ?_)) | refine wl_nil ?_ | refine wq_nil ?_ | refine gp1 (by exact rfl) ?_ | refine gl1 (by exact rfl) ?_ | refine gb1 (by exact rfl) ?_ | refine gi1 (by exact rfl) ?_ | refine gt1 (by exact rfl) ?_ | refine gp2 (by exact rfl) ?_ | refine gl2 (by exact rfl) ?_ | refine gb2 (by exact rfl) ?_ | refine gi2 (by exact rfl) ?_))
  exact grt () trivial
theorem opened1_c {p : Pat} (hm : May p) (tb R : Nat) (ms : List Nat) (hms : (ms.length : Int) = p.rows) (k r : Int) (w : World) (h0 : 0 ≤ r) (h1 : r < p.rows) (h2 : gt p.start r ≤ k) (h3 : k < gt p.start (r + 1)) (hw : Own (TabI tb R ms p.width (hasU p k)) w) :
    Calls Try.prog 138 ([vi r, vi (gt p.cols k), vi k] ++ [Value.pointer (some ⟨tb, 0, none⟩)]).toArray w (Ret (TabI tb R ms p.width (hasU p k)) (fun _ : Unit => .tuple #[]) (fun _ => TabI tb R ms p.width (hasU p (k + 1))) (fun _ => True) w) := by
  obtain ⟨c0, c1, _⟩ := hm.row r h0 h1 k h2 h3
  have hw1 := hm.toHead.w1
  refine calls_wc ((TabI tb R ms p.width (hasU p k)).flatMap Res.fp) (TabI tb R ms p.width (hasU p k)) [] (fun _ => []) Try.func138 rfl rfl (fun _ => rfl) Try.ntmps138 rfl hw rfl ?_
  have e : hasU p (k + 1) = fun a b => hasU p k a b || (a == r && b == gt p.cols k) := by
    funext a b
    exact hasU_or hm h0 h1 h2 h3 a b
  rw [e]
  (repeat (first | with_reducible refine thenQ_normal ?_ | with_reducible refine thenQ_exit ?_ | with_reducible refine thenQ_ret ?_ | with_reducible refine blkQ_normal ?_ | with_reducible refine blkQ_ret ?_ | with_reducible refine blkQ_hit ?_ | (with_reducible refine blkQ_miss ?_ ?_; · rfl) | refine wc_seq ?_ | refine wc_skip ?_ | refine wc_block ?_ | refine wc_true rfl ?_ | refine wc_false rfl ?_ | refine wc_exit ?_ | refine wc_ret ?_ | (refine wc_region ?_; repeat (first | refine gp1 (by exact rfl) ?_ | refine gl1 (by exact rfl) ?_ | refine gb1 (by exact rfl) ?_ | refine gi1 (by exact rfl) ?_ | refine gt1 (by exact rfl) ?_)) | refine wl_nil ?_ | refine wq_nil ?_ | refine gp1 (by exact rfl) ?_ | refine gl1 (by exact rfl) ?_ | refine gb1 (by exact rfl) ?_ | refine gi1 (by exact rfl) ?_ | refine gt1 (by exact rfl) ?_ | refine gp2 (by exact rfl) ?_ | refine gl2 (by exact rfl) ?_ | refine gb2 (by exact rfl) ?_ | refine gi2 (by exact rfl) ?_))
  refine gm1 (by exact rfl) ?_
  (repeat (first | with_reducible refine thenQ_normal ?_ | with_reducible refine thenQ_exit ?_ | with_reducible refine thenQ_ret ?_ | with_reducible refine blkQ_normal ?_ | with_reducible refine blkQ_ret ?_ | with_reducible refine blkQ_hit ?_ | (with_reducible refine blkQ_miss ?_ ?_; · rfl) | refine wc_seq ?_ | refine wc_skip ?_ | refine wc_block ?_ | refine wc_true rfl ?_ | refine wc_false rfl ?_ | refine wc_exit ?_ | refine wc_ret ?_ | (refine wc_region ?_; repeat (first | refine gp1 (by exact rfl) ?_ | refine gl1 (by exact rfl) ?_ | refine gb1 (by exact rfl) ?_ | refine gi1 (by exact rfl) ?_ | refine gt1 (by exact rfl) ?_)) | refine wl_nil ?_ | refine wq_nil ?_ | refine gp1 (by exact rfl) ?_ | refine gl1 (by exact rfl) ?_ | refine gb1 (by exact rfl) ?_ | refine gi1 (by exact rfl) ?_ | refine gt1 (by exact rfl) ?_ | refine gp2 (by exact rfl) ?_ | refine gl2 (by exact rfl) ?_ | refine gb2 (by exact rfl) ?_ | refine gi2 (by exact rfl) ?_))
  exact grt () trivial
theorem opened_c {p : Pat} {x : PA} (w : World) (hp : RdP w x p) (hm : May p) :
    Calls Try.prog 112 [pvl x p].toArray w (Ret [] (fun y : Nat × List Nat => tabV p.width y.1 y.2) (fun y => [Tab y.1 y.2 (hasB p)]) (fun y => (y.2.length : Int) = p.rows) w) := by
  have op := hp.old
  obtain ⟨h1, h2, h3, h4, h5, h6, h7, h8⟩ := hm.toHead
  unfold pvl patV
  refine calls_wc [] [] [.cell 2 TT] (fun y : Nat × List Nat => [tabV p.width y.1 y.2]) Try.func112 rfl rfl (fun _ => rfl) Try.ntmps112 rfl (Own.nil w) rfl ?_
  (repeat (first | with_reducible refine thenQ_normal ?_ | with_reducible refine thenQ_exit ?_ | with_reducible refine thenQ_ret ?_ | with_reducible refine blkQ_normal ?_ | with_reducible refine blkQ_ret ?_ | with_reducible refine blkQ_hit ?_ | (with_reducible refine blkQ_miss ?_ ?_; · rfl) | refine wc_seq ?_ | refine wc_skip ?_ | refine wc_block ?_ | refine wc_true rfl ?_ | refine wc_false rfl ?_ | refine wc_exit ?_ | refine wc_ret ?_ | (refine wc_region ?_; repeat (first | refine gp1 (by exact rfl) ?_ | refine gl1 (by exact rfl) ?_ | refine gb1 (by exact rfl) ?_ | refine gi1 (by exact rfl) ?_ | refine gt1 (by exact rfl) ?_)) | refine wl_nil ?_ | refine wq_nil ?_ | refine gp1 (by exact rfl) ?_ | refine gl1 (by exact rfl) ?_ | refine gb1 (by exact rfl) ?_ | refine gi1 (by exact rfl) ?_ | refine gt1 (by exact rfl) ?_ | refine gp2 (by exact rfl) ?_ | refine gl2 (by exact rfl) ?_ | refine gb2 (by exact rfl) ?_ | refine gi2 (by exact rfl) ?_))
  refine wl_op (ok_box rfl rfl rfl rfl rfl ?_); intro bp
  refine wl_op (ok_alloc rfl rfl rfl rfl (ze_of rfl) ?_); intro rb
  (repeat (first | with_reducible refine thenQ_normal ?_ | with_reducible refine thenQ_exit ?_ | with_reducible refine thenQ_ret ?_ | with_reducible refine blkQ_normal ?_ | with_reducible refine blkQ_ret ?_ | with_reducible refine blkQ_hit ?_ | (with_reducible refine blkQ_miss ?_ ?_; · rfl) | refine wc_seq ?_ | refine wc_skip ?_ | refine wc_block ?_ | refine wc_true rfl ?_ | refine wc_false rfl ?_ | refine wc_exit ?_ | refine wc_ret ?_ | (refine wc_region ?_; repeat (first | refine gp1 (by exact rfl) ?_ | refine gl1 (by exact rfl) ?_ | refine gb1 (by exact rfl) ?_ | refine gi1 (by exact rfl) ?_ | refine gt1 (by exact rfl) ?_)) | refine wl_nil ?_ | refine wq_nil ?_ | refine gp1 (by exact rfl) ?_ | refine gl1 (by exact rfl) ?_ | refine gb1 (by exact rfl) ?_ | refine gi1 (by exact rfl) ?_ | refine gt1 (by exact rfl) ?_ | refine gp2 (by exact rfl) ?_ | refine gl2 (by exact rfl) ?_ | refine gb2 (by exact rfl) ?_ | refine gi2 (by exact rfl) ?_))
  refine gc3 [] (fun w hst hst1 => blank_c (rows := p.rows) (width := p.width) w h1 h2) (by exact rfl) ?_
  (repeat (first | refine gk1 ?_ | refine gk2 ?_ | refine gk3 ?_ | refine gk0 ?_ | refine gk4 ?_))
  rintro ⟨R, ms⟩ hms
  dsimp only [List.cons_append, List.nil_append] at hms ⊢
  refine wl_op (ok_alloc rfl rfl rfl rfl (ze_of rfl) ?_); intro tb
  (repeat (first | with_reducible refine thenQ_normal ?_ | with_reducible refine thenQ_exit ?_ | with_reducible refine thenQ_ret ?_ | with_reducible refine blkQ_normal ?_ | with_reducible refine blkQ_ret ?_ | with_reducible refine blkQ_hit ?_ | (with_reducible refine blkQ_miss ?_ ?_; · rfl) | refine wc_seq ?_ | refine wc_skip ?_ | refine wc_block ?_ | refine wc_true rfl ?_ | refine wc_false rfl ?_ | refine wc_exit ?_ | refine wc_ret ?_ | (refine wc_region ?_; repeat (first | refine gp1 (by exact rfl) ?_ | refine gl1 (by exact rfl) ?_ | refine gb1 (by exact rfl) ?_ | refine gi1 (by exact rfl) ?_ | refine gt1 (by exact rfl) ?_)) | refine wl_nil ?_ | refine wq_nil ?_ | refine gp1 (by exact rfl) ?_ | refine gl1 (by exact rfl) ?_ | refine gb1 (by exact rfl) ?_ | refine gi1 (by exact rfl) ?_ | refine gt1 (by exact rfl) ?_ | refine gp2 (by exact rfl) ?_ | refine gl2 (by exact rfl) ?_ | refine gb2 (by exact rfl) ?_ | refine gi2 (by exact rfl) ?_))
  rw [← hasU_zero (p := p) hm]
  refine gc3 (TabI tb R ms p.width (hasU p 0)) (fun w hst hst1 => each_c hm (fun k (_ : Unit) => TabI tb R ms p.width (hasU p k)) (fun _ _ => True) 138 [Value.pointer (some ⟨tb, 0, none⟩)] (bod_of rfl) () w (op.s.later hst1) (op.c.later hst1) trivial hst1.own (fun k r _ w h0 h1 h2 h3 _ hw => opened1_c hm tb R ms hms k r w h0 h1 h2 h3 hw.own)) (by exact rfl) ?_
  (repeat (first | refine gk1 ?_ | refine gk2 ?_ | refine gk3 ?_ | refine gk0 ?_ | refine gk4 ?_))
  rintro _ _
  dsimp only [List.cons_append, List.nil_append]
  rw [hasU_all hm]
  (repeat (first | with_reducible refine thenQ_normal ?_ | with_reducible refine thenQ_exit ?_ | with_reducible refine thenQ_ret ?_ | with_reducible refine blkQ_normal ?_ | with_reducible refine blkQ_ret ?_ | with_reducible refine blkQ_hit ?_ | (with_reducible refine blkQ_miss ?_ ?_; · rfl) | refine wc_seq ?_ | refine wc_skip ?_ | refine wc_block ?_ | refine wc_true rfl ?_ | refine wc_false rfl ?_ | refine wc_exit ?_ | refine wc_ret ?_ | (refine wc_region ?_; repeat (first | refine gp1 (by exact rfl) ?_ | refine gl1 (by exact rfl) ?_ | refine gb1 (by exact rfl) ?_ | refine gi1 (by exact rfl) ?_ | refine gt1 (by exact rfl) ?_)) | refine wl_nil ?_ | refine wq_nil ?_ | refine gp1 (by exact rfl) ?_ | refine gl1 (by exact rfl) ?_ | refine gb1 (by exact rfl) ?_ | refine gi1 (by exact rfl) ?_ | refine gt1 (by exact rfl) ?_ | refine gp2 (by exact rfl) ?_ | refine gl2 (by exact rfl) ?_ | refine gb2 (by exact rfl) ?_ | refine gi2 (by exact rfl) ?_))
  exact grt (R, ms) hms
section
variable {A : Option Addr} {c : Nat} {l : LP}
theorem inter_c (w : World) (hl : RdPs w A c l) (q : PE) (hq : interS (l.map Prod.snd) = q) :
    Calls Try.prog 80 [.slice A l.length c].toArray w (Ret [] (fun y : PA => .tuple #[pvl y q.1, vi q.2]) (fun y => PatR y q.1) (fun _ => True) w) := by
  have ol := hl.old
  have hcap := hl.cap
  have hmx := hl.max
  have hlen : (l.map Prod.snd).length = l.length := List.length_map _
  by_cases ha : alikeS (l.map Prod.snd) = 0
  · have hal := alike_iff.1 ha
    have hpos : 0 < l.length := by
      rw [← hlen]; exact List.length_pos_iff.2 hal.some_
    obtain ⟨ad, rfl⟩ := hl.ad hpos
    have g0 : gt (l.map Prod.snd) 0 = (gt l 0).2 := snd_gt (by omega) (by omega)
    have hmay : ∀ i : Int, 0 ≤ i → i < l.length → May (gt l i).2 := fun i h0 h1 => hal.may _ (List.mem_map.2 ⟨_, gt_mem h0 h1, rfl⟩)
    have hsz : ∀ i : Int, 0 ≤ i → i < l.length → (gt l i).2.rows = (gt l 0).2.rows ∧ (gt l i).2.width = (gt l 0).2.width := fun i h0 h1 => by
      have := hal.size _ (List.mem_map.2 ⟨_, gt_mem h0 h1, rfl⟩)
      rwa [g0] at this
    obtain ⟨h1, h2, h3, h4, _⟩ := (hmay 0 (by omega) (by omega)).toHead
    have oP0 := ol.pat (gt_mem (xs := l) (i := 0) (by omega) (by omega))
    have ot := ol.tail hpos
    have htl : (l.tail.length : Int) = (l.length : Int) - 1 := by rw [List.length_tail]; omega
    have htg : ∀ i : Int, 0 ≤ i → i < l.tail.length → gt l.tail i = gt l (i + 1) := fun i i0 i1 => by
      rw [gt_elem i0 i1, gt_elem (by omega) (by omega), List.getElem_tail]
      congr 1
      omega
    obtain rfl : (shutP (gt l 0).2.rows.toNat (gt l 0).2.width (interB (l.map Prod.snd)), (0 : Int)) = q := by
      rw [← hq]; unfold interS
      rw [if_neg (not_not_intro ha), g0]
    refine calls_wc [] [] [.cell 2 TP, .tmp 3] (fun y : PA => [pvl y (shutP (gt l 0).2.rows.toNat (gt l 0).2.width (interB (l.map Prod.snd))), vi 0]) Try.func80 rfl rfl (fun _ => rfl) Try.ntmps80 rfl (Own.nil w) rfl ?_
    (repeat (first | with_reducible refine thenQ_normal ?_ | with_reducible refine thenQ_exit ?_ | with_reducible refine thenQ_ret ?_ | with_reducible refine blkQ_normal ?_ | with_reducible refine blkQ_ret ?_ | with_reducible refine blkQ_hit ?_ | (with_reducible refine blkQ_miss ?_ ?_; · rfl) | refine wc_seq ?_ | refine wc_skip ?_ | refine wc_block ?_ | refine wc_true rfl ?_ | refine wc_false rfl ?_ | refine wc_exit ?_ | refine wc_ret ?_ | (refine wc_region ?_; repeat (first | refine gp1 (by exact rfl) ?_ | refine gl1 (by exact rfl) ?_ | refine gb1 (by exact rfl) ?_ | refine gi1 (by exact rfl) ?_ | refine gt1 (by exact rfl) ?_)) | refine wl_nil ?_ | refine wq_nil ?_ | refine gp1 (by exact rfl) ?_ | refine gl1 (by exact rfl) ?_ | refine gb1 (by exact rfl) ?_ | refine gi1 (by exact rfl) ?_ | refine gt1 (by exact rfl) ?_ | refine gp2 (by exact rfl) ?_ | refine gl2 (by exact rfl) ?_ | refine gb2 (by exact rfl) ?_ | refine gi2 (by exact rfl) ?_))
    refine wl_op (ok_alloc rfl rfl rfl rfl (ze_of rfl) ?_); intro rb
    (repeat (first | with_reducible refine thenQ_normal ?_ | with_reducible refine thenQ_exit ?_ | with_reducible refine thenQ_ret ?_ | with_reducible refine blkQ_normal ?_ | with_reducible refine blkQ_ret ?_ | with_reducible refine blkQ_hit ?_ | (with_reducible refine blkQ_miss ?_ ?_; · rfl) | refine wc_seq ?_ | refine wc_skip ?_ | refine wc_block ?_ | refine wc_true rfl ?_ | refine wc_false rfl ?_ | refine wc_exit ?_ | refine wc_ret ?_ | (refine wc_region ?_; repeat (first | refine gp1 (by exact rfl) ?_ | refine gl1 (by exact rfl) ?_ | refine gb1 (by exact rfl) ?_ | refine gi1 (by exact rfl) ?_ | refine gt1 (by exact rfl) ?_)) | refine wl_nil ?_ | refine wq_nil ?_ | refine gp1 (by exact rfl) ?_ | refine gl1 (by exact rfl) ?_ | refine gb1 (by exact rfl) ?_ | refine gi1 (by exact rfl) ?_ | refine gt1 (by exact rfl) ?_ | refine gp2 (by exact rfl) ?_ | refine gl2 (by exact rfl) ?_ | refine gb2 (by exact rfl) ?_ | refine gi2 (by exact rfl) ?_))
    refine gc1 (fun w hst => alike_c w (ol.now hst) 0 ha) (by exact rfl) ?_
    (repeat (first | with_reducible refine thenQ_normal ?_ | with_reducible refine thenQ_exit ?_ | with_reducible refine thenQ_ret ?_ | with_reducible refine blkQ_normal ?_ | with_reducible refine blkQ_ret ?_ | with_reducible refine blkQ_hit ?_ | (with_reducible refine blkQ_miss ?_ ?_; · rfl) | refine wc_seq ?_ | refine wc_skip ?_ | refine wc_block ?_ | refine wc_true rfl ?_ | refine wc_false rfl ?_ | refine wc_exit ?_ | refine wc_ret ?_ | (refine wc_region ?_; repeat (first | refine gp1 (by exact rfl) ?_ | refine gl1 (by exact rfl) ?_ | refine gb1 (by exact rfl) ?_ | refine gi1 (by exact rfl) ?_ | refine gt1 (by exact rfl) ?_)) | refine wl_nil ?_ | refine wq_nil ?_ | refine gp1 (by exact rfl) ?_ | refine gl1 (by exact rfl) ?_ | refine gb1 (by exact rfl) ?_ | refine gi1 (by exact rfl) ?_ | refine gt1 (by exact rfl) ?_ | refine gp2 (by exact rfl) ?_ | refine gl2 (by exact rfl) ?_ | refine gb2 (by exact rfl) ?_ | refine gi2 (by exact rfl) ?_))
    refine wl_v rfl rfl rfl (val_ldP (i := 0) ol (by omega) (by omega) rfl rfl) ?_
    refine gc3 [] (fun w hst hst1 => opened_c (p := (gt l 0).2) (x := (gt l 0).1) w (oP0.now hst) (hmay 0 (by omega) (by omega))) (by exact rfl) ?_
    (repeat (first | refine gk1 ?_ | refine gk2 ?_ | refine gk3 ?_ | refine gk0 ?_ | refine gk4 ?_))
    rintro ⟨R, ms⟩ hms
    dsimp only [List.cons_append, List.nil_append] at hms ⊢
    refine wl_op (ok_alloc rfl rfl rfl rfl (ze_of rfl) ?_); intro tb
    (repeat (first | with_reducible refine thenQ_normal ?_ | with_reducible refine thenQ_exit ?_ | with_reducible refine thenQ_ret ?_ | with_reducible refine blkQ_normal ?_ | with_reducible refine blkQ_ret ?_ | with_reducible refine blkQ_hit ?_ | (with_reducible refine blkQ_miss ?_ ?_; · rfl) | refine wc_seq ?_ | refine wc_skip ?_ | refine wc_block ?_ | refine wc_true rfl ?_ | refine wc_false rfl ?_ | refine wc_exit ?_ | refine wc_ret ?_ | (refine wc_region ?_; repeat (first | refine gp1 (by exact rfl) ?_ | refine gl1 (by exact rfl) ?_ | refine gb1 (by exact rfl) ?_ | refine gi1 (by exact rfl) ?_ | refine gt1 (by exact rfl) ?_)) | refine wl_nil ?_ | refine wq_nil ?_ | refine gp1 (by exact rfl) ?_ | refine gl1 (by exact rfl) ?_ | refine gb1 (by exact rfl) ?_ | refine gi1 (by exact rfl) ?_ | refine gt1 (by exact rfl) ?_ | refine gp2 (by exact rfl) ?_ | refine gl2 (by exact rfl) ?_ | refine gb2 (by exact rfl) ?_ | refine gi2 (by exact rfl) ?_))
    refine wl_v rfl rfl rfl (val_tailP ol rfl rfl rfl hpos) ?_
    generalize (if c = 1 then some ad else (some ad).map (·.add 4)) = At at ot
    generalize c - 1 = ct at ot
    rw [← g0, ← interF_one, g0]
    (repeat (first | with_reducible refine thenQ_normal ?_ | with_reducible refine thenQ_exit ?_ | with_reducible refine thenQ_ret ?_ | with_reducible refine blkQ_normal ?_ | with_reducible refine blkQ_ret ?_ | with_reducible refine blkQ_hit ?_ | (with_reducible refine blkQ_miss ?_ ?_; · rfl) | refine wc_seq ?_ | refine wc_skip ?_ | refine wc_block ?_ | refine wc_true rfl ?_ | refine wc_false rfl ?_ | refine wc_exit ?_ | refine wc_ret ?_ | (refine wc_region ?_; repeat (first | refine gp1 (by exact rfl) ?_ | refine gl1 (by exact rfl) ?_ | refine gb1 (by exact rfl) ?_ | refine gi1 (by exact rfl) ?_ | refine gt1 (by exact rfl) ?_)) | refine wl_nil ?_ | refine wq_nil ?_ | refine gp1 (by exact rfl) ?_ | refine gl1 (by exact rfl) ?_ | refine gb1 (by exact rfl) ?_ | refine gi1 (by exact rfl) ?_ | refine gt1 (by exact rfl) ?_ | refine gp2 (by exact rfl) ?_ | refine gl2 (by exact rfl) ?_ | refine gb2 (by exact rfl) ?_ | refine gi2 (by exact rfl) ?_))
    refine glp (fun i : Int => 0 ≤ i ∧ i ≤ l.tail.length) (fun i => [(2, .pointer (some ⟨rb, 0, none⟩)), (5, .pointer (some ⟨tb, 0, none⟩)), (21, .slice At l.tail.length ct), (22, vi l.tail.length), (23, vi i)])
      (fun i => [blk tb [vi (gt l 0).2.width, .slice (some ⟨R, 0, none⟩) ms.length ms.length] TT, Tab R ms (interF (l.map Prod.snd) (1 + i)), blk rb pat0 TP]) (fun i => (l.tail.length - i).toNat) 0 ⟨by omega, by omega⟩ ?_
    rintro i ⟨hi0, hi1⟩
    by_cases hi : i < l.tail.length
    · obtain ⟨at_, hat⟩ := (ot w (Only.refl _ _)).ad (by omega)
      subst hat
      have oP := ot.pat (gt_mem (xs := l.tail) hi0 hi)
      have gi := htg i hi0 hi
      have hmi : May (gt l.tail i).2 := by rw [gi]; exact hmay _ (by omega) (by omega)
      have gi' : gt (l.map Prod.snd) (1 + i) = (gt l.tail i).2 := by rw [gi, snd_gt (by omega) (by omega), Int.add_comm]
      rw [← interM_zero (l := l.map Prod.snd) (i := 1 + i) (by omega)]
      (repeat (first | with_reducible refine thenQ_normal ?_ | with_reducible refine thenQ_exit ?_ | with_reducible refine thenQ_ret ?_ | with_reducible refine blkQ_normal ?_ | with_reducible refine blkQ_ret ?_ | with_reducible refine blkQ_hit ?_ | (with_reducible refine blkQ_miss ?_ ?_; · rfl) | refine wc_seq ?_ | refine wc_skip ?_ | refine wc_block ?_ | refine wc_true rfl ?_ | refine wc_false rfl ?_ | refine wc_exit ?_ | refine wc_ret ?_ | (refine wc_region ?_; repeat (first | refine gp1 (by exact rfl) ?_ | refine gl1 (by exact rfl) ?_ | refine gb1 (by exact rfl) ?_ | refine gi1 (by exact rfl) ?_ | refine gt1 (by exact rfl) ?_)) | refine wl_nil ?_ | refine wq_nil ?_ | refine gp1 (by exact rfl) ?_ | refine gl1 (by exact rfl) ?_ | refine gb1 (by exact rfl) ?_ | refine gi1 (by exact rfl) ?_ | refine gt1 (by exact rfl) ?_ | refine gp2 (by exact rfl) ?_ | refine gl2 (by exact rfl) ?_ | refine gb2 (by exact rfl) ?_ | refine gi2 (by exact rfl) ?_))
      refine wl_v rfl rfl rfl (val_ldP ot hi0 hi rfl rfl) ?_
      refine wl_op (ok_alloc rfl rfl rfl rfl (ze_of rfl) ?_); intro pb
      (repeat (first | with_reducible refine thenQ_normal ?_ | with_reducible refine thenQ_exit ?_ | with_reducible refine thenQ_ret ?_ | with_reducible refine blkQ_normal ?_ | with_reducible refine blkQ_ret ?_ | with_reducible refine blkQ_hit ?_ | (with_reducible refine blkQ_miss ?_ ?_; · rfl) | refine wc_seq ?_ | refine wc_skip ?_ | refine wc_block ?_ | refine wc_true rfl ?_ | refine wc_false rfl ?_ | refine wc_exit ?_ | refine wc_ret ?_ | (refine wc_region ?_; repeat (first | refine gp1 (by exact rfl) ?_ | refine gl1 (by exact rfl) ?_ | refine gb1 (by exact rfl) ?_ | refine gi1 (by exact rfl) ?_ | refine gt1 (by exact rfl) ?_)) | refine wl_nil ?_ | refine wq_nil ?_ | refine gp1 (by exact rfl) ?_ | refine gl1 (by exact rfl) ?_ | refine gb1 (by exact rfl) ?_ | refine gi1 (by exact rfl) ?_ | refine gt1 (by exact rfl) ?_ | refine gp2 (by exact rfl) ?_ | refine gl2 (by exact rfl) ?_ | refine gb2 (by exact rfl) ?_ | refine gi2 (by exact rfl) ?_))
      refine glp (fun r : Nat => r ≤ ms.length) (fun r => [(2, .pointer (some ⟨rb, 0, none⟩)), (5, .pointer (some ⟨tb, 0, none⟩)), (7, .pointer (some ⟨pb, 0, none⟩)), (21, .slice (some at_) l.tail.length ct), (22, vi l.tail.length), (23, vi i), (28, .slice (some ⟨R, 0, none⟩) ms.length ms.length), (29, vi ms.length), (30, vi r)])
        (fun r => [blk tb [vi (gt l 0).2.width, .slice (some ⟨R, 0, none⟩) ms.length ms.length] TT, Tab R ms (interM (l.map Prod.snd) (1 + i) r), blk pb (pcs (gt l.tail i).1 (gt l.tail i).2) TP, blk rb pat0 TP]) (fun r => ms.length - r) 0 (by omega) ?_
      intro r hr
      by_cases hlt : r < ms.length
      · (repeat (first | with_reducible refine thenQ_normal ?_ | with_reducible refine thenQ_exit ?_ | with_reducible refine thenQ_ret ?_ | with_reducible refine blkQ_normal ?_ | with_reducible refine blkQ_ret ?_ | with_reducible refine blkQ_hit ?_ | (with_reducible refine blkQ_miss ?_ ?_; · rfl) | refine wc_seq ?_ | refine wc_skip ?_ | refine wc_block ?_ | refine wc_true rfl ?_ | refine wc_false rfl ?_ | refine wc_exit ?_ | refine wc_ret ?_ | (refine wc_region ?_; repeat (first | refine gp1 (by exact rfl) ?_ | refine gl1 (by exact rfl) ?_ | refine gb1 (by exact rfl) ?_ | refine gi1 (by exact rfl) ?_ | refine gt1 (by exact rfl) ?_)) | refine wl_nil ?_ | refine wq_nil ?_ | refine gp1 (by exact rfl) ?_ | refine gl1 (by exact rfl) ?_ | refine gb1 (by exact rfl) ?_ | refine gi1 (by exact rfl) ?_ | refine gt1 (by exact rfl) ?_ | refine gp2 (by exact rfl) ?_ | refine gl2 (by exact rfl) ?_ | refine gb2 (by exact rfl) ?_ | refine gi2 (by exact rfl) ?_))
        refine wl_op (ok_alloc rfl rfl rfl rfl (ze_of rfl) ?_); intro xb
        (repeat (first | with_reducible refine thenQ_normal ?_ | with_reducible refine thenQ_exit ?_ | with_reducible refine thenQ_ret ?_ | with_reducible refine blkQ_normal ?_ | with_reducible refine blkQ_ret ?_ | with_reducible refine blkQ_hit ?_ | (with_reducible refine blkQ_miss ?_ ?_; · rfl) | refine wc_seq ?_ | refine wc_skip ?_ | refine wc_block ?_ | refine wc_true rfl ?_ | refine wc_false rfl ?_ | refine wc_exit ?_ | refine wc_ret ?_ | (refine wc_region ?_; repeat (first | refine gp1 (by exact rfl) ?_ | refine gl1 (by exact rfl) ?_ | refine gb1 (by exact rfl) ?_ | refine gi1 (by exact rfl) ?_ | refine gt1 (by exact rfl) ?_)) | refine wl_nil ?_ | refine wq_nil ?_ | refine gp1 (by exact rfl) ?_ | refine gl1 (by exact rfl) ?_ | refine gb1 (by exact rfl) ?_ | refine gi1 (by exact rfl) ?_ | refine gt1 (by exact rfl) ?_ | refine gp2 (by exact rfl) ?_ | refine gl2 (by exact rfl) ?_ | refine gb2 (by exact rfl) ?_ | refine gi2 (by exact rfl) ?_))
        refine wl_know (fun w hst => tab_inR (HasR.st (r := Tab R ms (interM (l.map Prod.snd) (1 + i) r)) (by repeat (first | exact .here | refine .there ?_)) hst) r hlt) ?_
        intro hin
        refine wl_hole R ms (interM (l.map Prod.snd) (1 + i) r) r hlt ?_
        (repeat (first | refine gk1 ?_ | refine gk2 ?_ | refine gk3 ?_ | refine gk0 ?_ | refine gk4 ?_))
        refine gc3 [SetR (gt ms (r : Int)) (interM (l.map Prod.snd) (1 + i) r r), blk pb (pcs (gt l.tail i).1 (gt l.tail i).2) TP, blk xb [vi r] TI] (fun w hst hst1 => deleteFunc_c (gt ms (r : Int)) (interM (l.map Prod.snd) (1 + i) r r) (fun y => hasB (gt l.tail i).2 r y) 114 [Value.pointer (some ⟨pb, 0, none⟩), Value.pointer (some ⟨xb, 0, none⟩)] (bod_of rfl) [blk pb (pcs (gt l.tail i).1 (gt l.tail i).2) TP, blk xb [vi r] TI] w hst1.own hin
          (fun y w' _ hw => inter1_c hmi pb xb r y w' hw.own ((oP.later hst1).later hw))) (by exact rfl) ?_
        (repeat (first | refine gk1 ?_ | refine gk2 ?_ | refine gk3 ?_ | refine gk0 ?_ | refine gk4 ?_))
        rintro _ _
        dsimp only [List.cons_append, List.nil_append]
        refine wl_fillHole R ms (interM (l.map Prod.snd) (1 + i) r) r (fun x => interM (l.map Prod.snd) (1 + i) r r x && hasB (gt l.tail i).2 r x) ?_
        (repeat (first | refine gk1 ?_ | refine gk2 ?_ | refine gk3 ?_ | refine gk0 ?_ | refine gk4 ?_))
        rw [← gi', ← interM_step (l := l.map Prod.snd) (i := 1 + i) (r := (r : Int)), show ((r : Int) + 1) = ((r + 1 : Nat) : Int) by omega]
        (repeat (first | with_reducible refine thenQ_normal ?_ | with_reducible refine thenQ_exit ?_ | with_reducible refine thenQ_ret ?_ | with_reducible refine blkQ_normal ?_ | with_reducible refine blkQ_ret ?_ | with_reducible refine blkQ_hit ?_ | (with_reducible refine blkQ_miss ?_ ?_; · rfl) | refine wc_seq ?_ | refine wc_skip ?_ | refine wc_block ?_ | refine wc_true rfl ?_ | refine wc_false rfl ?_ | refine wc_exit ?_ | refine wc_ret ?_ | (refine wc_region ?_; repeat (first | refine gp1 (by exact rfl) ?_ | refine gl1 (by exact rfl) ?_ | refine gb1 (by exact rfl) ?_ | refine gi1 (by exact rfl) ?_ | refine gt1 (by exact rfl) ?_)) | refine wl_nil ?_ | refine wq_nil ?_ | refine gp1 (by exact rfl) ?_ | refine gl1 (by exact rfl) ?_ | refine gb1 (by exact rfl) ?_ | refine gi1 (by exact rfl) ?_ | refine gt1 (by exact rfl) ?_ | refine gp2 (by exact rfl) ?_ | refine gl2 (by exact rfl) ?_ | refine gb2 (by exact rfl) ?_ | refine gi2 (by exact rfl) ?_))
        exact gnx (r + 1) (by omega) (by omega)
      · obtain rfl : r = ms.length := by omega
        rw [hms, ← g0, interM_end (l := l.map Prod.snd) (i := 1 + i) (by omega), g0, Int.add_assoc]
        (repeat (first | with_reducible refine thenQ_normal ?_ | with_reducible refine thenQ_exit ?_ | with_reducible refine thenQ_ret ?_ | with_reducible refine blkQ_normal ?_ | with_reducible refine blkQ_ret ?_ | with_reducible refine blkQ_hit ?_ | (with_reducible refine blkQ_miss ?_ ?_; · rfl) | refine wc_seq ?_ | refine wc_skip ?_ | refine wc_block ?_ | refine wc_true rfl ?_ | refine wc_false rfl ?_ | refine wc_exit ?_ | refine wc_ret ?_ | (refine wc_region ?_; repeat (first | refine gp1 (by exact rfl) ?_ | refine gl1 (by exact rfl) ?_ | refine gb1 (by exact rfl) ?_ | refine gi1 (by exact rfl) ?_ | refine gt1 (by exact rfl) ?_)) | refine wl_nil ?_ | refine wq_nil ?_ | refine gp1 (by exact rfl) ?_ | refine gl1 (by exact rfl) ?_ | refine gb1 (by exact rfl) ?_ | refine gi1 (by exact rfl) ?_ | refine gt1 (by exact rfl) ?_ | refine gp2 (by exact rfl) ?_ | refine gl2 (by exact rfl) ?_ | refine gb2 (by exact rfl) ?_ | refine gi2 (by exact rfl) ?_))
        exact gnx (i + 1) ⟨by omega, by omega⟩ (by omega)
    · have e : (1 : Int) + i = ((l.map Prod.snd).length : Nat) := by rw [hlen]; omega
      rw [e, interF_all]
      (repeat (first | with_reducible refine thenQ_normal ?_ | with_reducible refine thenQ_exit ?_ | with_reducible refine thenQ_ret ?_ | with_reducible refine blkQ_normal ?_ | with_reducible refine blkQ_ret ?_ | with_reducible refine blkQ_hit ?_ | (with_reducible refine blkQ_miss ?_ ?_; · rfl) | refine wc_seq ?_ | refine wc_skip ?_ | refine wc_block ?_ | refine wc_true rfl ?_ | refine wc_false rfl ?_ | refine wc_exit ?_ | refine wc_ret ?_ | (refine wc_region ?_; repeat (first | refine gp1 (by exact rfl) ?_ | refine gl1 (by exact rfl) ?_ | refine gb1 (by exact rfl) ?_ | refine gi1 (by exact rfl) ?_ | refine gt1 (by exact rfl) ?_)) | refine wl_nil ?_ | refine wq_nil ?_ | refine gp1 (by exact rfl) ?_ | refine gl1 (by exact rfl) ?_ | refine gb1 (by exact rfl) ?_ | refine gi1 (by exact rfl) ?_ | refine gt1 (by exact rfl) ?_ | refine gp2 (by exact rfl) ?_ | refine gl2 (by exact rfl) ?_ | refine gb2 (by exact rfl) ?_ | refine gi2 (by exact rfl) ?_))
      refine gc3 [Tab R ms (interB (l.map Prod.snd))] (fun w hst hst1 => shut_c (S := interB (l.map Prod.snd)) (width := (gt l 0).2.width) w hst1.own (by omega)) (by exact rfl) ?_
      (repeat (first | refine gk1 ?_ | refine gk2 ?_ | refine gk3 ?_ | refine gk0 ?_ | refine gk4 ?_))
      rintro y _
      dsimp only [List.cons_append, List.nil_append]
      rw [nat_cast_toNat hms]
      (repeat (first | with_reducible refine thenQ_normal ?_ | with_reducible refine thenQ_exit ?_ | with_reducible refine thenQ_ret ?_ | with_reducible refine blkQ_normal ?_ | with_reducible refine blkQ_ret ?_ | with_reducible refine blkQ_hit ?_ | (with_reducible refine blkQ_miss ?_ ?_; · rfl) | refine wc_seq ?_ | refine wc_skip ?_ | refine wc_block ?_ | refine wc_true rfl ?_ | refine wc_false rfl ?_ | refine wc_exit ?_ | refine wc_ret ?_ | (refine wc_region ?_; repeat (first | refine gp1 (by exact rfl) ?_ | refine gl1 (by exact rfl) ?_ | refine gb1 (by exact rfl) ?_ | refine gi1 (by exact rfl) ?_ | refine gt1 (by exact rfl) ?_)) | refine wl_nil ?_ | refine wq_nil ?_ | refine gp1 (by exact rfl) ?_ | refine gl1 (by exact rfl) ?_ | refine gb1 (by exact rfl) ?_ | refine gi1 (by exact rfl) ?_ | refine gt1 (by exact rfl) ?_ | refine gp2 (by exact rfl) ?_ | refine gl2 (by exact rfl) ?_ | refine gb2 (by exact rfl) ?_ | refine gi2 (by exact rfl) ?_))
      exact grt y trivial
  · obtain rfl : (zP, alikeS (l.map Prod.snd)) = q := by
      rw [← hq]; unfold interS
      rw [if_pos ha]
    generalize hE : alikeS (l.map Prod.snd) = E at ha
    refine calls_wc [] [] [.cell 2 TP, .tmp 3] (fun y : PA => [pvl y zP, vi E]) Try.func80 rfl rfl (fun _ => rfl) Try.ntmps80 rfl (Own.nil w) rfl ?_
    refine gnil ?_
    refine gnil ?_
    (repeat (first | with_reducible refine thenQ_normal ?_ | with_reducible refine thenQ_exit ?_ | with_reducible refine thenQ_ret ?_ | with_reducible refine blkQ_normal ?_ | with_reducible refine blkQ_ret ?_ | with_reducible refine blkQ_hit ?_ | (with_reducible refine blkQ_miss ?_ ?_; · rfl) | refine wc_seq ?_ | refine wc_skip ?_ | refine wc_block ?_ | refine wc_true rfl ?_ | refine wc_false rfl ?_ | refine wc_exit ?_ | refine wc_ret ?_ | (refine wc_region ?_; repeat (first | refine gp1 (by exact rfl) ?_ | refine gl1 (by exact rfl) ?_ | refine gb1 (by exact rfl) ?_ | refine gi1 (by exact rfl) ?_ | refine gt1 (by exact rfl) ?_)) | refine wl_nil ?_ | refine wq_nil ?_ | refine gp1 (by exact rfl) ?_ | refine gl1 (by exact rfl) ?_ | refine gb1 (by exact rfl) ?_ | refine gi1 (by exact rfl) ?_ | refine gt1 (by exact rfl) ?_ | refine gp2 (by exact rfl) ?_ | refine gl2 (by exact rfl) ?_ | refine gb2 (by exact rfl) ?_ | refine gi2 (by exact rfl) ?_))
    refine wl_op (ok_alloc rfl rfl rfl rfl (ze_of rfl) ?_); intro rb
    (repeat (first | with_reducible refine thenQ_normal ?_ | with_reducible refine thenQ_exit ?_ | with_reducible refine thenQ_ret ?_ | with_reducible refine blkQ_normal ?_ | with_reducible refine blkQ_ret ?_ | with_reducible refine blkQ_hit ?_ | (with_reducible refine blkQ_miss ?_ ?_; · rfl) | refine wc_seq ?_ | refine wc_skip ?_ | refine wc_block ?_ | refine wc_true rfl ?_ | refine wc_false rfl ?_ | refine wc_exit ?_ | refine wc_ret ?_ | (refine wc_region ?_; repeat (first | refine gp1 (by exact rfl) ?_ | refine gl1 (by exact rfl) ?_ | refine gb1 (by exact rfl) ?_ | refine gi1 (by exact rfl) ?_ | refine gt1 (by exact rfl) ?_)) | refine wl_nil ?_ | refine wq_nil ?_ | refine gp1 (by exact rfl) ?_ | refine gl1 (by exact rfl) ?_ | refine gb1 (by exact rfl) ?_ | refine gi1 (by exact rfl) ?_ | refine gt1 (by exact rfl) ?_ | refine gp2 (by exact rfl) ?_ | refine gl2 (by exact rfl) ?_ | refine gb2 (by exact rfl) ?_ | refine gi2 (by exact rfl) ?_))
    refine gc1 (fun w hst => alike_c w (ol.now hst) E hE) (by exact rfl) ?_
    (repeat (first | with_reducible refine thenQ_normal ?_ | with_reducible refine thenQ_exit ?_ | with_reducible refine thenQ_ret ?_ | with_reducible refine blkQ_normal ?_ | with_reducible refine blkQ_ret ?_ | with_reducible refine blkQ_hit ?_ | (with_reducible refine blkQ_miss ?_ ?_; · rfl) | refine wc_seq ?_ | refine wc_skip ?_ | refine wc_block ?_ | refine wc_true rfl ?_ | refine wc_false rfl ?_ | refine wc_exit ?_ | refine wc_ret ?_ | (refine wc_region ?_; repeat (first | refine gp1 (by exact rfl) ?_ | refine gl1 (by exact rfl) ?_ | refine gb1 (by exact rfl) ?_ | refine gi1 (by exact rfl) ?_ | refine gt1 (by exact rfl) ?_)) | refine wl_nil ?_ | refine wq_nil ?_ | refine gp1 (by exact rfl) ?_ | refine gl1 (by exact rfl) ?_ | refine gb1 (by exact rfl) ?_ | refine gi1 (by exact rfl) ?_ | refine gt1 (by exact rfl) ?_ | refine gp2 (by exact rfl) ?_ | refine gl2 (by exact rfl) ?_ | refine gb2 (by exact rfl) ?_ | refine gi2 (by exact rfl) ?_))
    exact grt PA.nil trivial
end
end Go.Proofs.Ytofngbaefbbeiaa
