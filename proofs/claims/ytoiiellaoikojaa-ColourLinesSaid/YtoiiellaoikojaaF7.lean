/- Walks: a Given object as one piece; the law ColourGraphs. -/
import Derived.Test.YtoiiellaoikojaaF6
import Derived.Test.YtoiiellaoikojaaF1
import Derived.Test.YtoiiellaoikojaaT24
set_option linter.unusedVariables false
set_option linter.unusedSimpArgs false
set_option maxHeartbeats 8000000
namespace Go.Proofs.Ytoiiellaoikojaa
open Go.RowKit
/-- many pieces as one -/
def bun (l : List Res) : Res := ⟨l.flatMap Res.fp, fun w => ∀ r ∈ l, r.ok w, fun w w' h ho r hr => r.st w w' (fun b hb => h b (List.mem_flatMap.2 ⟨r, hr, hb⟩)) (ho r hr)⟩
theorem bun_fp (l : List Res) : [bun l].flatMap Res.fp = l.flatMap Res.fp := by simp [bun]
section
variable {w0 w : World} {D : List Nat} {σ l : List Res}
theorem bun_in (h : St w0 D (l ++ σ) w) : St w0 D (bun l :: σ) w := by
  refine ⟨h.only, fun r hr => ?_, fun r hr b hb => ?_, fun r hr b hb => ?_, ?_⟩
  · rcases List.mem_cons.1 hr with rfl | hr
    · exact fun q hq => h.ok q (List.mem_append_left _ hq)
    · exact h.ok r (List.mem_append_right _ hr)
  · rcases List.mem_cons.1 hr with rfl | hr
    · obtain ⟨q, hq, hb⟩ := List.mem_flatMap.1 hb
      exact h.lt q (List.mem_append_left _ hq) b hb
    · exact h.lt r (List.mem_append_right _ hr) b hb
  · rcases List.mem_cons.1 hr with rfl | hr
    · obtain ⟨q, hq, hb⟩ := List.mem_flatMap.1 hb
      exact h.new q (List.mem_append_left _ hq) b hb
    · exact h.new r (List.mem_append_right _ hr) b hb
  · have := h.nd
    rw [List.flatMap_append] at this
    exact this
theorem bun_out (h : St w0 D (bun l :: σ) w) : St w0 D (l ++ σ) w := by
  refine ⟨h.only, fun r hr => ?_, fun r hr b hb => ?_, fun r hr b hb => ?_, ?_⟩
  · rcases List.mem_append.1 hr with hr | hr
    · exact h.ok (bun l) List.mem_cons_self r hr
    · exact h.ok r (List.mem_cons_of_mem _ hr)
  · rcases List.mem_append.1 hr with hr | hr
    · exact h.lt (bun l) List.mem_cons_self b (List.mem_flatMap.2 ⟨r, hr, hb⟩)
    · exact h.lt r (List.mem_cons_of_mem _ hr) b hb
  · rcases List.mem_append.1 hr with hr | hr
    · exact h.new (bun l) List.mem_cons_self b (List.mem_flatMap.2 ⟨r, hr, hb⟩)
    · exact h.new r (List.mem_cons_of_mem _ hr) b hb
  · have := h.nd
    rw [List.flatMap_cons] at this
    rw [List.flatMap_append]
    exact this
theorem Ret.bun {α : Type} {vf : α → Value} {ρ : α → List Res} {φ : α → Prop} {e : Ending} {w' : World} (h : Ret l vf ρ φ w e w') : Ret [bun l] vf (fun x => [Go.Proofs.Ytoiiellaoikojaa.bun (ρ x)]) φ w e w' := by
  obtain ⟨x, h1, h2, h3, h4, h5, h6⟩ := h
  refine ⟨x, h1, h2, by rw [bun_fp]; exact h3, fun r hr => ?_, by rw [bun_fp, bun_fp]; exact h5, by rw [bun_fp]; exact h6⟩
  rw [List.mem_singleton.1 hr]
  exact h4
theorem grB {r : Res} (hst : St w0 D σ w) (hr : r ∈ l) (h : HasR σ (bun l) := by (repeat (first | exact .here | refine .there ?_)) <;> fail) : r.ok w := (h.st hst) r hr
end
theorem bun_out1 {w0 w : World} {D : List Nat} {l : List Res} (h : St w0 D [bun l] w) : St w0 D l w := by
  have := bun_out h
  rwa [List.append_nil] at this
section
variable {P : Program} {n : Nat} {w0 : World} {D : List Nat} {Γ : Tm} {σ : List Res} {ops : Array Oper} {os : List Oper} {Q : QQ}
theorem wl_bun (l : List Res) (h : SubK l σ (fun σ' => WL P n w0 D ops os Q Γ (bun l :: σ'))) : WL P n w0 D ops os Q Γ σ := by
  obtain ⟨rest, hp, h⟩ := h
  exact .mk fun a w hs hst => h.run a w hs (bun_in (hst.perm hp))
/-- a Given object at its birth -/
theorem wl_giv {g : Nat} (h : SubK [blk g (gvC none 0 0 none 0 0) TG, osl TIs sv none 0 [], osl TIs sv none 0 []] σ (fun σ' => WL P n w0 D ops os Q Γ (bun (Giv g ⟨none, 0, none, 0, []⟩) :: σ'))) : WL P n w0 D ops os Q Γ σ := wl_bun (Giv g ⟨none, 0, none, 0, []⟩) h
end
section
variable {p : Pat} {x : PA} {g : Nat}
theorem gpat_c (s : GS) (w : World) (hp : RdPO w ((Giv g s).flatMap Res.fp) x p) (hl : p.start.length ≤ 17592186043904) (hl2 : p.cols.length ≤ 17592186043904) (he : s.es.length ≤ 900) (hw : Own (Giv g s) w) :
    Calls Try.prog 13 [.pointer (some ⟨g, 0, none⟩), pvl x p].toArray w (Ret [bun (Giv g s)] (fun y : GS × GE × GE => pvl ⟨y.2.1.A, y.2.1.c, y.2.2.A, y.2.2.c⟩ p) (fun y => [bun (Giv g y.1)]) (fun y => y.1.es = s.es ++ [y.2.1, y.2.2] ∧ y.2.1.xs = p.start ++ gMarks ∧ y.2.2.xs = p.cols ++ gMarks) w) :=
  (givenPattern_c (p := p) s w hp.s hp.c hl hl2 he hw).mono fun e w' h => h.bun
theorem gintact_c (s : GS) (w : World) (he : s.es.length ≤ 1000) (hw : Own (Giv g s) w) :
    Calls Try.prog 20 [.pointer (some ⟨g, 0, none⟩)].toArray w (Ret [bun (Giv g s)] (fun _ : Unit => .bool true) (fun _ => [bun (Giv g s)]) (fun _ => True) w) :=
  (intact_c s w he hw).mono fun e w' h => h.bun
/-- a given pattern reads so -/
theorem grdG {w0 w : World} {D : List Nat} {σ : List Res} {s : GS} {e1 e2 : GE} (hst : St w0 D σ w) (h1 : e1 ∈ s.es) (h2 : e2 ∈ s.es) (x1 : e1.xs = p.start ++ gMarks) (x2 : e2.xs = p.cols ++ gMarks) (h : HasR σ (bun (Giv g s)) := by (repeat (first | exact .here | refine .there ?_)) <;> fail) : RdP w ⟨e1.A, e1.c, e2.A, e2.c⟩ p := by
  have q1 := grB hst (Giv.mem (g := g) h1).1 h
  have q2 := grB hst (Giv.mem (g := g) h2).1 h
  rw [x1] at q1
  rw [x2] at q2
  exact ⟨(osl_reads q1).pre, (osl_reads q2).pre⟩
theorem num_c (e : Int) (w : World) : Calls Try.prog 18 [vi e].toArray w (one (vi e) w) := by
  refine calls_wc [] [] [.tmp 2] (fun _ => [vi e]) Try.func18 rfl rfl (fun _ => rfl) Try.ntmps18 rfl (Own.nil w) rfl ?_
  refine gg ?_
  exact grt () trivial
theorem lawColourGraphs_c (w : World) (hp : RdP w x p) (hl : p.start.length ≤ 17592186043904) (hl2 : p.cols.length ≤ 17592186043904) :
    Calls Try.prog 3 [pvl x p].toArray w (one (.bool true) w) := by
  have op := hp.old
  unfold pvl patV
  refine calls_wc [] [] [.tmp 2] (fun _ => [.bool true]) Try.func3 rfl rfl (fun _ => rfl) Try.ntmps3 rfl (Own.nil w) rfl ?_
  refine gg ?_
  refine wl_op (ok_box rfl rfl rfl rfl rfl ?_); intro bp
  refine wl_none TIs sv ?_
  refine wl_none TIs sv ?_
  refine gg ?_
  refine wl_op (ok_alloc rfl rfl rfl rfl (ze_of rfl) ?_); intro g
  refine wl_giv (g := g) ?_
  (repeat (first | refine gk1 ?_ | refine gk2 ?_ | refine gk3 ?_ | refine gk0 ?_ | refine gk4 ?_))
  refine gg ?_
  refine gc3 [bun (Giv g ⟨none, 0, none, 0, []⟩)] (fun w hst hst1 => gpat_c (p := p) (x := x) ⟨none, 0, none, 0, []⟩ w (op.later (bun_out1 hst1)) hl hl2 (by simp) (bun_out1 hst1).own) (by exact rfl) ?_
  (repeat (first | refine gk1 ?_ | refine gk2 ?_ | refine gk3 ?_ | refine gk0 ?_ | refine gk4 ?_))
  rintro ⟨z1, e1, f1⟩ ⟨h1a, h1b, h1c⟩
  dsimp only [List.cons_append, List.nil_append] at h1a h1b h1c ⊢
  have me1 : e1 ∈ z1.es := by rw [h1a]; simp
  have mf1 : f1 ∈ z1.es := by rw [h1a]; simp
  refine gc3 [] (fun w hst hst1 => columns_c (p := p) (x := ⟨e1.A, e1.c, f1.A, f1.c⟩) w (grdG hst me1 mf1 h1b h1c)) (by exact rfl) ?_
  (repeat (first | refine gk1 ?_ | refine gk2 ?_ | refine gk3 ?_ | refine gk0 ?_ | refine gk4 ?_))
  rintro y1 _
  dsimp only [List.cons_append, List.nil_append]
  refine gg ?_
  refine wl_op (ok_alloc rfl rfl rfl rfl (ze_of rfl) ?_); intro q4
  refine gg ?_
  refine gc3 [] (fun w hst hst1 => refLines_c (p := p) (x := x) w (op.now hst) false (colsS p) rfl) (by exact rfl) ?_
  (repeat (first | refine gk1 ?_ | refine gk2 ?_ | refine gk3 ?_ | refine gk0 ?_ | refine gk4 ?_))
  rintro x1 _
  dsimp only [List.cons_append, List.nil_append]
  refine gg ?_
  refine wl_op (ok_alloc rfl rfl rfl rfl (ze_of rfl) ?_); intro q6
  refine gg ?_
  refine gc3 [bun (Giv g z1)] (fun w hst hst1 => gpat_c (p := p) (x := x) z1 w (op.later (bun_out1 hst1)) hl hl2 (by rw [h1a]; simp) (bun_out1 hst1).own) (by exact rfl) ?_
  (repeat (first | refine gk1 ?_ | refine gk2 ?_ | refine gk3 ?_ | refine gk0 ?_ | refine gk4 ?_))
  rintro ⟨z2, e2, f2⟩ ⟨h2a, h2b, h2c⟩
  dsimp only [List.cons_append, List.nil_append] at h2a h2b h2c ⊢
  have me2 : e2 ∈ z2.es := by rw [h2a]; simp
  have mf2 : f2 ∈ z2.es := by rw [h2a]; simp
  refine gc3 [] (fun w hst hst1 => colRows_c (p := p) (x := ⟨e2.A, e2.c, f2.A, f2.c⟩) w (grdG hst me2 mf2 h2b h2c)) (by exact rfl) ?_
  (repeat (first | refine gk1 ?_ | refine gk2 ?_ | refine gk3 ?_ | refine gk0 ?_ | refine gk4 ?_))
  rintro y2 _
  dsimp only [List.cons_append, List.nil_append]
  refine gg ?_
  refine wl_op (ok_alloc rfl rfl rfl rfl (ze_of rfl) ?_); intro q8
  refine gg ?_
  refine gc3 [] (fun w hst hst1 => refLines_c (p := p) (x := x) w (op.now hst) true (rowsS p) rfl) (by exact rfl) ?_
  (repeat (first | refine gk1 ?_ | refine gk2 ?_ | refine gk3 ?_ | refine gk0 ?_ | refine gk4 ?_))
  rintro x2 _
  dsimp only [List.cons_append, List.nil_append]
  refine gg ?_
  refine wl_op (ok_alloc rfl rfl rfl rfl (ze_of rfl) ?_); intro q10
  refine gg ?_
  refine gc3 [bun (Giv g z2)] (fun w hst hst1 => gpat_c (p := p) (x := x) z2 w (op.later (bun_out1 hst1)) hl hl2 (by rw [h2a, h1a]; simp) (bun_out1 hst1).own) (by exact rfl) ?_
  (repeat (first | refine gk1 ?_ | refine gk2 ?_ | refine gk3 ?_ | refine gk0 ?_ | refine gk4 ?_))
  rintro ⟨z3, e3, f3⟩ ⟨h3a, h3b, h3c⟩
  dsimp only [List.cons_append, List.nil_append] at h3a h3b h3c ⊢
  have me3 : e3 ∈ z3.es := by rw [h3a]; simp
  have mf3 : f3 ∈ z3.es := by rw [h3a]; simp
  refine gc3 [] (fun w hst hst1 => near_c (p := p) (x := ⟨e3.A, e3.c, f3.A, f3.c⟩) w (grdG hst me3 mf3 h3b h3c)) (by exact rfl) ?_
  (repeat (first | refine gk1 ?_ | refine gk2 ?_ | refine gk3 ?_ | refine gk0 ?_ | refine gk4 ?_))
  rintro y3 _
  dsimp only [List.cons_append, List.nil_append]
  refine gg ?_
  refine wl_op (ok_alloc rfl rfl rfl rfl (ze_of rfl) ?_); intro q12
  refine gg ?_
  refine gc3 [] (fun w hst hst1 => refNear_c (p := p) (x := x) w (op.now hst)) (by exact rfl) ?_
  (repeat (first | refine gk1 ?_ | refine gk2 ?_ | refine gk3 ?_ | refine gk0 ?_ | refine gk4 ?_))
  rintro x3 _
  dsimp only [List.cons_append, List.nil_append]
  refine gg ?_
  refine wl_op (ok_alloc rfl rfl rfl rfl (ze_of rfl) ?_); intro q14
  refine gg ?_
  refine gc1 (fun w hst => num_c _ w) (by exact rfl) ?_
  refine gg ?_
  refine gc1 (fun w hst => num_c _ w) (by exact rfl) ?_
  refine gg ?_
  refine gc1 (fun w hst => num_c _ w) (by exact rfl) ?_
  refine gg ?_
  refine gc1 (fun w hst => samePattern_c (p := (colsS p).1) (q := (colsS p).1) (x := y1) (y := x1) w (grdP hst) (grdP hst) true (by simp)) (by exact rfl) ?_
  refine gg ?_
  refine gc1 (fun w hst => samePattern_c (p := (rowsS p).1) (q := (rowsS p).1) (x := y2) (y := x2) w (grdP hst) (grdP hst) true (by simp)) (by exact rfl) ?_
  refine gg ?_
  refine gc1 (fun w hst => samePattern_c (p := (nearS p).1) (q := (nearS p).1) (x := y3) (y := x3) w (grdP hst) (grdP hst) true (by simp)) (by exact rfl) ?_
  refine gg ?_
  refine gc3 [bun (Giv g z3)] (fun w hst hst1 => gintact_c z3 w (by rw [h3a, h2a, h1a]; simp) (bun_out1 hst1).own) (by exact rfl) ?_
  (repeat (first | refine gk1 ?_ | refine gk2 ?_ | refine gk3 ?_ | refine gk0 ?_ | refine gk4 ?_))
  rintro _ _
  dsimp only [List.cons_append, List.nil_append]
  refine gg ?_
  exact grt () trivial
end
end Go.Proofs.Ytoiiellaoikojaa
