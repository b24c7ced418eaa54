/- Walks: the law's own copies: Given.Ints, Given.Pattern. Walks: the law's own copies: Given.Pattern. Walks: the law's own copies are intact: Given.whole, Given.Intact. -/
import Derived.Test.YtoiiellaoikojaaTB
set_option linter.unusedVariables false
set_option linter.unusedSimpArgs false
set_option maxHeartbeats 8000000
namespace Go.Proofs.Ytoiiellaoikojaa
open Go.RowKit
section
variable {P : Program} {n : Nat} {w0 : World} {D : List Nat} {ops : Array Oper} {Γ : Tm} {σ : List Res}
/-- a region that draws; nothing is held -/
theorem wa_begin0 {Q : QQ} {id : Nat} (hm : P.follows .mixedOrders = true) (h : WA P n w0 D [] ops Q ops.size (Array.replicate ops.size false) Γ σ) : WC P n w0 D (.region id ops true) Q Γ σ := .mk fun a w hs hst =>
  wp_region_held hm (h.run a _ hs (hst.same (Only.drew [] w)))
theorem any0 : ∃ τ, σ = τ ++ [] := ⟨σ, (List.append_nil _).symm⟩
theorem ok_ld {o : Oper} {K : Tm → List Res → Prop} {t : TypeId} {x : Operand} {pv : Value} {b : Bool} (hop : o.op = .load t x) (hg : gd Γ ops o = some true) {dd : Nat} (hd : o.dst = some dd) (hdn : Nat.blt dd n = true) (hx : ev Γ x = some pv) (hb : agg? P t = some b)
    (h : LD P w0 D σ t b pv (fun v => K ((dd, v) :: Γ) σ)) : OpOK P n w0 D ops o K Γ σ := by
  obtain ⟨v, h1, h2⟩ := h.run
  exact ok_val hg hd hdn (val_of_ld hop hx h1) h2
theorem addr_add0 (a : Addr) : a.add 0 = a := by unfold Addr.add; simp
theorem val_pre {o : Oper} {α : Type} {f : α → Value} {A : Option Addr} {c : Nat} {xs : List α} {t e : TypeId} {x h : Operand} {hi : Int} (hop : o.op = .slice t x none (some h) none) (hx : ev Γ x = some (.slice A xs.length c)) (hh : ev Γ h = some (.int .i64 hi))
    (hr : ∀ w, St w0 D σ w → Rds f w A c xs) (ht : elem? P t = some e) (hs : size? P e = some 1) (h1 : 0 ≤ hi) (h2 : hi ≤ xs.length) :
    ValOK P w0 D σ Γ o (.slice A hi.toNat c) := by
  refine ⟨fun w hst g hg => ?_⟩
  have hlc := (hr w hst).1
  have e1 : 0 ≤ hi ∧ hi ≤ (c : Int) := by omega
  have e3 : (0 : Int) ≤ max hi 0 := by omega
  have hA : A.map (·.add 0) = A := by cases A <;> simp [addr_add0]
  simp [execOp, hop, hg _ _ hx, hg _ _ hh, Instr.sliceAt, Instr.slice, run_underlying (elem?_spec ht), Instr.sliceBounds, Instr.sliceBound, asIntOf, e1, e3, run_sizeOf' hs, Result.andThen, hA]
theorem Rds.pre {α : Type} {f : α → Value} {A : Option Addr} {c : Nat} {xs ys : List α} {w : World} (h : Rds f w A c (xs ++ ys)) : Rds f w A c xs := by
  obtain ⟨h1, h2, h3⟩ := h
  rw [List.length_append] at h1
  refine ⟨by omega, h2, fun hn => ?_⟩
  obtain ⟨ad, e, hc⟩ := h3 (by rw [List.length_append]; omega)
  refine ⟨ad, e, fun j hj => ?_⟩
  rw [hc j (by rw [List.length_append]; omega)]
  simp [List.getElem?_append_left hj, List.getElem_append_left hj]
end

abbrev TG : TypeId := 36
abbrev TIss : TypeId := 27
abbrev SV := Option Addr × Nat × Nat
def sv (x : SV) : Value := .slice x.1 x.2.1 x.2.2
/-- a list that was handed in: it and its copy -/
structure GE where
  A : Option Addr
  c : Nat
  B : Option Addr
  d : Nat
  xs : List Int
abbrev GE.a (e : GE) : SV := (e.A, e.xs.length, e.c)
abbrev GE.b (e : GE) : SV := (e.B, e.xs.length, e.d)
structure GS where
  I : Option Addr
  i : Nat
  J : Option Addr
  j : Nat
  es : List GE
abbrev nilS : Value := .slice none 0 0
abbrev gvC (I : Option Addr) (n i : Nat) (J : Option Addr) (m j : Nat) : List Value := [nilS, nilS, nilS, nilS, .slice I n i, .slice J m j, nilS, nilS, nilS, nilS, nilS, nilS, nilS, nilS, nilS, nilS, nilS, nilS, nilS, nilS]
abbrev GE.res (e : GE) : List Res := [osl TI vi e.A e.c e.xs, osl TI vi e.B e.d e.xs]
def Giv (g : Nat) (x : GS) : List Res :=
  blk g (gvC x.I (x.es.map GE.a).length x.i x.J (x.es.map GE.b).length x.j) TG :: osl TIs sv x.I x.i (x.es.map GE.a) :: osl TIs sv x.J x.j (x.es.map GE.b) :: x.es.flatMap GE.res
def gMarks : List Int := [-41, -42, -43]
theorem permI {α : Type _} (a b c d e f g h : α) (l : List α) : (f :: g :: h :: (l ++ ([e, b] ++ [])) ++ [a, c, d]).Perm (a :: b :: c :: d :: e :: f :: g :: h :: l) := by
  classical
  refine List.perm_iff_count.2 fun x => ?_
  simp only [List.count_cons, List.count_append, List.count_nil]
  ac_rfl
theorem ints_c {A : Option Addr} {c : Nat} {xs : List Int} {g : Nat} (x : GS) (w : World) (hA : RdO vi w ((Giv g x).flatMap Res.fp) A c xs) (hl : xs.length ≤ 17592186043904) (he : x.es.length ≤ 1000) (hw : Own (Giv g x) w) :
    Calls Try.prog 22 [.pointer (some ⟨g, 0, none⟩), .slice A xs.length c].toArray w (Ret (Giv g x) (fun y : GS × GE => .slice y.2.A xs.length y.2.c) (fun y => Giv g y.1) (fun y => y.1.es = x.es ++ [y.2] ∧ y.2.xs = xs ++ gMarks) w) := by
  obtain ⟨I, i, J, j, es⟩ := x
  refine calls_wc ((Giv g ⟨I, i, J, j, es⟩).flatMap Res.fp) (Giv g ⟨I, i, J, j, es⟩) [.tmp 4] (fun y : GS × GE => [.slice y.2.A xs.length y.2.c]) Try.func22 rfl rfl (fun _ => rfl) Try.ntmps22 rfl hw rfl ?_
  unfold Giv
  dsimp only at he ⊢
  refine gg ?_
  refine wl_callr [] _ (fun w hst => copyInts_c w (hA.now hst) (by omega)) (by rfl) (by rfl) (bod_of rfl) (by rfl) (by rfl) (by rfl) (List.Perm.refl _) ?_
  intro b0 _
  refine gg ?_
  refine wl_op (ok_buildSlice vi gMarks (ps := [(0, vi (-41)), (1, vi (-42)), (2, vi (-43))]) rfl rfl rfl rfl rfl (el_of rfl) (ze_of rfl) (sz_of rfl) rfl (by decide) (by decide) (by kernel_rfl) ?_)
  intro b1
  refine wl_op (ok_append 1 vi (ys := gMarks) rfl rfl rfl rfl rfl rfl rfl (el_of rfl) (ze_of rfl) rfl (sz_of rfl) (by_of rfl) ⟨_, rfl⟩ (fun w hst => osl_reads (hst.at_ 0 rfl)) (fun _ => rfl) (by simp only [gMarks, List.length_cons, List.length_nil]; omega) (by simp only [gMarks, List.length_cons, List.length_nil]; omega) ?_)
  intro A1 c1
  have hlen : (xs ++ gMarks).length = xs.length + 3 := by simp [gMarks]
  refine gg ?_
  refine wl_op (ok_build1 sv (A1, (xs ++ gMarks).length, c1) rfl rfl rfl rfl rfl (el_of rfl) (ze_of rfl) rfl (sz_of rfl) rfl ?_)
  intro b2
  refine wl_op (ok_append 4 sv (ys := [(A1, (xs ++ gMarks).length, c1)]) rfl rfl rfl rfl rfl rfl rfl (el_of rfl) (ze_of rfl) rfl (sz_of rfl) (by_of rfl) ⟨_, rfl⟩ (fun w hst => osl_reads (hst.at_ 0 rfl)) (fun _ => rfl) (by simp; omega) (by simp; omega) ?_)
  intro I' i'
  refine gg ?_
  refine wa_begin0 mixed ?_
  (first | refine ga1 0 (by exact rfl) (by exact rfl) ?_ | refine ga2 0 (by exact rfl) (by exact rfl) ?_ | refine ga3 0 (by exact rfl) (by exact rfl) ?_ | refine ga4 0 (by exact rfl) (by exact rfl) ?_)
  (first | refine ga1 1 (by exact rfl) (by exact rfl) ?_ | refine ga2 1 (by exact rfl) (by exact rfl) ?_ | refine ga3 1 (by exact rfl) (by exact rfl) ?_ | refine ga4 1 (by exact rfl) (by exact rfl) ?_)
  (first | refine ga1 2 (by exact rfl) (by exact rfl) ?_ | refine ga2 2 (by exact rfl) (by exact rfl) ?_ | refine ga3 2 (by exact rfl) (by exact rfl) ?_ | refine ga4 2 (by exact rfl) (by exact rfl) ?_)
  (first | refine ga1 3 (by exact rfl) (by exact rfl) ?_ | refine ga2 3 (by exact rfl) (by exact rfl) ?_ | refine ga3 3 (by exact rfl) (by exact rfl) ?_ | refine ga4 3 (by exact rfl) (by exact rfl) ?_)
  (first | refine ga1 5 (by exact rfl) (by exact rfl) ?_ | refine ga2 5 (by exact rfl) (by exact rfl) ?_ | refine ga3 5 (by exact rfl) (by exact rfl) ?_ | refine ga4 5 (by exact rfl) (by exact rfl) ?_)
  refine wa_two 4 6 rfl rfl (by kernel_rfl) ?_ ?_
  · refine ok_ld rfl rfl rfl rfl rfl (ag_of rfl) ?_
    refine ld_blk 3 rfl (ag_of rfl) rfl ?_
    refine ⟨any0, ?_⟩
    refine wa_one 6 rfl (by kernel_rfl) ?_
    refine ok_call [] _ rfl (by rfl) (bod_of rfl) (by rfl) (by rfl) (by rfl) (List.Perm.refl _) (fun w hst => copyInts_c w (osl_reads (hst.at_ 2 rfl)) (by omega)) ?_
    intro b3 _
    refine ⟨any0, ?_⟩
    refine wa_one 7 rfl (by kernel_rfl) ?_
    refine ok_build1 sv (some ⟨b3, 0, none⟩, (xs ++ gMarks).length, (xs ++ gMarks).length + 3) rfl rfl rfl rfl rfl (el_of rfl) (ze_of rfl) rfl (sz_of rfl) rfl ?_
    intro b4
    refine ⟨any0, ?_⟩
    refine wa_one 8 rfl (by kernel_rfl) ?_
    refine ok_append 7 sv (ys := [(some ⟨b3, 0, none⟩, (xs ++ gMarks).length, (xs ++ gMarks).length + 3)]) rfl rfl rfl rfl rfl rfl rfl (el_of rfl) (ze_of rfl) rfl (sz_of rfl) (by_of rfl) ⟨_, rfl⟩ (fun w hst => osl_reads (hst.at_ 0 rfl)) (fun _ => rfl) (by simp; omega) (by simp; omega) ?_
    intro J' j'
    refine ⟨any0, ?_⟩
    (first | refine ga1 9 (by exact rfl) (by exact rfl) ?_ | refine ga2 9 (by exact rfl) (by exact rfl) ?_ | refine ga3 9 (by exact rfl) (by exact rfl) ?_ | refine ga4 9 (by exact rfl) (by exact rfl) ?_)
    (first | refine ga1 10 (by exact rfl) (by exact rfl) ?_ | refine ga2 10 (by exact rfl) (by exact rfl) ?_ | refine ga3 10 (by exact rfl) (by exact rfl) ?_ | refine ga4 10 (by exact rfl) (by exact rfl) ?_)
    refine wa_one 11 rfl (by kernel_rfl) ?_
    refine ok_store 5 rfl rfl rfl rfl rfl rfl rfl rfl (sz_of rfl) rfl ?_
    refine ⟨any0, ?_⟩
    refine wa_done (by kernel_rfl) ?_
    refine gg ?_
    refine wl_v rfl rfl rfl (val_pre rfl rfl rfl (fun w hst => osl_reads (hst.at_ 4 rfl)) (el_of rfl) (sz_of rfl) (by omega) (by omega)) ?_
    refine gg ?_
    refine ⟨(⟨I', i', J', j', es ++ [⟨A1, c1, some ⟨b3, 0, none⟩, (xs ++ gMarks).length + 3, xs ++ gMarks⟩]⟩, ⟨A1, c1, some ⟨b3, 0, none⟩, (xs ++ gMarks).length + 3, xs ++ gMarks⟩), [osl TIs sv (some ⟨b4, 0, none⟩) 1 [(some ⟨b3, 0, none⟩, (xs ++ gMarks).length, (xs ++ gMarks).length + 3)], osl TIs sv (some ⟨b2, 0, none⟩) 1 [(A1, (xs ++ gMarks).length, c1)], osl TI vi (some ⟨b1, 0, none⟩) 3 gMarks], .cons (rv_tmp (look_to rfl (by simp))) .nil, ⟨rfl, rfl⟩, ?_⟩
    dsimp only
    simp only [List.map_append, List.flatMap_append, List.map_cons, List.map_nil, List.flatMap_cons, List.flatMap_nil]
    exact permI _ _ _ _ _ _ _ _ _
  · refine ok_call [] _ rfl (by rfl) (bod_of rfl) (by rfl) (by rfl) (by rfl) (List.Perm.refl _) (fun w hst => copyInts_c w (osl_reads (hst.at_ 2 rfl)) (by omega)) ?_
    intro b3 _
    refine ⟨any0, ?_⟩
    refine wa_two 4 7 rfl rfl (by kernel_rfl) ?_ ?_
    · refine ok_ld rfl rfl rfl rfl rfl (ag_of rfl) ?_
      refine ld_blk 4 rfl (ag_of rfl) rfl ?_
      refine ⟨any0, ?_⟩
      refine wa_one 7 rfl (by kernel_rfl) ?_
      refine ok_build1 sv (some ⟨b3, 0, none⟩, (xs ++ gMarks).length, (xs ++ gMarks).length + 3) rfl rfl rfl rfl rfl (el_of rfl) (ze_of rfl) rfl (sz_of rfl) rfl ?_
      intro b4
      refine ⟨any0, ?_⟩
      refine wa_one 8 rfl (by kernel_rfl) ?_
      refine ok_append 7 sv (ys := [(some ⟨b3, 0, none⟩, (xs ++ gMarks).length, (xs ++ gMarks).length + 3)]) rfl rfl rfl rfl rfl rfl rfl (el_of rfl) (ze_of rfl) rfl (sz_of rfl) (by_of rfl) ⟨_, rfl⟩ (fun w hst => osl_reads (hst.at_ 0 rfl)) (fun _ => rfl) (by simp; omega) (by simp; omega) ?_
      intro J' j'
      refine ⟨any0, ?_⟩
      (first | refine ga1 9 (by exact rfl) (by exact rfl) ?_ | refine ga2 9 (by exact rfl) (by exact rfl) ?_ | refine ga3 9 (by exact rfl) (by exact rfl) ?_ | refine ga4 9 (by exact rfl) (by exact rfl) ?_)
      (first | refine ga1 10 (by exact rfl) (by exact rfl) ?_ | refine ga2 10 (by exact rfl) (by exact rfl) ?_ | refine ga3 10 (by exact rfl) (by exact rfl) ?_ | refine ga4 10 (by exact rfl) (by exact rfl) ?_)
      refine wa_one 11 rfl (by kernel_rfl) ?_
      refine ok_store 5 rfl rfl rfl rfl rfl rfl rfl rfl (sz_of rfl) rfl ?_
      refine ⟨any0, ?_⟩
      refine wa_done (by kernel_rfl) ?_
      refine gg ?_
      refine wl_v rfl rfl rfl (val_pre rfl rfl rfl (fun w hst => osl_reads (hst.at_ 4 rfl)) (el_of rfl) (sz_of rfl) (by omega) (by omega)) ?_
      refine gg ?_
      refine ⟨(⟨I', i', J', j', es ++ [⟨A1, c1, some ⟨b3, 0, none⟩, (xs ++ gMarks).length + 3, xs ++ gMarks⟩]⟩, ⟨A1, c1, some ⟨b3, 0, none⟩, (xs ++ gMarks).length + 3, xs ++ gMarks⟩), [osl TIs sv (some ⟨b4, 0, none⟩) 1 [(some ⟨b3, 0, none⟩, (xs ++ gMarks).length, (xs ++ gMarks).length + 3)], osl TIs sv (some ⟨b2, 0, none⟩) 1 [(A1, (xs ++ gMarks).length, c1)], osl TI vi (some ⟨b1, 0, none⟩) 3 gMarks], .cons (rv_tmp (look_to rfl (by simp))) .nil, ⟨rfl, rfl⟩, ?_⟩
      dsimp only
      simp only [List.map_append, List.flatMap_append, List.map_cons, List.map_nil, List.flatMap_cons, List.flatMap_nil]
      exact permI _ _ _ _ _ _ _ _ _
    · refine ok_build1 sv (some ⟨b3, 0, none⟩, (xs ++ gMarks).length, (xs ++ gMarks).length + 3) rfl rfl rfl rfl rfl (el_of rfl) (ze_of rfl) rfl (sz_of rfl) rfl ?_
      intro b4
      refine ⟨any0, ?_⟩
      refine wa_one 4 rfl (by kernel_rfl) ?_
      refine ok_ld rfl rfl rfl rfl rfl (ag_of rfl) ?_
      refine ld_blk 5 rfl (ag_of rfl) rfl ?_
      refine ⟨any0, ?_⟩
      refine wa_one 8 rfl (by kernel_rfl) ?_
      refine ok_append 7 sv (ys := [(some ⟨b3, 0, none⟩, (xs ++ gMarks).length, (xs ++ gMarks).length + 3)]) rfl rfl rfl rfl rfl rfl rfl (el_of rfl) (ze_of rfl) rfl (sz_of rfl) (by_of rfl) ⟨_, rfl⟩ (fun w hst => osl_reads (hst.at_ 0 rfl)) (fun _ => rfl) (by simp; omega) (by simp; omega) ?_
      intro J' j'
      refine ⟨any0, ?_⟩
      (first | refine ga1 9 (by exact rfl) (by exact rfl) ?_ | refine ga2 9 (by exact rfl) (by exact rfl) ?_ | refine ga3 9 (by exact rfl) (by exact rfl) ?_ | refine ga4 9 (by exact rfl) (by exact rfl) ?_)
      (first | refine ga1 10 (by exact rfl) (by exact rfl) ?_ | refine ga2 10 (by exact rfl) (by exact rfl) ?_ | refine ga3 10 (by exact rfl) (by exact rfl) ?_ | refine ga4 10 (by exact rfl) (by exact rfl) ?_)
      refine wa_one 11 rfl (by kernel_rfl) ?_
      refine ok_store 5 rfl rfl rfl rfl rfl rfl rfl rfl (sz_of rfl) rfl ?_
      refine ⟨any0, ?_⟩
      refine wa_done (by kernel_rfl) ?_
      refine gg ?_
      refine wl_v rfl rfl rfl (val_pre rfl rfl rfl (fun w hst => osl_reads (hst.at_ 4 rfl)) (el_of rfl) (sz_of rfl) (by omega) (by omega)) ?_
      refine gg ?_
      refine ⟨(⟨I', i', J', j', es ++ [⟨A1, c1, some ⟨b3, 0, none⟩, (xs ++ gMarks).length + 3, xs ++ gMarks⟩]⟩, ⟨A1, c1, some ⟨b3, 0, none⟩, (xs ++ gMarks).length + 3, xs ++ gMarks⟩), [osl TIs sv (some ⟨b4, 0, none⟩) 1 [(some ⟨b3, 0, none⟩, (xs ++ gMarks).length, (xs ++ gMarks).length + 3)], osl TIs sv (some ⟨b2, 0, none⟩) 1 [(A1, (xs ++ gMarks).length, c1)], osl TI vi (some ⟨b1, 0, none⟩) 3 gMarks], .cons (rv_tmp (look_to rfl (by simp))) .nil, ⟨rfl, rfl⟩, ?_⟩
      dsimp only
      simp only [List.map_append, List.flatMap_append, List.map_cons, List.map_nil, List.flatMap_cons, List.flatMap_nil]
      exact permI _ _ _ _ _ _ _ _ _
section
variable {P : Program} {n : Nat} {w0 : World} {D : List Nat} {ops : Array Oper} {Γ : Tm} {σ : List Res}
theorem ok_perm {o : Oper} {K : Tm → List Res → Prop} {σ' : List Res} (hp : σ'.Perm σ) (h : OpOK P n w0 D ops o K Γ σ') : OpOK P n w0 D ops o K Γ σ :=
  ⟨fun a w hs hst => h.run a w hs (hst.perm hp)⟩
theorem wa_perm {Q : QQ} {σS σ' : List Res} {fuel : Nat} {listed : Array Bool} (hp : σ'.Perm σ) (h : WA P n w0 D σS ops Q fuel listed Γ σ') : WA P n w0 D σS ops Q fuel listed Γ σ :=
  ⟨fun a w hs hst => h.run a w hs (hst.perm hp)⟩
end
theorem permA {α : Type _} (r b : α) (l : List α) : (l ++ [r, b]).Perm ((r :: l) ++ [b]) := by
  rw [show l ++ [r, b] = (l ++ [r]) ++ [b] by simp]
  exact (List.perm_append_singleton r l).append_right [b]
abbrev patC (p : Pat) (A : Option Addr) (c : Nat) (B : Option Addr) (d : Nat) : List Value := [vi p.rows, vi p.width, .slice A p.start.length c, .slice B p.cols.length d]
theorem givenPattern_c {p : Pat} {A B : Option Addr} {c d g : Nat} (x : GS) (w : World) (hA : RdO vi w ((Giv g x).flatMap Res.fp) A c p.start) (hB : RdO vi w ((Giv g x).flatMap Res.fp) B d p.cols) (hl : p.start.length ≤ 17592186043904) (hl2 : p.cols.length ≤ 17592186043904) (he : x.es.length ≤ 900) (hw : Own (Giv g x) w) :
    Calls Try.prog 13 [.pointer (some ⟨g, 0, none⟩), patV p A c B d].toArray w (Ret (Giv g x) (fun y : GS × GE × GE => patV p y.2.1.A y.2.1.c y.2.2.A y.2.2.c) (fun y => Giv g y.1) (fun y => y.1.es = x.es ++ [y.2.1, y.2.2] ∧ y.2.1.xs = p.start ++ gMarks ∧ y.2.2.xs = p.cols ++ gMarks) w) := by
  unfold patV
  refine calls_wc ((Giv g x).flatMap Res.fp) (Giv g x) [.cell 4 TP] (fun y : GS × GE × GE => [.agg (patC p y.2.1.A y.2.1.c y.2.2.A y.2.2.c).toArray]) Try.func13 rfl rfl (fun _ => rfl) Try.ntmps13 rfl hw rfl ?_
  refine gg ?_
  refine wl_op (ok_box rfl rfl rfl rfl rfl ?_); intro bp
  refine wl_op (ok_alloc rfl rfl rfl rfl (ze_of rfl) ?_); intro rb
  refine gg ?_
  refine wc_perm (σ' := (blk rb [vi 0, vi 0, nilS, nilS] TP :: Giv g x) ++ [blk bp (patC p A c B d) TP]) ?_ ?_
  · exact (List.Perm.cons _ (List.perm_append_singleton _ _))
  refine wa_beginS _ _ rfl mixed ?_
  (first | refine ga1 0 (by exact rfl) (by exact rfl) ?_ | refine ga2 0 (by exact rfl) (by exact rfl) ?_ | refine ga3 0 (by exact rfl) (by exact rfl) ?_ | refine ga4 0 (by exact rfl) (by exact rfl) ?_)
  (first | refine ga1 1 (by exact rfl) (by exact rfl) ?_ | refine ga2 1 (by exact rfl) (by exact rfl) ?_ | refine ga3 1 (by exact rfl) (by exact rfl) ?_ | refine ga4 1 (by exact rfl) (by exact rfl) ?_)
  (first | refine ga1 2 (by exact rfl) (by exact rfl) ?_ | refine ga2 2 (by exact rfl) (by exact rfl) ?_ | refine ga3 2 (by exact rfl) (by exact rfl) ?_ | refine ga4 2 (by exact rfl) (by exact rfl) ?_)
  (first | refine ga1 3 (by exact rfl) (by exact rfl) ?_ | refine ga2 3 (by exact rfl) (by exact rfl) ?_ | refine ga3 3 (by exact rfl) (by exact rfl) ?_ | refine ga4 3 (by exact rfl) (by exact rfl) ?_)
  (first | refine ga1 4 (by exact rfl) (by exact rfl) ?_ | refine ga2 4 (by exact rfl) (by exact rfl) ?_ | refine ga3 4 (by exact rfl) (by exact rfl) ?_ | refine ga4 4 (by exact rfl) (by exact rfl) ?_)
  (first | refine ga1 5 (by exact rfl) (by exact rfl) ?_ | refine ga2 5 (by exact rfl) (by exact rfl) ?_ | refine ga3 5 (by exact rfl) (by exact rfl) ?_ | refine ga4 5 (by exact rfl) (by exact rfl) ?_)
  (first | refine ga1 6 (by exact rfl) (by exact rfl) ?_ | refine ga2 6 (by exact rfl) (by exact rfl) ?_ | refine ga3 6 (by exact rfl) (by exact rfl) ?_ | refine ga4 6 (by exact rfl) (by exact rfl) ?_)
  (first | refine ga1 8 (by exact rfl) (by exact rfl) ?_ | refine ga2 8 (by exact rfl) (by exact rfl) ?_ | refine ga3 8 (by exact rfl) (by exact rfl) ?_ | refine ga4 8 (by exact rfl) (by exact rfl) ?_)
  (first | refine ga1 9 (by exact rfl) (by exact rfl) ?_ | refine ga2 9 (by exact rfl) (by exact rfl) ?_ | refine ga3 9 (by exact rfl) (by exact rfl) ?_ | refine ga4 9 (by exact rfl) (by exact rfl) ?_)
  (first | refine ga1 10 (by exact rfl) (by exact rfl) ?_ | refine ga2 10 (by exact rfl) (by exact rfl) ?_ | refine ga3 10 (by exact rfl) (by exact rfl) ?_ | refine ga4 10 (by exact rfl) (by exact rfl) ?_)
  refine wa_one 7 rfl (by kernel_rfl) ?_
  refine ok_call (Giv g x) [blk rb [vi 0, vi 0, nilS, nilS] TP, blk bp (patC p A c B d) TP] rfl (by rfl) (bod_of rfl) (by rfl) (by rfl) (by rfl) (permA _ _ _) (fun w hst => ints_c x w (hA.later (St.keep (hst.perm (permA _ _ _)))) hl (by omega) (hst.perm (permA _ _ _)).ownl) ?_
  rintro ⟨y, e1⟩ ⟨hy1, hy2⟩
  dsimp only at hy1 hy2 ⊢
  refine ⟨⟨Giv g y ++ [blk rb [vi 0, vi 0, nilS, nilS] TP], by simp⟩, ?_⟩
  refine wa_perm (permA _ _ _).symm ?_
  refine wa_one 11 rfl (by kernel_rfl) ?_
  refine ok_call (Giv g y) [blk rb [vi 0, vi 0, nilS, nilS] TP, blk bp (patC p A c B d) TP] rfl (by rfl) (bod_of rfl) (by rfl) (by rfl) (by rfl) (permA _ _ _) (fun w hst => ints_c y w (hB.later (St.keep (hst.perm (permA _ _ _)))) hl2 (by rw [hy1, List.length_append, List.length_singleton]; omega) (hst.perm (permA _ _ _)).ownl) ?_
  rintro ⟨z, e2⟩ ⟨hz1, hz2⟩
  dsimp only at hz1 hz2 ⊢
  refine ⟨⟨Giv g z ++ [blk rb [vi 0, vi 0, nilS, nilS] TP], by simp⟩, ?_⟩
  refine wa_perm (permA _ _ _).symm ?_
  refine wa_v 12 _ rfl (by kernel_rfl) rfl rfl rfl rfl (val_build (ps := [(0, vi p.rows), (1, vi p.width), (2, .slice e1.A p.start.length e1.c), (3, .slice e2.A p.cols.length e2.c)]) (cells := patC p e1.A e1.c e2.A e2.c) rfl rfl (by kernel_rfl)) ?_
  refine wa_one 13 rfl (by kernel_rfl) ?_
  refine ok_store 0 rfl rfl rfl rfl rfl rfl rfl rfl (sz_of rfl) rfl ?_
  refine ⟨⟨_ :: Giv g z, rfl⟩, ?_⟩
  refine wa_done (by kernel_rfl) ?_
  refine gg ?_
  refine ⟨(z, e1, e2), [blk rb (patC p e1.A e1.c e2.A e2.c) TP, blk bp (patC p A c B d) TP], .cons (rv_agg 0 rfl rfl (ag_of rfl) (sz_of rfl) rfl rfl) .nil, ⟨?_, hy2, hz2⟩, permA _ _ _⟩
  dsimp only
  rw [hz1, hy1, List.append_assoc]
  rfl
theorem whole_c {g : Nat} (x : GS) (w : World) (hw : Own (Giv g x) w) :
    Calls Try.prog 59 [.pointer (some ⟨g, 0, none⟩)].toArray w (Ret (Giv g x) (fun _ : Unit => .bool true) (fun _ => Giv g x) (fun _ => True) w) := by
  refine calls_wc ((Giv g x).flatMap Res.fp) (Giv g x) [.tmp 2] (fun _ : Unit => [.bool true]) Try.func59 rfl rfl (fun _ => rfl) Try.ntmps59 rfl hw rfl ?_
  refine gg ?_
  refine wc_loop (fun _ : Unit => True) (fun _ => [(0, .pointer (some ⟨g, 0, none⟩)), (3, vi 0)]) (fun _ => Giv g x) (fun _ => 0) () trivial (.cons rfl (.cons rfl .nil)) rfl ?_
  intro _ _
  refine gg ?_
  refine wc_loop (fun _ : Unit => True) (fun _ => [(0, .pointer (some ⟨g, 0, none⟩)), (4, vi 0)]) (fun _ => Giv g x) (fun _ => 0) () trivial (.cons rfl (.cons rfl .nil)) rfl ?_
  intro _ _
  refine gg ?_
  refine wc_loop (fun _ : Unit => True) (fun _ => [(0, .pointer (some ⟨g, 0, none⟩)), (5, vi 0)]) (fun _ => Giv g x) (fun _ => 0) () trivial (.cons rfl (.cons rfl .nil)) rfl ?_
  intro _ _
  refine gg ?_
  refine wc_loop (fun _ : Unit => True) (fun _ => [(0, .pointer (some ⟨g, 0, none⟩)), (9, vi 0)]) (fun _ => Giv g x) (fun _ => 0) () trivial (.cons rfl (.cons rfl .nil)) rfl ?_
  intro _ _
  refine gg ?_
  exact ⟨(), [], .cons (rv_tmp rfl) .nil, trivial, by simp [cat]⟩
theorem Giv.mem {g : Nat} {x : GS} {e : GE} (h : e ∈ x.es) : osl TI vi e.A e.c e.xs ∈ Giv g x ∧ osl TI vi e.B e.d e.xs ∈ Giv g x := by
  unfold Giv
  constructor <;>
    exact List.mem_cons_of_mem _ (List.mem_cons_of_mem _ (List.mem_cons_of_mem _ (List.mem_flatMap.2 ⟨e, h, by simp⟩)))
theorem gt_map_a {es : List GE} {k : Nat} (h : k < es.length) : gt (es.map GE.a) (k : Int) = GE.a es[k] ∧ gt (es.map GE.b) (k : Int) = GE.b es[k] := by
  constructor <;> simp [gt, List.getElem?_eq_getElem h]
theorem intact_c {g : Nat} (x : GS) (w : World) (he : x.es.length ≤ 1000) (hw : Own (Giv g x) w) :
    Calls Try.prog 20 [.pointer (some ⟨g, 0, none⟩)].toArray w (Ret (Giv g x) (fun _ : Unit => .bool true) (fun _ => Giv g x) (fun _ => True) w) := by
  have l1 : (x.es.map GE.a).length = x.es.length := List.length_map _
  have l2 : (x.es.map GE.b).length = x.es.length := List.length_map _
  refine calls_wc ((Giv g x).flatMap Res.fp) (Giv g x) [.tmp 2] (fun _ : Unit => [.bool true]) Try.func20 rfl rfl (fun _ => rfl) Try.ntmps20 rfl hw rfl ?_
  refine gg ?_
  refine wc_loop (fun _ : Unit => True) (fun _ => [(0, .pointer (some ⟨g, 0, none⟩)), (3, vi 0)]) (fun _ => Giv g x) (fun _ => 0) () trivial (.cons rfl (.cons rfl .nil)) rfl ?_
  intro _ _
  refine gg ?_
  refine wc_loop (fun _ : Unit => True) (fun _ => [(0, .pointer (some ⟨g, 0, none⟩)), (4, vi 0)]) (fun _ => Giv g x) (fun _ => 0) () trivial (.cons rfl (.cons rfl .nil)) rfl ?_
  intro _ _
  refine gg ?_
  refine wc_loop (fun k : Nat => k ≤ x.es.length) (fun k => [(0, .pointer (some ⟨g, 0, none⟩)), (5, vi k)]) (fun _ => Giv g x) (fun k => x.es.length - k) 0 (by omega) (.cons rfl (.cons rfl .nil)) rfl ?_
  intro k hk
  by_cases hkl : k < x.es.length
  · obtain ⟨ga, gb⟩ := gt_map_a hkl
    have hm := Giv.mem (g := g) (List.getElem_mem hkl)
    have hc : ∀ w', St w ((Giv g x).flatMap Res.fp) (Giv g x) w' → Calls Try.prog 24 [sv (gt (x.es.map GE.a) (k : Int)), sv (gt (x.es.map GE.b) (k : Int))].toArray w' (one (.bool true) w') := fun w' hst => by
      rw [ga, gb]
      exact sameInts_c w' (osl_reads (hst.ok _ hm.1)) (osl_reads (hst.ok _ hm.2)) true (by simp)
    refine gg ?_
    refine wc_quiet mixed (by kernel_rfl) ?_
    refine gg ?_
    refine gc2 (hc) (by exact rfl) ?_
    refine gg ?_
    exact ⟨k + 1, by omega, .cons rfl (.cons (look_to rfl (by simp [vi])) .nil), rfl, by omega⟩
  obtain rfl : k = x.es.length := by omega
  refine gg ?_
  refine wc_loop (fun _ : Unit => True) (fun _ => [(0, .pointer (some ⟨g, 0, none⟩)), (6, vi 0)]) (fun _ => Giv g x) (fun _ => 0) () trivial (.cons rfl (.cons rfl .nil)) rfl ?_
  intro _ _
  refine gg ?_
  refine wc_loop (fun _ : Unit => True) (fun _ => [(0, .pointer (some ⟨g, 0, none⟩)), (7, vi 0)]) (fun _ => Giv g x) (fun _ => 0) () trivial (.cons rfl (.cons rfl .nil)) rfl ?_
  intro _ _
  refine gg ?_
  refine wc_loop (fun _ : Unit => True) (fun _ => [(0, .pointer (some ⟨g, 0, none⟩)), (8, vi 0)]) (fun _ => Giv g x) (fun _ => 0) () trivial (.cons rfl (.cons rfl .nil)) rfl ?_
  intro _ _
  refine gg ?_
  refine wl_callr (Giv g x) [] (fun w hst => whole_c x w hst.own) (by rfl) (by rfl) (bod_of rfl) (by rfl) (by rfl) (by rfl) (by simp) ?_
  intro _ _
  refine gg ?_
  exact ⟨(), [], .cons (rv_tmp rfl) .nil, trivial, by simp [cat]⟩
end Go.Proofs.Ytoiiellaoikojaa
