/- Walks: the law's own copies: Given.Ints, Given.Pattern. -/
import Derived.Test.YtofngbaefbbeiaaT8
set_option linter.unusedVariables false
set_option linter.unusedSimpArgs false
set_option maxHeartbeats 8000000
namespace Go.Proofs.Ytofngbaefbbeiaa
open Go.RowKit
section
variable {P : Program} {n : Nat} {w0 : World} {D : List Nat} {ops : Array Oper} {Γ : Tm} {σ : List Res}
/-- a region that draws; nothing is held -/
theorem wa_begin0 {Q : QQ} {id : Nat} (hm : P.follows .mixedOrders = true) (h : WA P n w0 D [] ops Q ops.size (Array.replicate ops.size false) Γ σ) : WC P n w0 D (.region id ops true) Q Γ σ := .mk fun a w hs hst =>
  wp_region_held hm (h.run a _ hs (hst.same (Only.drew [] w)))
theorem any0 : ∃ τ, σ = τ ++ [] := ⟨σ, (List.append_nil _).symm⟩
theorem ok_ld {o : Oper} {K : Tm → List Res → Prop} {t : TypeId} {x : Operand} {pv : Value} {b : Bool} (hop : o.op = .load t x) (hg : gd Γ ops o = some true) {dd : Nat} (hd : o.dst = some dd) (hdn : Nat.blt dd n = true) (hx : ev Γ x = some pv) (hb : agg? P t = some b)
    (h : LD P w0 D σ t b pv (fun v => K ((dd, v) :: Γ) σ)) : OpOK P n w0 D ops o K Γ σ := by
  obtain ⟨v, h1, h2⟩ := h.run
  exact ok_val hg hd hdn (val_of_ld hop hx h1) h2
theorem addr_add0 (a : Addr) : a.add 0 = a := by unfold Addr.add; simp
theorem val_pre {o : Oper} {α : Type} {f : α → Value} {A : Option Addr} {c : Nat} {xs : List α} {t e : TypeId} {x h : Operand} {hi : Int} (hop : o.op = .slice t x none (some h) none) (hx : ev Γ x = some (.slice A xs.length c)) (hh : ev Γ h = some (.int .i64 hi))
    (hr : ∀ w, St w0 D σ w → Rds f w A c xs) (ht : elem? P t = some e) (hs : size? P e = some 1) (h1 : 0 ≤ hi) (h2 : hi ≤ xs.length) :
    ValOK P w0 D σ Γ o (.slice A hi.toNat c) := by
  refine ⟨fun w hst g hg => ?_⟩
  have hlc := (hr w hst).1
  have e1 : 0 ≤ hi ∧ hi ≤ (c : Int) := by omega
  have e3 : (0 : Int) ≤ max hi 0 := by omega
  have hA : A.map (·.add 0) = A := by cases A <;> simp [addr_add0]
  simp [execOp, hop, hg _ _ hx, hg _ _ hh, Instr.sliceAt, Instr.slice, run_underlying (elem?_spec ht), Instr.sliceBounds, Instr.sliceBound, asIntOf, e1, e3, run_sizeOf' hs, Result.andThen, hA]
theorem Rds.pre {α : Type} {f : α → Value} {A : Option Addr} {c : Nat} {xs ys : List α} {w : World} (h : Rds f w A c (xs ++ ys)) : Rds f w A c xs := by
  obtain ⟨h1, h2, h3⟩ := h
  rw [List.length_append] at h1
  refine ⟨by omega, h2, fun hn => ?_⟩
  obtain ⟨ad, e, hc⟩ := h3 (by rw [List.length_append]; omega)
  refine ⟨ad, e, fun j hj => ?_⟩
  rw [hc j (by rw [List.length_append]; omega)]
  simp [List.getElem?_append_left hj, List.getElem_append_left hj]
end

abbrev TG : TypeId := 37
abbrev TIss : TypeId := 28
abbrev SV := Option Addr × Nat × Nat
def sv (x : SV) : Value := .slice x.1 x.2.1 x.2.2
/-- a list that was handed in: it and its copy -/
structure GE where
  A : Option Addr
  c : Nat
  B : Option Addr
  d : Nat
  xs : List Int
abbrev GE.a (e : GE) : SV := (e.A, e.xs.length, e.c)
abbrev GE.b (e : GE) : SV := (e.B, e.xs.length, e.d)
structure GS where
  I : Option Addr
  i : Nat
  J : Option Addr
  j : Nat
  es : List GE
abbrev nilS : Value := .slice none 0 0
abbrev gvC (I : Option Addr) (n i : Nat) (J : Option Addr) (m j : Nat) : List Value := [nilS, nilS, nilS, nilS, .slice I n i, .slice J m j, nilS, nilS, nilS, nilS, nilS, nilS, nilS, nilS, nilS, nilS, nilS, nilS, nilS, nilS]
abbrev GE.res (e : GE) : List Res := [osl TI vi e.A e.c e.xs, osl TI vi e.B e.d e.xs]
def Giv (g : Nat) (x : GS) : List Res :=
  blk g (gvC x.I (x.es.map GE.a).length x.i x.J (x.es.map GE.b).length x.j) TG :: osl TIs sv x.I x.i (x.es.map GE.a) :: osl TIs sv x.J x.j (x.es.map GE.b) :: x.es.flatMap GE.res
def gMarks : List Int := [-41, -42, -43]
theorem permI {α : Type _} (a b c d e f g h : α) (l : List α) : (f :: g :: h :: (l ++ ([e, b] ++ [])) ++ [a, c, d]).Perm (a :: b :: c :: d :: e :: f :: g :: h :: l) := by
  classical
  refine List.perm_iff_count.2 fun x => ?_
  simp only [List.count_cons, List.count_append, List.count_nil]
  ac_rfl
theorem ints_c {A : Option Addr} {c : Nat} {xs : List Int} {g : Nat} (x : GS) (w : World) (hA : RdO vi w ((Giv g x).flatMap Res.fp) A c xs) (hl : xs.length ≤ 17592186043904) (he : x.es.length ≤ 1000) (hw : Own (Giv g x) w) :
    Calls Try.prog 21 [.pointer (some ⟨g, 0, none⟩), .slice A xs.length c].toArray w (Ret (Giv g x) (fun y : GS × GE => .slice y.2.A xs.length y.2.c) (fun y => Giv g y.1) (fun y => y.1.es = x.es ++ [y.2] ∧ y.2.xs = xs ++ gMarks) w) := by
  obtain ⟨I, i, J, j, es⟩ := x
  refine calls_wc ((Giv g ⟨I, i, J, j, es⟩).flatMap Res.fp) (Giv g ⟨I, i, J, j, es⟩) [.tmp 4] (fun y : GS × GE => [.slice y.2.A xs.length y.2.c]) Try.func21 rfl rfl (fun _ => rfl) Try.ntmps21 rfl hw rfl ?_
  unfold Giv
  dsimp only at he ⊢
  (repeat (first | with_reducible refine thenQ_normal ?_ | with_reducible refine thenQ_exit ?_ | with_reducible refine thenQ_ret ?_ | with_reducible refine blkQ_normal ?_ | with_reducible refine blkQ_ret ?_ | with_reducible refine blkQ_hit ?_ | (with_reducible refine blkQ_miss ?_ ?_; · rfl) | refine wc_seq ?_ | refine wc_skip ?_ | refine wc_block ?_ | refine wc_true rfl ?_ | refine wc_false rfl ?_ | refine wc_exit ?_ | refine wc_ret ?_ | (refine wc_region ?_; repeat (first | refine gp1 (by exact rfl) ?_ | refine gl1 (by exact rfl) ?_ | refine gb1 (by exact rfl) ?_ | refine gi1 (by exact rfl) ?_ | refine gt1 (by exact rfl) ?_)) | refine wl_nil ?_ | refine wq_nil ?_ | refine gp1 (by exact rfl) ?_ | refine gl1 (by exact rfl) ?_ | refine gb1 (by exact rfl) ?_ | refine gi1 (by exact rfl) ?_ | refine gt1 (by exact rfl) ?_ | refine gp2 (by exact rfl) ?_ | refine gl2 (by exact rfl) ?_ | refine gb2 (by exact rfl) ?_ | refine gi2 (by exact rfl) ?_))
  refine wl_callr [] _ (fun w hst => copyInts_c w (hA.now hst) (by omega)) (by rfl) (by rfl) (bod_of rfl) (by rfl) (by rfl) (by rfl) (List.Perm.refl _) ?_
  intro b0 _
  (repeat (first | with_reducible refine thenQ_normal ?_ | with_reducible refine thenQ_exit ?_ | with_reducible refine thenQ_ret ?_ | with_reducible refine blkQ_normal ?_ | with_reducible refine blkQ_ret ?_ | with_reducible refine blkQ_hit ?_ | (with_reducible refine blkQ_miss ?_ ?_; · rfl) | refine wc_seq ?_ | refine wc_skip ?_ | refine wc_block ?_ | refine wc_true rfl ?_ | refine wc_false rfl ?_ | refine wc_exit ?_ | refine wc_ret ?_ | (refine wc_region ?_; repeat (first | refine gp1 (by exact rfl) ?_ | refine gl1 (by exact rfl) ?_ | refine gb1 (by exact rfl) ?_ | refine gi1 (by exact rfl) ?_ | refine gt1 (by exact rfl) ?_)) | refine wl_nil ?_ | refine wq_nil ?_ | refine gp1 (by exact rfl) ?_ | refine gl1 (by exact rfl) ?_ | refine gb1 (by exact rfl) ?_ | refine gi1 (by exact rfl) ?_ | refine gt1 (by exact rfl) ?_ | refine gp2 (by exact rfl) ?_ | refine gl2 (by exact rfl) ?_ | refine gb2 (by exact rfl) ?_ | refine gi2 (by exact rfl) ?_))
  refine wl_op (ok_buildSlice vi gMarks (ps := [(0, vi (-41)), (1, vi (-42)), (2, vi (-43))]) rfl rfl rfl rfl rfl (el_of rfl) (ze_of rfl) (sz_of rfl) rfl (by decide) (by decide) (by kernel_rfl) ?_)
  intro b1
  refine wl_op (ok_append 1 vi (ys := gMarks) rfl rfl rfl rfl rfl rfl rfl (el_of rfl) (ze_of rfl) rfl (sz_of rfl) (by_of rfl) ⟨_, rfl⟩ (fun w hst => osl_reads (hst.at_ 0 rfl)) (fun _ => rfl) (by simp only [gMarks, List.length_cons, List.length_nil]; omega) (by simp only [gMarks, List.length_cons, List.length_nil]; omega) ?_)
  intro A1 c1
  have hlen : (xs ++ gMarks).length = xs.length + 3 := by simp [gMarks]
  (repeat (first | with_reducible refine thenQ_normal ?_ | with_reducible refine thenQ_exit ?_ | with_reducible refine thenQ_ret ?_ | with_reducible refine blkQ_normal ?_ | with_reducible refine blkQ_ret ?_ | with_reducible refine blkQ_hit ?_ | (with_reducible refine blkQ_miss ?_ ?_; · rfl) | refine wc_seq ?_ | refine wc_skip ?_ | refine wc_block ?_ | refine wc_true rfl ?_ | refine wc_false rfl ?_ | refine wc_exit ?_ | refine wc_ret ?_ | (refine wc_region ?_; repeat (first | refine gp1 (by exact rfl) ?_ | refine gl1 (by exact rfl) ?_ | refine gb1 (by exact rfl) ?_ | refine gi1 (by exact rfl) ?_ | refine gt1 (by exact rfl) ?_)) | refine wl_nil ?_ | refine wq_nil ?_ | refine gp1 (by exact rfl) ?_ | refine gl1 (by exact rfl) ?_ | refine gb1 (by exact rfl) ?_ | refine gi1 (by exact rfl) ?_ | refine gt1 (by exact rfl) ?_ | refine gp2 (by exact rfl) ?_ | refine gl2 (by exact rfl) ?_ | refine gb2 (by exact rfl) ?_ | refine gi2 (by exact rfl) ?_))
  refine wl_op (ok_build1 sv (A1, (xs ++ gMarks).length, c1) rfl rfl rfl rfl rfl (el_of rfl) (ze_of rfl) rfl (sz_of rfl) rfl ?_)
  intro b2
  refine wl_op (ok_append 4 sv (ys := [(A1, (xs ++ gMarks).length, c1)]) rfl rfl rfl rfl rfl rfl rfl (el_of rfl) (ze_of rfl) rfl (sz_of rfl) (by_of rfl) ⟨_, rfl⟩ (fun w hst => osl_reads (hst.at_ 0 rfl)) (fun _ => rfl) (by simp; omega) (by simp; omega) ?_)
  intro I' i'
  (repeat (first | with_reducible refine thenQ_normal ?_ | with_reducible refine thenQ_exit ?_ | with_reducible refine thenQ_ret ?_ | with_reducible refine blkQ_normal ?_ | with_reducible refine blkQ_ret ?_ | with_reducible refine blkQ_hit ?_ | (with_reducible refine blkQ_miss ?_ ?_; · rfl) | refine wc_seq ?_ | refine wc_skip ?_ | refine wc_block ?_ | refine wc_true rfl ?_ | refine wc_false rfl ?_ | refine wc_exit ?_ | refine wc_ret ?_ | (refine wc_region ?_; repeat (first | refine gp1 (by exact rfl) ?_ | refine gl1 (by exact rfl) ?_ | refine gb1 (by exact rfl) ?_ | refine gi1 (by exact rfl) ?_ | refine gt1 (by exact rfl) ?_)) | refine wl_nil ?_ | refine wq_nil ?_ | refine gp1 (by exact rfl) ?_ | refine gl1 (by exact rfl) ?_ | refine gb1 (by exact rfl) ?_ | refine gi1 (by exact rfl) ?_ | refine gt1 (by exact rfl) ?_ | refine gp2 (by exact rfl) ?_ | refine gl2 (by exact rfl) ?_ | refine gb2 (by exact rfl) ?_ | refine gi2 (by exact rfl) ?_))
  refine wa_begin0 mixed ?_
  (first | refine ga1 0 (by exact rfl) (by exact rfl) ?_ | refine ga2 0 (by exact rfl) (by exact rfl) ?_ | refine ga3 0 (by exact rfl) (by exact rfl) ?_ | refine ga4 0 (by exact rfl) (by exact rfl) ?_)
  (first | refine ga1 1 (by exact rfl) (by exact rfl) ?_ | refine ga2 1 (by exact rfl) (by exact rfl) ?_ | refine ga3 1 (by exact rfl) (by exact rfl) ?_ | refine ga4 1 (by exact rfl) (by exact rfl) ?_)
  (first | refine ga1 2 (by exact rfl) (by exact rfl) ?_ | refine ga2 2 (by exact rfl) (by exact rfl) ?_ | refine ga3 2 (by exact rfl) (by exact rfl) ?_ | refine ga4 2 (by exact rfl) (by exact rfl) ?_)
  (first | refine ga1 3 (by exact rfl) (by exact rfl) ?_ | refine ga2 3 (by exact rfl) (by exact rfl) ?_ | refine ga3 3 (by exact rfl) (by exact rfl) ?_ | refine ga4 3 (by exact rfl) (by exact rfl) ?_)
  (first | refine ga1 5 (by exact rfl) (by exact rfl) ?_ | refine ga2 5 (by exact rfl) (by exact rfl) ?_ | refine ga3 5 (by exact rfl) (by exact rfl) ?_ | refine ga4 5 (by exact rfl) (by exact rfl) ?_)
  refine wa_two 4 6 rfl rfl (by kernel_rfl) ?_ ?_
  · refine ok_ld rfl rfl rfl rfl rfl (ag_of rfl) ?_
    refine ld_blk 3 rfl (ag_of rfl) rfl ?_
    refine ⟨any0, ?_⟩
    refine wa_one 6 rfl (by kernel_rfl) ?_
    refine ok_call [] _ rfl (by rfl) (bod_of rfl) (by rfl) (by rfl) (by rfl) (List.Perm.refl _) (fun w hst => copyInts_c w (osl_reads (hst.at_ 2 rfl)) (by omega)) ?_
    intro b3 _
    refine ⟨any0, ?_⟩
    refine wa_one 7 rfl (by kernel_rfl) ?_
    refine ok_build1 sv (some ⟨b3, 0, none⟩, (xs ++ gMarks).length, (xs ++ gMarks).length + 3) rfl rfl rfl rfl rfl (el_of rfl) (ze_of rfl) rfl (sz_of rfl) rfl ?_
    intro b4
    refine ⟨any0, ?_⟩
    refine wa_one 8 rfl (by kernel_rfl) ?_
    refine ok_append 7 sv (ys := [(some ⟨b3, 0, none⟩, (xs ++ gMarks).length, (xs ++ gMarks).length + 3)]) rfl rfl rfl rfl rfl rfl rfl (el_of rfl) (ze_of rfl) rfl (sz_of rfl) (by_of rfl) ⟨_, rfl⟩ (fun w hst => osl_reads (hst.at_ 0 rfl)) (fun _ => rfl) (by simp; omega) (by simp; omega) ?_
    intro J' j'
    refine ⟨any0, ?_⟩
    (first | refine ga1 9 (by exact rfl) (by exact rfl) ?_ | refine ga2 9 (by exact rfl) (by exact rfl) ?_ | refine ga3 9 (by exact rfl) (by exact rfl) ?_ | refine ga4 9 (by exact rfl) (by exact rfl) ?_)
    (first | refine ga1 10 (by exact rfl) (by exact rfl) ?_ | refine ga2 10 (by exact rfl) (by exact rfl) ?_ | refine ga3 10 (by exact rfl) (by exact rfl) ?_ | refine ga4 10 (by exact rfl) (by exact rfl) ?_)
    refine wa_one 11 rfl (by kernel_rfl) ?_
    refine ok_store 5 rfl rfl rfl rfl rfl rfl rfl rfl (sz_of rfl) rfl ?_
    refine ⟨any0, ?_⟩
    refine wa_done (by kernel_rfl) ?_
    (repeat (first | with_reducible refine thenQ_normal ?_ | with_reducible refine thenQ_exit ?_ | with_reducible refine thenQ_ret ?_ | with_reducible refine blkQ_normal ?_ | with_reducible refine blkQ_ret ?_ | with_reducible refine blkQ_hit ?_ | (with_reducible refine blkQ_miss ?_ ?_; · rfl) | refine wc_seq ?_ | refine wc_skip ?_ | refine wc_block ?_ | refine wc_true rfl ?_ | refine wc_false rfl ?_ | refine wc_exit ?_ | refine wc_ret ?_ | (refine wc_region ?_; repeat (first | refine gp1 (by exact rfl) ?_ | refine gl1 (by exact rfl) ?_ | refine gb1 (by exact rfl) ?_ | refine gi1 (by exact rfl) ?_ | refine gt1 (by exact rfl) ?_)) | refine wl_nil ?_ | refine wq_nil ?_ | refine gp1 (by exact rfl) ?_ | refine gl1 (by exact rfl) ?_ | refine gb1 (by exact rfl) ?_ | refine gi1 (by exact rfl) ?_ | refine gt1 (by exact rfl) ?_ | refine gp2 (by exact rfl) ?_ | refine gl2 (by exact rfl) ?_ | refine gb2 (by exact rfl) ?_ | refine gi2 (by exact rfl) ?_))
    refine wl_v rfl rfl rfl (val_pre rfl rfl rfl (fun w hst => osl_reads (hst.at_ 4 rfl)) (el_of rfl) (sz_of rfl) (by omega) (by omega)) ?_
    (repeat (first | with_reducible refine thenQ_normal ?_ | with_reducible refine thenQ_exit ?_ | with_reducible refine thenQ_ret ?_ | with_reducible refine blkQ_normal ?_ | with_reducible refine blkQ_ret ?_ | with_reducible refine blkQ_hit ?_ | (with_reducible refine blkQ_miss ?_ ?_; · rfl) | refine wc_seq ?_ | refine wc_skip ?_ | refine wc_block ?_ | refine wc_true rfl ?_ | refine wc_false rfl ?_ | refine wc_exit ?_ | refine wc_ret ?_ | (refine wc_region ?_; repeat (first | refine gp1 (by exact rfl) ?_ | refine gl1 (by exact rfl) ?_ | refine gb1 (by exact rfl) ?_ | refine gi1 (by exact rfl) ?_ | refine gt1 (by exact rfl) ?_)) | refine wl_nil ?_ | refine wq_nil ?_ | refine gp1 (by exact rfl) ?_ | refine gl1 (by exact rfl) ?_ | refine gb1 (by exact rfl) ?_ | refine gi1 (by exact rfl) ?_ | refine gt1 (by exact rfl) ?_ | refine gp2 (by exact rfl) ?_ | refine gl2 (by exact rfl) ?_ | refine gb2 (by exact rfl) ?_ | refine gi2 (by exact rfl) ?_))
    refine ⟨(⟨I', i', J', j', es ++ [⟨A1, c1, some ⟨b3, 0, none⟩, (xs ++ gMarks).length + 3, xs ++ gMarks⟩]⟩, ⟨A1, c1, some ⟨b3, 0, none⟩, (xs ++ gMarks).length + 3, xs ++ gMarks⟩), [osl TIs sv (some ⟨b4, 0, none⟩) 1 [(some ⟨b3, 0, none⟩, (xs ++ gMarks).length, (xs ++ gMarks).length + 3)], osl TIs sv (some ⟨b2, 0, none⟩) 1 [(A1, (xs ++ gMarks).length, c1)], osl TI vi (some ⟨b1, 0, none⟩) 3 gMarks], .cons (rv_tmp (look_to rfl (by simp))) .nil, ⟨rfl, rfl⟩, ?_⟩
    dsimp only
    simp only [List.map_append, List.flatMap_append, List.map_cons, List.map_nil, List.flatMap_cons, List.flatMap_nil]
    exact permI _ _ _ _ _ _ _ _ _
  · refine ok_call [] _ rfl (by rfl) (bod_of rfl) (by rfl) (by rfl) (by rfl) (List.Perm.refl _) (fun w hst => copyInts_c w (osl_reads (hst.at_ 2 rfl)) (by omega)) ?_
    intro b3 _
    refine ⟨any0, ?_⟩
    refine wa_two 4 7 rfl rfl (by kernel_rfl) ?_ ?_
    · refine ok_ld rfl rfl rfl rfl rfl (ag_of rfl) ?_
      refine ld_blk 4 rfl (ag_of rfl) rfl ?_
      refine ⟨any0, ?_⟩
      refine wa_one 7 rfl (by kernel_rfl) ?_
      refine ok_build1 sv (some ⟨b3, 0, none⟩, (xs ++ gMarks).length, (xs ++ gMarks).length + 3) rfl rfl rfl rfl rfl (el_of rfl) (ze_of rfl) rfl (sz_of rfl) rfl ?_
      intro b4
      refine ⟨any0, ?_⟩
      refine wa_one 8 rfl (by kernel_rfl) ?_
      refine ok_append 7 sv (ys := [(some ⟨b3, 0, none⟩, (xs ++ gMarks).length, (xs ++ gMarks).length + 3)]) rfl rfl rfl rfl rfl rfl rfl (el_of rfl) (ze_of rfl) rfl (sz_of rfl) (by_of rfl) ⟨_, rfl⟩ (fun w hst => osl_reads (hst.at_ 0 rfl)) (fun _ => rfl) (by simp; omega) (by simp; omega) ?_
      intro J' j'
      refine ⟨any0, ?_⟩
      (first | refine ga1 9 (by exact rfl) (by exact rfl) ?_ | refine ga2 9 (by exact rfl) (by exact rfl) ?_ | refine ga3 9 (by exact rfl) (by exact rfl) ?_ | refine ga4 9 (by exact rfl) (by exact rfl) ?_)
      (first | refine ga1 10 (by exact rfl) (by exact rfl) ?_ | refine ga2 10 (by exact rfl) (by exact rfl) ?_ | refine ga3 10 (by exact rfl) (by exact rfl) ?_ | refine ga4 10 (by exact rfl) (by exact rfl) ?_)
      refine wa_one 11 rfl (by kernel_rfl) ?_
      refine ok_store 5 rfl rfl rfl rfl rfl rfl rfl rfl (sz_of rfl) rfl ?_
      refine ⟨any0, ?_⟩
      refine wa_done (by kernel_rfl) ?_
      (repeat (first | with_reducible refine thenQ_normal ?_ | with_reducible refine thenQ_exit ?_ | with_reducible refine thenQ_ret ?_ | with_reducible refine blkQ_normal ?_ | with_reducible refine blkQ_ret ?_ | with_reducible refine blkQ_hit ?_ | (with_reducible refine blkQ_miss ?_ ?_; · rfl) | refine wc_seq ?_ | refine wc_skip ?_ | refine wc_block ?_ | refine wc_true rfl ?_ | refine wc_false rfl ?_ | refine wc_exit ?_ | refine wc_ret ?_ | (refine wc_region ?_; repeat (first | refine gp1 (by exact rfl) ?_ | refine gl1 (by exact rfl) ?_ | refine gb1 (by exact rfl) ?_ | refine gi1 (by exact rfl) ?_ | refine gt1 (by exact rfl) ?_)) | refine wl_nil ?_ | refine wq_nil ?_ | refine gp1 (by exact rfl) ?_ | refine gl1 (by exact rfl) ?_ | refine gb1 (by exact rfl) ?_ | refine gi1 (by exact rfl) ?_ | refine gt1 (by exact rfl) ?_ | refine gp2 (by exact rfl) ?_ | refine gl2 (by exact rfl) ?_ | refine gb2 (by exact rfl) ?_ | refine gi2 (by exact rfl) ?_))
      refine wl_v rfl rfl rfl (val_pre rfl rfl rfl (fun w hst => osl_reads (hst.at_ 4 rfl)) (el_of rfl) (sz_of rfl) (by omega) (by omega)) ?_
      (repeat (first | with_reducible refine thenQ_normal ?_ | with_reducible refine thenQ_exit ?_ | with_reducible refine thenQ_ret ?_ | with_reducible refine blkQ_normal ?_ | with_reducible refine blkQ_ret ?_ | with_reducible refine blkQ_hit ?_ | (with_reducible refine blkQ_miss ?_ ?_; · rfl) | refine wc_seq ?_ | refine wc_skip ?_ | refine wc_block ?_ | refine wc_true rfl ?_ | refine wc_false rfl ?_ | refine wc_exit ?_ | refine wc_ret ?_ | (refine wc_region ?_; repeat (first | refine gp1 (by exact rfl) ?_ | refine gl1 (by exact rfl) ?_ | refine gb1 (by exact rfl) ?_ | refine gi1 (by exact rfl) ?_ | refine gt1 (by exact rfl) ?_)) | refine wl_nil ?_ | refine wq_nil ?_ | refine gp1 (by exact rfl) ?_ | refine gl1 (by exact rfl) ?_ | refine gb1 (by exact rfl) ?_ | refine gi1 (by exact rfl) ?_ | refine gt1 (by exact rfl) ?_ | refine gp2 (by exact rfl) ?_ | refine gl2 (by exact rfl) ?_ | refine gb2 (by exact rfl) ?_ | refine gi2 (by exact rfl) ?_))
      refine ⟨(⟨I', i', J', j', es ++ [⟨A1, c1, some ⟨b3, 0, none⟩, (xs ++ gMarks).length + 3, xs ++ gMarks⟩]⟩, ⟨A1, c1, some ⟨b3, 0, none⟩, (xs ++ gMarks).length + 3, xs ++ gMarks⟩), [osl TIs sv (some ⟨b4, 0, none⟩) 1 [(some ⟨b3, 0, none⟩, (xs ++ gMarks).length, (xs ++ gMarks).length + 3)], osl TIs sv (some ⟨b2, 0, none⟩) 1 [(A1, (xs ++ gMarks).length, c1)], osl TI vi (some ⟨b1, 0, none⟩) 3 gMarks], .cons (rv_tmp (look_to rfl (by simp))) .nil, ⟨rfl, rfl⟩, ?_⟩
      dsimp only
      simp only [List.map_append, List.flatMap_append, List.map_cons, List.map_nil, List.flatMap_cons, List.flatMap_nil]
      exact permI _ _ _ _ _ _ _ _ _
    · refine ok_build1 sv (some ⟨b3, 0, none⟩, (xs ++ gMarks).length, (xs ++ gMarks).length + 3) rfl rfl rfl rfl rfl (el_of rfl) (ze_of rfl) rfl (sz_of rfl) rfl ?_
      intro b4
      refine ⟨any0, ?_⟩
      refine wa_one 4 rfl (by kernel_rfl) ?_
      refine ok_ld rfl rfl rfl rfl rfl (ag_of rfl) ?_
      refine ld_blk 5 rfl (ag_of rfl) rfl ?_
      refine ⟨any0, ?_⟩
      refine wa_one 8 rfl (by kernel_rfl) ?_
      refine ok_append 7 sv (ys := [(some ⟨b3, 0, none⟩, (xs ++ gMarks).length, (xs ++ gMarks).length + 3)]) rfl rfl rfl rfl rfl rfl rfl (el_of rfl) (ze_of rfl) rfl (sz_of rfl) (by_of rfl) ⟨_, rfl⟩ (fun w hst => osl_reads (hst.at_ 0 rfl)) (fun _ => rfl) (by simp; omega) (by simp; omega) ?_
      intro J' j'
      refine ⟨any0, ?_⟩
      (first | refine ga1 9 (by exact rfl) (by exact rfl) ?_ | refine ga2 9 (by exact rfl) (by exact rfl) ?_ | refine ga3 9 (by exact rfl) (by exact rfl) ?_ | refine ga4 9 (by exact rfl) (by exact rfl) ?_)
      (first | refine ga1 10 (by exact rfl) (by exact rfl) ?_ | refine ga2 10 (by exact rfl) (by exact rfl) ?_ | refine ga3 10 (by exact rfl) (by exact rfl) ?_ | refine ga4 10 (by exact rfl) (by exact rfl) ?_)
      refine wa_one 11 rfl (by kernel_rfl) ?_
      refine ok_store 5 rfl rfl rfl rfl rfl rfl rfl rfl (sz_of rfl) rfl ?_
      refine ⟨any0, ?_⟩
      refine wa_done (by kernel_rfl) ?_
      (repeat (first | with_reducible refine thenQ_normal ?_ | with_reducible refine thenQ_exit ?_ | with_reducible refine thenQ_ret ?_ | with_reducible refine blkQ_normal ?_ | with_reducible refine blkQ_ret ?_ | with_reducible refine blkQ_hit ?_ | (with_reducible refine blkQ_miss ?_ ?_; · rfl) | refine wc_seq ?_ | refine wc_skip ?_ | refine wc_block ?_ | refine wc_true rfl ?_ | refine wc_false rfl ?_ | refine wc_exit ?_ | refine wc_ret ?_ | (refine wc_region ?_; repeat (first | refine gp1 (by exact rfl) ?_ | refine gl1 (by exact rfl) ?_ | refine gb1 (by exact rfl) ?_ | refine gi1 (by exact rfl) ?_ | refine gt1 (by exact rfl) ?_)) | refine wl_nil ?_ | refine wq_nil ?_ | refine gp1 (by exact rfl) ?_ | refine gl1 (by exact rfl) ?_ | refine gb1 (by exact rfl) ?_ | refine gi1 (by exact rfl) ?_ | refine gt1 (by exact rfl) ?_ | refine gp2 (by exact rfl) ?_ | refine gl2 (by exact rfl) ?_ | refine gb2 (by exact rfl) ?_ | refine gi2 (by exact rfl) ?_))
      refine wl_v rfl rfl rfl (val_pre rfl rfl rfl (fun w hst => osl_reads (hst.at_ 4 rfl)) (el_of rfl) (sz_of rfl) (by omega) (by omega)) ?_
      (repeat (first | with_reducible refine thenQ_normal ?_ | with_reducible refine thenQ_exit ?_ | with_reducible refine thenQ_ret ?_ | with_reducible refine blkQ_normal ?_ | with_reducible refine blkQ_ret ?_ | with_reducible refine blkQ_hit ?_ | (with_reducible refine blkQ_miss ?_ ?_; · rfl) | refine wc_seq ?_ | refine wc_skip ?_ | refine wc_block ?_ | refine wc_true rfl ?_ | refine wc_false rfl ?_ | refine wc_exit ?_ | refine wc_ret ?_ | (refine wc_region ?_; repeat (first | refine gp1 (by exact rfl) ?_ | refine gl1 (by exact rfl) ?_ | refine gb1 (by exact rfl) ?_ | refine gi1 (by exact rfl) ?_ | refine gt1 (by exact rfl) ?_)) | refine wl_nil ?_ | refine wq_nil ?_ | refine gp1 (by exact rfl) ?_ | refine gl1 (by exact rfl) ?_ | refine gb1 (by exact rfl) ?_ | refine gi1 (by exact rfl) ?_ | refine gt1 (by exact rfl) ?_ | refine gp2 (by exact rfl) ?_ | refine gl2 (by exact rfl) ?_ | refine gb2 (by exact rfl) ?_ | refine gi2 (by exact rfl) ?_))
      refine ⟨(⟨I', i', J', j', es ++ [⟨A1, c1, some ⟨b3, 0, none⟩, (xs ++ gMarks).length + 3, xs ++ gMarks⟩]⟩, ⟨A1, c1, some ⟨b3, 0, none⟩, (xs ++ gMarks).length + 3, xs ++ gMarks⟩), [osl TIs sv (some ⟨b4, 0, none⟩) 1 [(some ⟨b3, 0, none⟩, (xs ++ gMarks).length, (xs ++ gMarks).length + 3)], osl TIs sv (some ⟨b2, 0, none⟩) 1 [(A1, (xs ++ gMarks).length, c1)], osl TI vi (some ⟨b1, 0, none⟩) 3 gMarks], .cons (rv_tmp (look_to rfl (by simp))) .nil, ⟨rfl, rfl⟩, ?_⟩
      dsimp only
      simp only [List.map_append, List.flatMap_append, List.map_cons, List.map_nil, List.flatMap_cons, List.flatMap_nil]
      exact permI _ _ _ _ _ _ _ _ _
end Go.Proofs.Ytofngbaefbbeiaa
