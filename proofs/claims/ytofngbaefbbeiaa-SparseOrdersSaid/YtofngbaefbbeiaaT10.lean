/- Walks: the law's own copies: Given.Pattern. -/
import Derived.Test.YtofngbaefbbeiaaT9
set_option linter.unusedVariables false
set_option linter.unusedSimpArgs false
set_option maxHeartbeats 8000000
namespace Go.Proofs.Ytofngbaefbbeiaa
open Go.RowKit
section
variable {P : Program} {n : Nat} {w0 : World} {D : List Nat} {ops : Array Oper} {Γ : Tm} {σ : List Res}
theorem ok_perm {o : Oper} {K : Tm → List Res → Prop} {σ' : List Res} (hp : σ'.Perm σ) (h : OpOK P n w0 D ops o K Γ σ') : OpOK P n w0 D ops o K Γ σ :=
  ⟨fun a w hs hst => h.run a w hs (hst.perm hp)⟩
theorem wa_perm {Q : QQ} {σS σ' : List Res} {fuel : Nat} {listed : Array Bool} (hp : σ'.Perm σ) (h : WA P n w0 D σS ops Q fuel listed Γ σ') : WA P n w0 D σS ops Q fuel listed Γ σ :=
  ⟨fun a w hs hst => h.run a w hs (hst.perm hp)⟩
end
theorem permA {α : Type _} (r b : α) (l : List α) : (l ++ [r, b]).Perm ((r :: l) ++ [b]) := by
  rw [show l ++ [r, b] = (l ++ [r]) ++ [b] by simp]
  exact (List.perm_append_singleton r l).append_right [b]
abbrev patC (p : Pat) (A : Option Addr) (c : Nat) (B : Option Addr) (d : Nat) : List Value := [vi p.rows, vi p.width, .slice A p.start.length c, .slice B p.cols.length d]
theorem givenPattern_c {p : Pat} {A B : Option Addr} {c d g : Nat} (x : GS) (w : World) (hA : RdO vi w ((Giv g x).flatMap Res.fp) A c p.start) (hB : RdO vi w ((Giv g x).flatMap Res.fp) B d p.cols) (hl : p.start.length ≤ 17592186043904) (hl2 : p.cols.length ≤ 17592186043904) (he : x.es.length ≤ 900) (hw : Own (Giv g x) w) :
    Calls Try.prog 14 [.pointer (some ⟨g, 0, none⟩), patV p A c B d].toArray w (Ret (Giv g x) (fun y : GS × GE × GE => patV p y.2.1.A y.2.1.c y.2.2.A y.2.2.c) (fun y => Giv g y.1) (fun y => y.1.es = x.es ++ [y.2.1, y.2.2] ∧ y.2.1.xs = p.start ++ gMarks ∧ y.2.2.xs = p.cols ++ gMarks) w) := by
  unfold patV
  refine calls_wc ((Giv g x).flatMap Res.fp) (Giv g x) [.cell 4 TP] (fun y : GS × GE × GE => [.agg (patC p y.2.1.A y.2.1.c y.2.2.A y.2.2.c).toArray]) Try.func14 rfl rfl (fun _ => rfl) Try.ntmps14 rfl hw rfl ?_
  (repeat (first | with_reducible refine thenQ_normal ?_ | with_reducible refine thenQ_exit ?_ | with_reducible refine thenQ_ret ?_ | with_reducible refine blkQ_normal ?_ | with_reducible refine blkQ_ret ?_ | with_reducible refine blkQ_hit ?_ | (with_reducible refine blkQ_miss ?_ ?_; · rfl) | refine wc_seq ?_ | refine wc_skip ?_ | refine wc_block ?_ | refine wc_true rfl ?_ | refine wc_false rfl ?_ | refine wc_exit ?_ | refine wc_ret ?_ | (refine wc_region ?_; repeat (first | refine gp1 (by exact rfl) ?_ | refine gl1 (by exact rfl) ?_ | refine gb1 (by exact rfl) ?_ | refine gi1 (by exact rfl) ?_ | refine gt1 (by exact rfl) ?_)) | refine wl_nil ?_ | refine wq_nil ?_ | refine gp1 (by exact rfl) ?_ | refine gl1 (by exact rfl) ?_ | refine gb1 (by exact rfl) ?_ | refine gi1 (by exact rfl) ?_ | refine gt1 (by exact rfl) ?_ | refine gp2 (by exact rfl) ?_ | refine gl2 (by exact rfl) ?_ | refine gb2 (by exact rfl) ?_ | refine gi2 (by exact rfl) ?_))
  refine wl_op (ok_box rfl rfl rfl rfl rfl ?_); intro bp
  refine wl_op (ok_alloc rfl rfl rfl rfl (ze_of rfl) ?_); intro rb
  (repeat (first | with_reducible refine thenQ_normal ?_ | with_reducible refine thenQ_exit ?_ | with_reducible refine thenQ_ret ?_ | with_reducible refine blkQ_normal ?_ | with_reducible refine blkQ_ret ?_ | with_reducible refine blkQ_hit ?_ | (with_reducible refine blkQ_miss ?_ ?_; · rfl) | refine wc_seq ?_ | refine wc_skip ?_ | refine wc_block ?_ | refine wc_true rfl ?_ | refine wc_false rfl ?_ | refine wc_exit ?_ | refine wc_ret ?_ | (refine wc_region ?_; repeat (first | refine gp1 (by exact rfl) ?_ | refine gl1 (by exact rfl) ?_ | refine gb1 (by exact rfl) ?_ | refine gi1 (by exact rfl) ?_ | refine gt1 (by exact rfl) ?_)) | refine wl_nil ?_ | refine wq_nil ?_ | refine gp1 (by exact rfl) ?_ | refine gl1 (by exact rfl) ?_ | refine gb1 (by exact rfl) ?_ | refine gi1 (by exact rfl) ?_ | refine gt1 (by exact rfl) ?_ | refine gp2 (by exact rfl) ?_ | refine gl2 (by exact rfl) ?_ | refine gb2 (by exact rfl) ?_ | refine gi2 (by exact rfl) ?_))
  refine wc_perm (σ' := (blk rb [vi 0, vi 0, nilS, nilS] TP :: Giv g x) ++ [blk bp (patC p A c B d) TP]) ?_ ?_
  · exact (List.Perm.cons _ (List.perm_append_singleton _ _))
  refine wa_beginS _ _ rfl mixed ?_
  (first | refine ga1 0 (by exact rfl) (by exact rfl) ?_ | refine ga2 0 (by exact rfl) (by exact rfl) ?_ | refine ga3 0 (by exact rfl) (by exact rfl) ?_ | refine ga4 0 (by exact rfl) (by exact rfl) ?_)
  (first | refine ga1 1 (by exact rfl) (by exact rfl) ?_ | refine ga2 1 (by exact rfl) (by exact rfl) ?_ | refine ga3 1 (by exact rfl) (by exact rfl) ?_ | refine ga4 1 (by exact rfl) (by exact rfl) ?_)
  (first | refine ga1 2 (by exact rfl) (by exact rfl) ?_ | refine ga2 2 (by exact rfl) (by exact rfl) ?_ | refine ga3 2 (by exact rfl) (by exact rfl) ?_ | refine ga4 2 (by exact rfl) (by exact rfl) ?_)
  (first | refine ga1 3 (by exact rfl) (by exact rfl) ?_ | refine ga2 3 (by exact rfl) (by exact rfl) ?_ | refine ga3 3 (by exact rfl) (by exact rfl) ?_ | refine ga4 3 (by exact rfl) (by exact rfl) ?_)
  (first | refine ga1 4 (by exact rfl) (by exact rfl) ?_ | refine ga2 4 (by exact rfl) (by exact rfl) ?_ | refine ga3 4 (by exact rfl) (by exact rfl) ?_ | refine ga4 4 (by exact rfl) (by exact rfl) ?_)
  (first | refine ga1 5 (by exact rfl) (by exact rfl) ?_ | refine ga2 5 (by exact rfl) (by exact rfl) ?_ | refine ga3 5 (by exact rfl) (by exact rfl) ?_ | refine ga4 5 (by exact rfl) (by exact rfl) ?_)
  (first | refine ga1 6 (by exact rfl) (by exact rfl) ?_ | refine ga2 6 (by exact rfl) (by exact rfl) ?_ | refine ga3 6 (by exact rfl) (by exact rfl) ?_ | refine ga4 6 (by exact rfl) (by exact rfl) ?_)
  (first | refine ga1 8 (by exact rfl) (by exact rfl) ?_ | refine ga2 8 (by exact rfl) (by exact rfl) ?_ | refine ga3 8 (by exact rfl) (by exact rfl) ?_ | refine ga4 8 (by exact rfl) (by exact rfl) ?_)
  (first | refine ga1 9 (by exact rfl) (by exact rfl) ?_ | refine ga2 9 (by exact rfl) (by exact rfl) ?_ | refine ga3 9 (by exact rfl) (by exact rfl) ?_ | refine ga4 9 (by exact rfl) (by exact rfl) ?_)
  (first | refine ga1 10 (by exact rfl) (by exact rfl) ?_ | refine ga2 10 (by exact rfl) (by exact rfl) ?_ | refine ga3 10 (by exact rfl) (by exact rfl) ?_ | refine ga4 10 (by exact rfl) (by exact rfl) ?_)
  refine wa_one 7 rfl (by kernel_rfl) ?_
  refine ok_call (Giv g x) [blk rb [vi 0, vi 0, nilS, nilS] TP, blk bp (patC p A c B d) TP] rfl (by rfl) (bod_of rfl) (by rfl) (by rfl) (by rfl) (permA _ _ _) (fun w hst => ints_c x w (hA.later (St.keep (hst.perm (permA _ _ _)))) hl (by omega) (hst.perm (permA _ _ _)).ownl) ?_
  rintro ⟨y, e1⟩ ⟨hy1, hy2⟩
  dsimp only at hy1 hy2 ⊢
  refine ⟨⟨Giv g y ++ [blk rb [vi 0, vi 0, nilS, nilS] TP], by simp⟩, ?_⟩
  refine wa_perm (permA _ _ _).symm ?_
  refine wa_one 11 rfl (by kernel_rfl) ?_
  refine ok_call (Giv g y) [blk rb [vi 0, vi 0, nilS, nilS] TP, blk bp (patC p A c B d) TP] rfl (by rfl) (bod_of rfl) (by rfl) (by rfl) (by rfl) (permA _ _ _) (fun w hst => ints_c y w (hB.later (St.keep (hst.perm (permA _ _ _)))) hl2 (by rw [hy1, List.length_append, List.length_singleton]; omega) (hst.perm (permA _ _ _)).ownl) ?_
  rintro ⟨z, e2⟩ ⟨hz1, hz2⟩
  dsimp only at hz1 hz2 ⊢
  refine ⟨⟨Giv g z ++ [blk rb [vi 0, vi 0, nilS, nilS] TP], by simp⟩, ?_⟩
  refine wa_perm (permA _ _ _).symm ?_
  refine wa_v 12 _ rfl (by kernel_rfl) rfl rfl rfl rfl (val_build (ps := [(0, vi p.rows), (1, vi p.width), (2, .slice e1.A p.start.length e1.c), (3, .slice e2.A p.cols.length e2.c)]) (cells := patC p e1.A e1.c e2.A e2.c) rfl rfl (by kernel_rfl)) ?_
  refine wa_one 13 rfl (by kernel_rfl) ?_
  refine ok_store 0 rfl rfl rfl rfl rfl rfl rfl rfl (sz_of rfl) rfl ?_
  refine ⟨⟨_ :: Giv g z, rfl⟩, ?_⟩
  refine wa_done (by kernel_rfl) ?_
  (repeat (first | with_reducible refine thenQ_normal ?_ | with_reducible refine thenQ_exit ?_ | with_reducible refine thenQ_ret ?_ | with_reducible refine blkQ_normal ?_ | with_reducible refine blkQ_ret ?_ | with_reducible refine blkQ_hit ?_ | (with_reducible refine blkQ_miss ?_ ?_; · rfl) | refine wc_seq ?_ | refine wc_skip ?_ | refine wc_block ?_ | refine wc_true rfl ?_ | refine wc_false rfl ?_ | refine wc_exit ?_ | refine wc_ret ?_ | (refine wc_region ?_; repeat (first | refine gp1 (by exact rfl) ?_ | refine gl1 (by exact rfl) ?_ | refine gb1 (by exact rfl) ?_ | refine gi1 (by exact rfl) ?_ | refine gt1 (by exact rfl) ?_)) | refine wl_nil ?_ | refine wq_nil ?_ | refine gp1 (by exact rfl) ?_ | refine gl1 (by exact rfl) ?_ | refine gb1 (by exact rfl) ?_ | refine gi1 (by exact rfl) ?_ | refine gt1 (by exact rfl) ?_ | refine gp2 (by exact rfl) ?_ | refine gl2 (by exact rfl) ?_ | refine gb2 (by exact rfl) ?_ | refine gi2 (by exact rfl) ?_))
  refine ⟨(z, e1, e2), [blk rb (patC p e1.A e1.c e2.A e2.c) TP, blk bp (patC p A c B d) TP], .cons (rv_agg 0 rfl rfl (ag_of rfl) (sz_of rfl) rfl rfl) .nil, ⟨?_, hy2, hz2⟩, permA _ _ _⟩
  dsimp only
  rw [hz1, hy1, List.append_assoc]
  rfl
end Go.Proofs.Ytofngbaefbbeiaa
