/- Walks: Symmetric. -/
import Derived.Test.YtoiiellaoikojaaTG
import Derived.Test.YtoiiellaoikojaaTJ
set_option linter.unusedVariables false
set_option linter.unusedSimpArgs false
set_option maxHeartbeats 8000000
namespace Go.Proofs.Ytoiiellaoikojaa
open Go.RowKit
abbrev SymI (bp gb : Nat) (x : PA) (p : Pat) (g : Bool) : List Res := [blk gb [.bool g] TB, blk bp (pcs x p) TP]
theorem sym1_c {p : Pat} {x : PA} (hm : May p) (bp gb : Nat) (k r : Int) (w w' : World) (hp : RdP w' x p) (h0 : 0 ≤ r) (h1 : r < p.rows) (h2 : gt p.start r ≤ k) (h3 : k < gt p.start (r + 1)) (hst : St w ((SymI bp gb x p (symU p 0)).flatMap Res.fp) (SymI bp gb x p (symU p k)) w') (hD : RdPO w' ((SymI bp gb x p (symU p k)).flatMap Res.fp) x p) :
    Calls Try.prog 111 ([vi r, vi (gt p.cols k), vi k] ++ [Value.pointer (some ⟨bp, 0, none⟩), Value.pointer (some ⟨gb, 0, none⟩)]).toArray w' (Ret (SymI bp gb x p (symU p k)) (fun _ : Unit => .tuple #[]) (fun _ => SymI bp gb x p (symU p (k + 1))) (fun _ => True) w') := by
  obtain ⟨g, hg⟩ : ∃ g, symU p k = g := ⟨_, rfl⟩
  have hs := fun ok => symU_step (ok := ok) hm h0 h1 h2 h3
  rw [hg] at hs hst hD ⊢
  refine calls_wc ((SymI bp gb x p g).flatMap Res.fp) (SymI bp gb x p g) [] (fun _ => []) Try.func111 rfl rfl (fun _ => rfl) Try.ntmps111 rfl hst.own rfl ?_
  refine gg ?_
  refine gc3 [] (fun w hst hst1 => find_c (p := p) (r := gt p.cols k) (x := r) w (hD.s.now hst) (hD.c.now hst) hm) (by exact rfl) ?_
  (repeat (first | refine gk1 ?_ | refine gk2 ?_ | refine gk3 ?_ | refine gk0 ?_ | refine gk4 ?_))
  rintro ⟨j, ok⟩ ⟨hok, _⟩
  dsimp only [List.cons_append, List.nil_append] at hok ⊢
  rw [hs ok hok]
  clear hok hs hg
  cases g with
  | true =>
    refine gg ?_
    exact grt () trivial
  | false =>
    refine gg ?_
    exact grt () trivial
section
variable {p : Pat} {x : PA}
theorem symmetric_c (w : World) (hp : RdP w x p) (b : Bool) (hb : b = true ↔ Sym p) : Calls Try.prog 88 [pvl x p].toArray w (one (.bool b) w) := by
  have op := hp.old
  have hno : ¬ Sym p → b = false := fun h => by cases b with | false => rfl | true => exact absurd (hb.1 rfl) h
  by_cases hm : May p
  · by_cases hsq : p.rows = p.width
    · obtain rfl : symU p p.cols.length = b := by rw [Bool.eq_iff_iff, hb, symU_all hm hsq]
      unfold pvl patV
      refine calls_wc [] [] [.tmp 2] (fun _ => [.bool (symU p p.cols.length)]) Try.func88 rfl rfl (fun _ => rfl) Try.ntmps88 rfl (Own.nil w) rfl ?_
      refine gg ?_
      refine wl_op (ok_box rfl rfl rfl rfl rfl ?_); intro bp
      refine gg ?_
      refine gc1 (fun w hst => may_t (op.s.now hst) (op.c.now hst) hm) (by exact rfl) ?_
      refine gg ?_
      refine wl_op (ok_alloc rfl rfl rfl rfl (ze_of rfl) ?_); intro gb
      refine gg ?_
      refine gc3 (SymI bp gb x p (symU p 0)) (fun w hst hst1 => each_c hm (fun k (_ : Unit) => SymI bp gb x p (symU p k)) (fun _ _ => True) 111 [Value.pointer (some ⟨bp, 0, none⟩), Value.pointer (some ⟨gb, 0, none⟩)] (bod_of rfl) () w (op.s.later hst1) (op.c.later hst1) trivial hst1.own (fun k r _ w2 h0 h1 h2 h3 _ hw => sym1_c hm bp gb k r w w2 ((op.later hst1).now hw) h0 h1 h2 h3 hw ((op.later hst1).later hw))) (by exact rfl) ?_
      · rw [symU_zero hm]
        (repeat (first | refine gk1 ?_ | refine gk2 ?_ | refine gk3 ?_ | refine gk0 ?_ | refine gk4 ?_))
        rintro _ _
        dsimp only [List.cons_append, List.nil_append]
        refine gg ?_
        exact grt () trivial
    · obtain rfl := hno fun h => hsq h.2.1
      unfold pvl patV
      refine calls_wc [] [] [.tmp 2] (fun _ => [.bool false]) Try.func88 rfl rfl (fun _ => rfl) Try.ntmps88 rfl (Own.nil w) rfl ?_
      refine gg ?_
      refine wl_op (ok_box rfl rfl rfl rfl rfl ?_); intro bp
      refine gg ?_
      refine gc1 (fun w hst => may_t (op.s.now hst) (op.c.now hst) hm) (by exact rfl) ?_
      refine gg ?_
      exact grt () trivial
  · obtain rfl := hno fun h => hm h.1
    unfold pvl patV
    refine calls_wc [] [] [.tmp 2] (fun _ => [.bool false]) Try.func88 rfl rfl (fun _ => rfl) Try.ntmps88 rfl (Own.nil w) rfl ?_
    refine gg ?_
    refine wl_op (ok_box rfl rfl rfl rfl rfl ?_); intro bp
    refine gg ?_
    refine gc1 (fun w hst => may_f (op.s.now hst) (op.c.now hst) hm) (by exact rfl) ?_
    refine gg ?_
    exact grt () trivial
end
end Go.Proofs.Ytoiiellaoikojaa
