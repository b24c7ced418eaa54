/- Walks: Symmetric. -/
import Derived.Test.YtofngbaefbbeiaaTG
import Derived.Test.YtofngbaefbbeiaaTJ
set_option linter.unusedVariables false
set_option linter.unusedSimpArgs false
set_option maxHeartbeats 8000000
namespace Go.Proofs.Ytofngbaefbbeiaa
open Go.RowKit
abbrev SymI (bp gb : Nat) (x : PA) (p : Pat) (g : Bool) : List Res := [blk gb [.bool g] TB, blk bp (pcs x p) TP]
theorem sym1_c {p : Pat} {x : PA} (hm : May p) (bp gb : Nat) (k r : Int) (w w' : World) (hp : RdP w' x p) (h0 : 0 ≤ r) (h1 : r < p.rows) (h2 : gt p.start r ≤ k) (h3 : k < gt p.start (r + 1)) (hst : St w ((SymI bp gb x p (symU p 0)).flatMap Res.fp) (SymI bp gb x p (symU p k)) w') (hD : RdPO w' ((SymI bp gb x p (symU p k)).flatMap Res.fp) x p) :
    Calls Try.prog 92 ([vi r, vi (gt p.cols k), vi k] ++ [Value.pointer (some ⟨bp, 0, none⟩), Value.pointer (some ⟨gb, 0, none⟩)]).toArray w' (Ret (SymI bp gb x p (symU p k)) (fun _ : Unit => .tuple #[]) (fun _ => SymI bp gb x p (symU p (k + 1))) (fun _ => True) w') := by
  obtain ⟨g, hg⟩ : ∃ g, symU p k = g := ⟨_, rfl⟩
  have hs := fun ok => symU_step (ok := ok) hm h0 h1 h2 h3
  rw [hg] at hs hst hD ⊢
  refine calls_wc ((SymI bp gb x p g).flatMap Res.fp) (SymI bp gb x p g) [] (fun _ => []) Try.func92 rfl rfl (fun _ => rfl) Try.ntmps92 rfl hst.own rfl ?_
  refine gg ?_
  refine gc3 [] (fun w hst hst1 => find_c (p := p) (r := gt p.cols k) (x := r) w (hD.s.now hst) (hD.c.now hst) hm) (by exact rfl) ?_
  (repeat (first | refine gk1 ?_ | refine gk2 ?_ | refine gk3 ?_ | refine gk0 ?_ | refine gk4 ?_))
  rintro ⟨j, ok⟩ ⟨hok, _⟩
  dsimp only [List.cons_append, List.nil_append] at hok ⊢
  rw [hs ok hok]
  clear hok hs hg
  cases g with
  | true =>
    refine gg ?_
    exact grt () trivial
  | false =>
    refine gg ?_
    exact grt () trivial
section
variable {p : Pat} {x : PA}
theorem symmetric_c (w : World) (hp : RdP w x p) (b : Bool) (hb : b = true ↔ Sym p) : Calls Try.prog 42 [pvl x p].toArray w (one (.bool b) w) := by
  have op := hp.old
  have hno : ¬ Sym p → b = false := fun h => by cases b with | false => rfl | true => exact absurd (hb.1 rfl) h
  by_cases hm : May p
  · by_cases hsq : p.rows = p.width
    · obtain rfl : symU p p.cols.length = b := by rw [Bool.eq_iff_iff, hb, symU_all hm hsq]
      unfold pvl patV
      refine calls_wc [] [] [.tmp 2] (fun _ => [.bool (symU p p.cols.length)]) Try.func42 rfl rfl (fun _ => rfl) Try.ntmps42 rfl (Own.nil w) rfl ?_
      refine gg ?_
      refine wl_op (ok_box rfl rfl rfl rfl rfl ?_); intro bp
      refine gg ?_
      refine gc1 (fun w hst => may_t (op.s.now hst) (op.c.now hst) hm) (by exact rfl) ?_
      refine gg ?_
      refine wl_op (ok_alloc rfl rfl rfl rfl (ze_of rfl) ?_); intro gb
      refine gg ?_
      refine gc3 (SymI bp gb x p (symU p 0)) (fun w hst hst1 => each_c hm (fun k (_ : Unit) => SymI bp gb x p (symU p k)) (fun _ _ => True) 92 [Value.pointer (some ⟨bp, 0, none⟩), Value.pointer (some ⟨gb, 0, none⟩)] (bod_of rfl) () w (op.s.later hst1) (op.c.later hst1) trivial hst1.own (fun k r _ w2 h0 h1 h2 h3 _ hw => sym1_c hm bp gb k r w w2 ((op.later hst1).now hw) h0 h1 h2 h3 hw ((op.later hst1).later hw))) (by exact rfl) ?_
      · rw [symU_zero hm]
        (repeat (first | refine gk1 ?_ | refine gk2 ?_ | refine gk3 ?_ | refine gk0 ?_ | refine gk4 ?_))
        rintro _ _
        dsimp only [List.cons_append, List.nil_append]
        refine gg ?_
        exact grt () trivial
    · obtain rfl := hno fun h => hsq h.2.1
      unfold pvl patV
      refine calls_wc [] [] [.tmp 2] (fun _ => [.bool false]) Try.func42 rfl rfl (fun _ => rfl) Try.ntmps42 rfl (Own.nil w) rfl ?_
      refine gg ?_
      refine wl_op (ok_box rfl rfl rfl rfl rfl ?_); intro bp
      refine gg ?_
      refine gc1 (fun w hst => may_t (op.s.now hst) (op.c.now hst) hm) (by exact rfl) ?_
      refine gg ?_
      exact grt () trivial
  · obtain rfl := hno fun h => hm h.1
    unfold pvl patV
    refine calls_wc [] [] [.tmp 2] (fun _ => [.bool false]) Try.func42 rfl rfl (fun _ => rfl) Try.ntmps42 rfl (Own.nil w) rfl ?_
    refine gg ?_
    refine wl_op (ok_box rfl rfl rfl rfl rfl ?_); intro bp
    refine gg ?_
    refine gc1 (fun w hst => may_f (op.s.now hst) (op.c.now hst) hm) (by exact rfl) ?_
    refine gg ?_
    exact grt () trivial
theorem refSymmetric_c (w : World) (hp : RdP w x p) (b : Bool) (hb : b = true ↔ Sym p) : Calls Try.prog 78 [pvl x p].toArray w (one (.bool b) w) := by
  have op := hp.old
  have hno : ¬ Sym p → b = false := fun h => by cases b with | false => rfl | true => exact absurd (hb.1 rfl) h
  by_cases hm : May p
  · by_cases hsq : p.rows = p.width
    · obtain ⟨h1, h2, h3, h4, h5, h6, h7, h8⟩ := hm.toHead
      unfold pvl patV
      refine calls_wc [] [] [.tmp 2] (fun _ => [.bool b]) Try.func78 rfl rfl (fun _ => rfl) Try.ntmps78 rfl (Own.nil w) rfl ?_
      refine gg ?_
      refine wl_op (ok_box rfl rfl rfl rfl rfl ?_); intro bp
      refine gg ?_
      refine gc1 (fun w hst => refMay_c (op.s.now hst) (op.c.now hst) true (by simp [hm])) (by exact rfl) ?_
      refine gg ?_
      refine gc3 [] (fun w hst hst1 => open_c w (op.s.now hst) (op.c.now hst) hm) (by exact rfl) ?_
      (repeat (first | refine gk1 ?_ | refine gk2 ?_ | refine gk3 ?_ | refine gk0 ?_ | refine gk4 ?_))
      rintro ⟨A1, c1, on1⟩ hg1
      dsimp only [List.cons_append, List.nil_append] at hg1 ⊢
      refine wl_op (ok_alloc rfl rfl rfl rfl (ze_of rfl) ?_); intro gb
      refine gg ?_
      have hgl1 := hg1.len
      refine glp (fun r : Int => 0 ≤ r ∧ r ≤ p.rows ∧ ∀ a c, 0 ≤ a → a < r → 0 ≤ c → c < p.width → hasB p a c = hasB p c a) (fun r => [(1, .pointer (some ⟨bp, 0, none⟩)), (3, .pointer (some ⟨gb, 0, none⟩)), (4, vi r)])
        (fun r => [osl TB vb A1 c1 on1, blk gb (gridC p.rows p.width A1 on1.length c1) TGr]) (fun r => (p.rows - r).toNat) 0 ⟨by omega, h1, fun a c h h' => by omega⟩ ?_
      rintro r ⟨hr0, hr1, hr⟩
      by_cases hlt : r < p.rows
      · refine gg ?_
        refine glp (fun c : Int => 0 ≤ c ∧ c ≤ p.width ∧ ∀ a, 0 ≤ a → a < c → hasB p r a = hasB p a r) (fun c => [(1, .pointer (some ⟨bp, 0, none⟩)), (3, .pointer (some ⟨gb, 0, none⟩)), (4, vi r), (5, vi c)])
          (fun c => [osl TB vb A1 c1 on1, blk gb (gridC p.rows p.width A1 on1.length c1) TGr]) (fun c => (p.width - c).toNat) 0 ⟨by omega, h3, fun a h h' => by omega⟩ ?_
        rintro c ⟨hc0, hc1, hc⟩
        by_cases hcl : c < p.width
        · have hcell := cell_lt hr0 hlt hc0 hcl
          have hcell1 := cell_lt (r := c) (c := r) (rows := p.rows) (width := p.width) hc0 (by omega) hr0 (by omega)
          have hat := hg1.at_ r c hr0 hlt hc0 hcl
          have hat2 := hg1.at_ c r hc0 (by omega) hr0 (by omega)
          refine gg ?_
          refine wc_quiet mixed (by kernel_rfl) ?_
          refine gg ?_
          refine gc2 (fun w hst => at_c (rows := p.rows) (width := p.width) (r := r) (x := c) w (grd hst) h3 h4 hr0 (by omega) hc0 (by omega) (by omega) _ hat) (by exact rfl) ?_
          refine gg ?_
          refine gc2 (fun w hst => at_c (rows := p.rows) (width := p.width) (r := c) (x := r) w (grd hst) h3 h4 hc0 (by omega) hr0 (by omega) (by omega) _ hat2) (by exact rfl) ?_
          refine wq_val rfl rfl rfl (val_neb uB rfl rfl rfl) ?_
          by_cases he : hasB p r c = hasB p c r
          · rw [show (!(hasB p r c == hasB p c r)) = false by rw [he]; simp]
            refine gg ?_
            exact gnx (c + 1) ⟨by omega, by omega, fun a h h' => by
              by_cases hac : a < c
              · exact hc a h hac
              · obtain rfl : a = c := by omega
                exact he⟩ (by omega)
          · obtain rfl := hno fun h => he (by rw [Bool.eq_iff_iff, hasB_iff, hasB_iff]; exact ⟨h.2.2 r c, h.2.2 c r⟩)
            rw [show (!(hasB p r c == hasB p c r)) = true by simpa using he]
            refine gg ?_
            exact grt () trivial
        · obtain rfl : c = p.width := by omega
          refine gg ?_
          exact gnx (r + 1) ⟨by omega, by omega, fun a c h h' k k' => by
            by_cases har : a < r
            · exact hr a c h har k k'
            · obtain rfl : a = r := by omega
              exact hc c k k'⟩ (by omega)
      · obtain rfl : r = p.rows := by omega
        obtain rfl : b = true := hb.2 ⟨hm, hsq, fun a c hac => by
          have hin := hac.in_ hm
          rw [← hasB_iff, ← hr a c hin.1.1 hin.1.2 hin.2.1 hin.2.2, hasB_iff]
          exact hac⟩
        refine gg ?_
        exact grt () trivial
    · obtain rfl := hno fun h => hsq h.2.1
      unfold pvl patV
      refine calls_wc [] [] [.tmp 2] (fun _ => [.bool false]) Try.func78 rfl rfl (fun _ => rfl) Try.ntmps78 rfl (Own.nil w) rfl ?_
      refine gg ?_
      refine wl_op (ok_box rfl rfl rfl rfl rfl ?_); intro bp
      refine gg ?_
      refine gc1 (fun w hst => refMay_c (op.s.now hst) (op.c.now hst) true (by simp [hm])) (by exact rfl) ?_
      refine gg ?_
      exact grt () trivial
  · obtain rfl := hno fun h => hm h.1
    unfold pvl patV
    refine calls_wc [] [] [.tmp 2] (fun _ => [.bool false]) Try.func78 rfl rfl (fun _ => rfl) Try.ntmps78 rfl (Own.nil w) rfl ?_
    refine gg ?_
    refine wl_op (ok_box rfl rfl rfl rfl rfl ?_); intro bp
    refine gg ?_
    refine gc1 (fun w hst => refMay_c (op.s.now hst) (op.c.now hst) false (by simp [hm])) (by exact rfl) ?_
    refine gg ?_
    exact grt () trivial
end
end Go.Proofs.Ytofngbaefbbeiaa
