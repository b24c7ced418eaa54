/- Walks: the reference of colours: shut, open, Things, Lines, Near. -/
import Derived.Test.YtoiiellaoikojaaF2
set_option linter.unusedVariables false
set_option linter.unusedSimpArgs false
set_option maxHeartbeats 8000000
namespace Go.Proofs.Ytoiiellaoikojaa
open Go.RowKit
theorem gshut_c {A : Option Addr} {c m : Nat} {on : List Bool} {S : Int → Int → Bool} (w : World) (hA : Rds vb w A c on) (hg : IsGrid on m m S) (hm : m ≤ 128) (hS : Within m m S) :
    Calls Try.prog 46 [.agg (graC m A on.length c).toArray].toArray w (Ret [] (fun y : PA => pvl y (shutP m m S)) (fun y => PatR y (shutP m m S)) (fun _ => True) w) := by
  have oA := hA.old
  have lA := hA.len
  have hgl := hg.len
  refine calls_wc [] [] [.cell 2 TP] (fun y : PA => [pvl y (shutP m m S)]) Try.func46 rfl rfl (fun _ => rfl) Try.ntmps46 rfl (Own.nil w) rfl ?_
  refine gnil ?_
  refine gg ?_
  refine wl_op (ok_box rfl rfl rfl rfl rfl ?_); intro gb
  refine wl_op (ok_alloc rfl rfl rfl rfl (ze_of rfl) ?_); intro rb
  refine gg ?_
  refine gbi (by exact rfl) ?_; intro sb
  refine wl_v rfl rfl rfl (val_build (ps := [(0, vi m), (1, vi m), (2, .slice (some ⟨sb, 0, none⟩) 1 1)]) (cells := [vi m, vi m, .slice (some ⟨sb, 0, none⟩) 1 1, .slice none 0 0]) rfl rfl (by kernel_rfl)) ?_
  refine wl_op (ok_alloc rfl rfl rfl rfl (ze_of rfl) ?_); intro pb
  refine gg ?_
  refine glp (fun x : SX => x.r ≤ m) (fun x => [(1, .pointer (some ⟨gb, 0, none⟩)), (2, .pointer (some ⟨rb, 0, none⟩)), (3, .pointer (some ⟨pb, 0, none⟩)), (4, vi x.r)])
    (fun x => [blk pb [vi m, vi m, .slice x.As (startTo m S x.r).length x.cs, .slice x.Ac (colsTo m S x.r 0).length x.cc] TP, osl TI vi x.As x.cs (startTo m S x.r), osl TI vi x.Ac x.cc (colsTo m S x.r 0), blk gb (graC m A on.length c) TGh, blk rb pat0 TP])
    (fun x => m - x.r) ⟨0, 0, some ⟨sb, 0, none⟩, 1, none, 0⟩ (by simp) ?_ (hM := by rw [(colsTo_first m S).1, (colsTo_first m S).2]; refine SubK.e ?_; (repeat (first | refine gk1 ?_ | refine gk2 ?_ | refine gk3 ?_ | refine gk0 ?_ | refine gk4 ?_)); trivial)
  rintro ⟨r, _, As, cs, Ac, cc⟩ hr
  dsimp only at hr ⊢
  have hsl := startTo_len hm S r
  by_cases hlt : r < m
  · obtain ⟨q0, q1⟩ := mul_small (x := (r : Int)) (y := m) (by omega) (by omega) (by omega) (by omega)
    refine gg ?_
    refine glp (fun x : SX => 0 ≤ x.c ∧ x.c ≤ m) (fun x => [(1, .pointer (some ⟨gb, 0, none⟩)), (2, .pointer (some ⟨rb, 0, none⟩)), (3, .pointer (some ⟨pb, 0, none⟩)), (4, vi r), (5, vi x.c)])
      (fun x => [blk pb [vi m, vi m, .slice As (startTo m S r).length cs, .slice x.Ac (colsTo m S r x.c).length x.cc] TP, osl TI vi As cs (startTo m S r), osl TI vi x.Ac x.cc (colsTo m S r x.c), blk gb (graC m A on.length c) TGh, blk rb pat0 TP])
      (fun x => (m - x.c).toNat) ⟨r, 0, As, cs, Ac, cc⟩ ⟨by simp, by dsimp only; omega⟩ ?_
    rintro ⟨_, k, _, _, Ac, cc⟩ ⟨hk0, hk1⟩
    dsimp only at hk0 hk1 ⊢
    have hcl := colsTo_len hm S r k
    by_cases hk : k < m
    · have hcell := cell_lt (r := (r : Int)) (c := k) (rows := (m : Int)) (width := m) (by omega) (by omega) hk0 hk
      have hat := hg.at_ r k (by omega) (by omega) hk0 hk
      have hstep := rowTo_step (f := S r) hk0 (by omega)
      cases hb : S r k with
      | true =>
        rw [hb] at hat
        rw [hb, if_pos rfl] at hstep
        have hst : colsTo m S r (k + 1) = colsTo m S r k ++ [k] := by unfold colsTo; rw [hstep, List.append_assoc]
        refine gg ?_
        refine gc1 (fun w hst => meet_c (n := m) (r := r) (x := k) w (oA.now hst) (by omega) (by omega) (by omega) (by omega) (by omega) (by omega) (by omega) true hat) (by exact rfl) ?_
        refine gg ?_
        refine gpush (by exact rfl) (fun b => by exact rfl) ?_
        intro bb A' c'
        rw [← hst]
        refine gg ?_
        exact gnx (⟨r, k + 1, As, cs, A', c'⟩ : SX) ⟨by dsimp only; omega, by dsimp only; omega⟩ (by dsimp only; omega)
      | false =>
        rw [hb] at hat
        rw [hb, if_neg (by simp)] at hstep
        have hst : colsTo m S r (k + 1) = colsTo m S r k := by unfold colsTo; rw [hstep]
        rw [← hst]
        refine gg ?_
        refine gc1 (fun w hst => meet_c (n := m) (r := r) (x := k) w (oA.now hst) (by omega) (by omega) (by omega) (by omega) (by omega) (by omega) (by omega) false hat) (by exact rfl) ?_
        refine gg ?_
        exact gnx (⟨r, k + 1, As, cs, Ac, cc⟩ : SX) ⟨by dsimp only; omega, by dsimp only; omega⟩ (by dsimp only; omega)
    · obtain rfl : k = m := by omega
      rw [colsTo_next hlt hS]
      refine gg ?_
      refine gpush (by exact rfl) (fun b => by exact rfl) ?_
      intro bb A' c'
      rw [← startTo_next hlt]
      refine gg ?_
      exact gnx (⟨r + 1, 0, A', c', Ac, cc⟩ : SX) (by dsimp only; omega) (by dsimp only; omega)
  · obtain rfl : r = m := by omega
    rw [(to_end r r S).1, (to_end r r S).2]
    refine gg ?_
    exact grt (⟨As, cs, Ac, cc⟩ : PA) trivial
section
variable {p : Pat} {x : PA}
theorem refLines_c (w : World) (hp : RdP w x p) (b : Bool) (z : PE) (hz : (if b then rowsS p else colsS p) = z) :
    Calls Try.prog 14 [pvl x p, .bool b].toArray w (Ret [] (fun y : PA => .tuple #[pvl y z.1, vi z.2]) (fun y => PatR y z.1) (fun _ => True) w) := by
  have op := hp.old
  by_cases hm : May p
  · obtain ⟨h1, h2, h3, h4, h5, h6, h7, h8⟩ := hm.toHead
    cases b with
    | true =>
      obtain rfl : (shutP p.rows.toNat p.rows (meetB p), (0 : Int)) = z := by rw [← hz, if_pos rfl]; exact (if_pos hm).symm
      have hls : ∀ w, RdP w x p → Calls Try.prog 47 [pvl x p, .bool true].toArray w (Ret [] (fun y : OX => .agg (graC p.rows.toNat y.A y.on.length y.c).toArray) (fun y => [osl TB vb y.A y.c y.on]) (fun y => IsGrid y.on p.rows.toNat p.rows.toNat (meetB p)) w) := fun w h => by
        have := linesR_c w h hm
        rwa [show p.rows = (p.rows.toNat : Int) by omega] at this
      have hw := meetB_within hm
      have hsh : ∀ (y : OX) (w : World), Rds vb w y.A y.c y.on → IsGrid y.on p.rows.toNat p.rows.toNat (meetB p) → Calls Try.prog 46 [.agg (graC p.rows.toNat y.A y.on.length y.c).toArray].toArray w (Ret [] (fun z : PA => pvl z (shutP p.rows.toNat p.rows (meetB p))) (fun z => PatR z (shutP p.rows.toNat p.rows (meetB p))) (fun _ => True) w) := fun y w h hg => by
        have := gshut_c (m := p.rows.toNat) w h hg (by omega) (by rw [show (p.rows.toNat : Int) = p.rows by omega]; exact hw)
        rwa [show shutP p.rows.toNat (p.rows.toNat : Int) (meetB p) = shutP p.rows.toNat p.rows (meetB p) by rw [show (p.rows.toNat : Int) = p.rows by omega]] at this
      unfold pvl patV at *
      refine calls_wc [] [] [.cell 4 TP, .tmp 5] (fun y : PA => [pvl y (shutP p.rows.toNat p.rows (meetB p)), vi 0]) Try.func14 rfl rfl (fun _ => rfl) Try.ntmps14 rfl (Own.nil w) rfl ?_
      refine gg ?_
      refine wl_op (ok_box rfl rfl rfl rfl rfl ?_); intro bp
      refine wl_op (ok_alloc rfl rfl rfl rfl (ze_of rfl) ?_); intro rb
      refine gg ?_
      refine gc1 (fun w hst => refMay_c (op.s.now hst) (op.c.now hst) true (by simp [hm])) (by exact rfl) ?_
      refine gg ?_
      refine gc3 [] (fun w hst hst1 => hls w (op.now hst)) (by exact rfl) ?_
      (repeat (first | refine gk1 ?_ | refine gk2 ?_ | refine gk3 ?_ | refine gk0 ?_ | refine gk4 ?_))
      rintro y1 hg
      dsimp only [List.cons_append, List.nil_append] at hg ⊢
      refine gg ?_
      refine gc3 [] (fun w hst hst1 => hsh y1 w (grd hst) hg) (by exact rfl) ?_
      (repeat (first | refine gk1 ?_ | refine gk2 ?_ | refine gk3 ?_ | refine gk0 ?_ | refine gk4 ?_))
      rintro y2 _
      dsimp only [List.cons_append, List.nil_append]
      refine gg ?_
      exact grt y2 trivial
    | false =>
      obtain rfl : (shutP p.width.toNat p.width (meetC p), (0 : Int)) = z := by rw [← hz, if_neg (by simp)]; exact (if_pos hm).symm
      have hls : ∀ w, RdP w x p → Calls Try.prog 47 [pvl x p, .bool false].toArray w (Ret [] (fun y : OX => .agg (graC p.width.toNat y.A y.on.length y.c).toArray) (fun y => [osl TB vb y.A y.c y.on]) (fun y => IsGrid y.on p.width.toNat p.width.toNat (meetC p)) w) := fun w h => by
        have := linesC_c w h hm
        rw [show (p.width.toNat : Int) = p.width by omega]
        exact this
      have hw := meetC_within hm
      have hsh : ∀ (y : OX) (w : World), Rds vb w y.A y.c y.on → IsGrid y.on p.width.toNat p.width.toNat (meetC p) → Calls Try.prog 46 [.agg (graC p.width.toNat y.A y.on.length y.c).toArray].toArray w (Ret [] (fun z : PA => pvl z (shutP p.width.toNat p.width (meetC p))) (fun z => PatR z (shutP p.width.toNat p.width (meetC p))) (fun _ => True) w) := fun y w h hg => by
        have := gshut_c (m := p.width.toNat) w h hg (by omega) (by rw [show (p.width.toNat : Int) = p.width by omega]; exact hw)
        rwa [show shutP p.width.toNat (p.width.toNat : Int) (meetC p) = shutP p.width.toNat p.width (meetC p) by rw [show (p.width.toNat : Int) = p.width by omega]] at this
      unfold pvl patV at *
      refine calls_wc [] [] [.cell 4 TP, .tmp 5] (fun y : PA => [pvl y (shutP p.width.toNat p.width (meetC p)), vi 0]) Try.func14 rfl rfl (fun _ => rfl) Try.ntmps14 rfl (Own.nil w) rfl ?_
      refine gg ?_
      refine wl_op (ok_box rfl rfl rfl rfl rfl ?_); intro bp
      refine wl_op (ok_alloc rfl rfl rfl rfl (ze_of rfl) ?_); intro rb
      refine gg ?_
      refine gc1 (fun w hst => refMay_c (op.s.now hst) (op.c.now hst) true (by simp [hm])) (by exact rfl) ?_
      refine gg ?_
      refine gc3 [] (fun w hst hst1 => hls w (op.now hst)) (by exact rfl) ?_
      (repeat (first | refine gk1 ?_ | refine gk2 ?_ | refine gk3 ?_ | refine gk0 ?_ | refine gk4 ?_))
      rintro y1 hg
      dsimp only [List.cons_append, List.nil_append] at hg ⊢
      refine gg ?_
      refine gc3 [] (fun w hst hst1 => hsh y1 w (grd hst) hg) (by exact rfl) ?_
      (repeat (first | refine gk1 ?_ | refine gk2 ?_ | refine gk3 ?_ | refine gk0 ?_ | refine gk4 ?_))
      rintro y2 _
      dsimp only [List.cons_append, List.nil_append]
      refine gg ?_
      exact grt y2 trivial
  · obtain rfl : (zP, (180 : Int)) = z := by
      rw [← hz]
      cases b with
      | true => rw [if_pos rfl]; exact (if_neg hm).symm
      | false => rw [if_neg (by simp)]; exact (if_neg hm).symm
    unfold pvl patV
    refine calls_wc [] [] [.cell 4 TP, .tmp 5] (fun y : PA => [pvl y zP, vi 180]) Try.func14 rfl rfl (fun _ => rfl) Try.ntmps14 rfl (Own.nil w) rfl ?_
    refine gnil ?_
    refine gnil ?_
    refine gg ?_
    refine wl_op (ok_box rfl rfl rfl rfl rfl ?_); intro bp
    refine wl_op (ok_alloc rfl rfl rfl rfl (ze_of rfl) ?_); intro rb
    refine gg ?_
    refine gc1 (fun w hst => refMay_c (op.s.now hst) (op.c.now hst) false (by simp [hm])) (by exact rfl) ?_
    refine gg ?_
    exact grt PA.nil trivial
end
end Go.Proofs.Ytoiiellaoikojaa
