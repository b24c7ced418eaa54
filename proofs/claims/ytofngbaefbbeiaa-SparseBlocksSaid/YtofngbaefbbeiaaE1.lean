/- Walks: the law SparseBlocks. -/
import Derived.Test.YtofngbaefbbeiaaE0
set_option linter.unusedVariables false
set_option linter.unusedSimpArgs false
set_option maxHeartbeats 16000000
namespace Go.Proofs.Ytofngbaefbbeiaa
open Go.RowKit
structure SbX where
  top : Int
  r : Int
  k : Int
  on : List Bool
theorem inB_on {p : Pat} {b : List Int} (h : On p.rows (hasB p)) : On p.rows (inB p b) := fun y z hyz => by
  unfold inB at hyz
  rw [Bool.and_eq_true] at hyz
  exact h _ _ hyz.1
section
variable {p : Pat} {x : PA}
theorem lawSparseBlocks_c (w : World) (hp : RdP w x p) :
    Calls Try.prog 12 [pvl x p].toArray w (one (.bool true) w) := by
  have op := hp.old
  unfold pvl patV
  by_cases he : blkE p = 0
  · obtain ⟨hm, hsq⟩ := blkE_zero he
    obtain ⟨h1, h2, h3, h4, h5, h6, h7, h8⟩ := hm.toHead
    obtain ⟨n, hn⟩ := Int.eq_ofNat_of_zero_le h1
    have hn2 : n ≤ 128 := by omega
    have hon : On p.rows (hasB p) := hasB_on hm hsq
    have hopen : ∀ w (y : PA), RdP w y p → Calls Try.prog 40 [pvl y p].toArray w (Ret [] (fun x : OX => .agg (gridC p.rows p.rows x.A x.on.length x.c).toArray) (fun x => [osl TB vb x.A x.c x.on]) (fun x => IsGrid x.on p.rows p.rows (hasB p)) w) := fun w y hy => by
      have := open_c w hy.s hy.c hm
      rwa [← hsq] at this
    obtain ⟨bs, hbs⟩ : ∃ b : Bool, b = true ↔ Sym p := by classical exact ⟨decide (Sym p), by simp⟩
    refine calls_wc [] [] [.tmp 2] (fun _ => [.bool true]) Try.func12 rfl rfl (fun _ => rfl) Try.ntmps12 rfl (Own.nil w) rfl ?_
    refine gg ?_
    refine wl_op (ok_box rfl rfl rfl rfl rfl ?_); intro bp
    refine gg ?_
    refine gc1 (fun w hst => begun_c w) (by exact rfl) ?_
    refine gg ?_
    refine gc3 [] (fun w hst hst1 => blocks_c (p := p) (x := x) w (op.now hst)) (by exact rfl) ?_
    (repeat (first | refine gk1 ?_ | refine gk2 ?_ | refine gk3 ?_ | refine gk0 ?_ | refine gk4 ?_))
    rintro ⟨A1, c1, b⟩ ⟨hb, _⟩
    dsimp only [List.cons_append, List.nil_append] at hb ⊢
    have hb := hb he
    rw [show p.rows.toNat = n by omega] at hb
    rw [he]
    refine gg ?_
    refine gc1 (fun w hst => refMay_c (op.s.now hst) (op.c.now hst) true (by simp [hm])) (by exact rfl) ?_
    refine gg ?_
    refine gc3 [] (fun w hst hst1 => comp_c (p := p) (x := x) w (op.now hst)) (by exact rfl) ?_
    (repeat (first | refine gk1 ?_ | refine gk2 ?_ | refine gk3 ?_ | refine gk0 ?_ | refine gk4 ?_))
    rintro ⟨A2, c2, c⟩ hc
    dsimp only [List.cons_append, List.nil_append] at hc ⊢
    rw [show (compS p).2 = 0 by rw [comp_ok hm hsq]]
    obtain ⟨m, F⟩ := BF.of hm hsq hn hb hc
    have hbl := F.len
    have hcl := F.clen
    have hmn := F.mn
    refine gg ?_
    refine gc3 [] (fun w hst hst1 => hopen w x (op.now hst)) (by exact rfl) ?_
    (repeat (first | refine gk1 ?_ | refine gk2 ?_ | refine gk3 ?_ | refine gk0 ?_ | refine gk4 ?_))
    rintro ⟨G1, d1, on1⟩ hg1
    dsimp only [List.cons_append, List.nil_append] at hg1 ⊢
    refine wl_op (ok_alloc rfl rfl rfl rfl (ze_of rfl) ?_); intro q7
    refine gg ?_
    refine gc3 [] (fun w hst hst1 => hopen w x (op.now hst)) (by exact rfl) ?_
    (repeat (first | refine gk1 ?_ | refine gk2 ?_ | refine gk3 ?_ | refine gk0 ?_ | refine gk4 ?_))
    rintro ⟨G2, d2, on2⟩ hg2
    dsimp only [List.cons_append, List.nil_append] at hg2 ⊢
    refine wl_op (ok_alloc rfl rfl rfl rfl (ze_of rfl) ?_); intro q8
    refine gg ?_
    have hgl1 := hg1.len
    have hgl2 := hg2.len
    obtain ⟨m0, m1⟩ := mul_small h1 h2 h1 h2
    obtain ⟨N2, hN2⟩ : ∃ N, N = on2.length := ⟨_, rfl⟩
    rw [← hN2]
    refine glp (fun y : SbX => 0 ≤ y.r ∧ y.r ≤ p.rows ∧ -1 ≤ y.top ∧ y.top < m ∧ IsGrid y.on p.rows p.rows (mixS (inB p b) (hasB p) y.r 0)) (fun y => [(1, .pointer (some ⟨bp, 0, none⟩)), (3, .slice A1 b.length c1), (5, .slice A2 c.length c2), (7, .pointer (some ⟨q7, 0, none⟩)), (8, .pointer (some ⟨q8, 0, none⟩)), (9, vi y.top), (10, vi y.r)])
      (fun y => [osl TI vi A1 c1 b, osl TI vi A2 c2 c, osl TB vb G1 d1 on1, blk q7 (gridC p.rows p.rows G1 on1.length d1) TGr, osl TB vb G2 d2 y.on, blk q8 (gridC p.rows p.rows G2 N2 d2) TGr, blk bp (pcs x p) TP]) (fun y => (p.rows - y.r).toNat) ⟨-1, 0, 0, on2⟩ ⟨by simp, h1, by simp, by dsimp only; omega, mix_zero hg2⟩ ?_
    rintro ⟨top, r, _, on⟩ ⟨hr0, hr1, ht0, ht1, hg⟩
    dsimp only at hr0 hr1 ht0 ht1 hg ⊢
    by_cases hr : r < p.rows
    · have hbr := F.rng r hr0 (by omega)
      have m2 := mul_small hr0 (show r ≤ 128 by omega) h1 h2
      by_cases hgt : top < gt b r
      · refine gg ?_
        refine wc_quiet mixed (by kernel_rfl) ?_
        refine gg ?_
        refine glp (fun y : SbX => 0 ≤ y.k ∧ y.k ≤ p.rows ∧ IsGrid y.on p.rows p.rows (mixS (inB p b) (hasB p) r y.k)) (fun y => [(1, .pointer (some ⟨bp, 0, none⟩)), (3, .slice A1 b.length c1), (5, .slice A2 c.length c2), (7, .pointer (some ⟨q7, 0, none⟩)), (8, .pointer (some ⟨q8, 0, none⟩)), (9, vi (gt b r)), (10, vi r), (11, vi y.k)])
          (fun y => [osl TI vi A1 c1 b, osl TI vi A2 c2 c, osl TB vb G1 d1 on1, blk q7 (gridC p.rows p.rows G1 on1.length d1) TGr, osl TB vb G2 d2 y.on, blk q8 (gridC p.rows p.rows G2 N2 d2) TGr, blk bp (pcs x p) TP]) (fun y => (p.rows - y.k).toNat) ⟨0, 0, 0, on⟩ ⟨by simp, h1, hg⟩ ?_
        rintro ⟨_, _, k, on⟩ ⟨hk0, hk1, hg⟩
        dsimp only at hk0 hk1 hg ⊢
        have hgl := hg.len
        by_cases hk : k < p.rows
        · have hbk := F.rng k hk0 (by omega)
          have hrk := hg1.at_ r k hr0 hr hk0 hk
          have lrk := cell_lt hr0 hr hk0 hk
          refine wc_know (φ := ∃ ad, G2 = some ad) (fun w hst => (grd (f := vb) (e := TB) (A := G2) (c := d2) (xs := on) hst).ad_ (by omega)) ?_
          rintro ⟨ga, rfl⟩
          have hcmp := F.comp r k hr0 (by omega) hk0 (by omega)
          cases h : hasB p r k with
          | false =>
            rw [h] at hrk
            have hv : inB p b r k = false := by unfold inB; rw [h]; rfl
            by_cases hbb : gt b r = gt b k
            · have hcc := hcmp hbb
              refine gg ?_
              refine wc_quiet mixed (by kernel_rfl) ?_
              refine gg ?_
              refine gc2 (fun w hst => at_c (rows := p.rows) (width := p.rows) (r := r) (x := k) w (grd hst) (by omega) (by omega) hr0 (by omega) hk0 (by omega) (by omega) _ hrk) (by exact rfl) ?_
              refine gg ?_
              refine gwa [osl TB vb (some ga) d2 on] ?_
              (repeat (first | refine gk1 ?_ | refine gk2 ?_ | refine gk3 ?_ | refine gk0 ?_ | refine gk4 ?_))
              dsimp only [List.cons_append, List.nil_append]
              (first | refine ga1 0 (by exact rfl) (by exact rfl) ?_ | refine ga2 0 (by exact rfl) (by exact rfl) ?_ | refine ga3 0 (by exact rfl) (by exact rfl) ?_ | refine ga4 0 (by exact rfl) (by exact rfl) ?_)
              (first | refine ga1 1 (by exact rfl) (by exact rfl) ?_ | refine ga2 1 (by exact rfl) (by exact rfl) ?_ | refine ga3 1 (by exact rfl) (by exact rfl) ?_ | refine ga4 1 (by exact rfl) (by exact rfl) ?_)
              (first | refine ga1 2 (by exact rfl) (by exact rfl) ?_ | refine ga2 2 (by exact rfl) (by exact rfl) ?_ | refine ga3 2 (by exact rfl) (by exact rfl) ?_ | refine ga4 2 (by exact rfl) (by exact rfl) ?_)
              (first | refine ga1 3 (by exact rfl) (by exact rfl) ?_ | refine ga2 3 (by exact rfl) (by exact rfl) ?_ | refine ga3 3 (by exact rfl) (by exact rfl) ?_ | refine ga4 3 (by exact rfl) (by exact rfl) ?_)
              (first | refine ga1 4 (by exact rfl) (by exact rfl) ?_ | refine ga2 4 (by exact rfl) (by exact rfl) ?_ | refine ga3 4 (by exact rfl) (by exact rfl) ?_ | refine ga4 4 (by exact rfl) (by exact rfl) ?_)
              (first | refine ga1 5 (by exact rfl) (by exact rfl) ?_ | refine ga2 5 (by exact rfl) (by exact rfl) ?_ | refine ga3 5 (by exact rfl) (by exact rfl) ?_ | refine ga4 5 (by exact rfl) (by exact rfl) ?_)
              (first | refine ga1 6 (by exact rfl) (by exact rfl) ?_ | refine ga2 6 (by exact rfl) (by exact rfl) ?_ | refine ga3 6 (by exact rfl) (by exact rfl) ?_ | refine ga4 6 (by exact rfl) (by exact rfl) ?_)
              (first | refine ga1 7 (by exact rfl) (by exact rfl) ?_ | refine ga2 7 (by exact rfl) (by exact rfl) ?_ | refine ga3 7 (by exact rfl) (by exact rfl) ?_ | refine ga4 7 (by exact rfl) (by exact rfl) ?_)
              (first | refine ga1 8 (by exact rfl) (by exact rfl) ?_ | refine ga2 8 (by exact rfl) (by exact rfl) ?_ | refine ga3 8 (by exact rfl) (by exact rfl) ?_ | refine ga4 8 (by exact rfl) (by exact rfl) ?_)
              (first | refine ga1 9 (by exact rfl) (by exact rfl) ?_ | refine ga2 9 (by exact rfl) (by exact rfl) ?_ | refine ga3 9 (by exact rfl) (by exact rfl) ?_ | refine ga4 9 (by exact rfl) (by exact rfl) ?_)
              (first | refine ga1 10 (by exact rfl) (by exact rfl) ?_ | refine ga2 10 (by exact rfl) (by exact rfl) ?_ | refine ga3 10 (by exact rfl) (by exact rfl) ?_ | refine ga4 10 (by exact rfl) (by exact rfl) ?_)
              refine gaOne 11 rfl ?_
              refine ok_call1 (fun w hst => at_c (rows := p.rows) (width := p.rows) (r := r) (x := k) w (grd hst) (by omega) (by omega) hr0 (by omega) hk0 (by omega) (by omega) _ hrk) rfl (by rfl) (bod_of rfl) (by rfl) (by rfl) (by rfl) ?_
              refine ⟨by (repeat (first | exact Suf.refl | exact Suf.nil | exact Suf.app _ _ | apply Suf.cons)), ?_⟩
              (first | refine ga1 12 (by exact rfl) (by exact rfl) ?_ | refine ga2 12 (by exact rfl) (by exact rfl) ?_ | refine ga3 12 (by exact rfl) (by exact rfl) ?_ | refine ga4 12 (by exact rfl) (by exact rfl) ?_)
              (first | refine ga1 13 (by exact rfl) (by exact rfl) ?_ | refine ga2 13 (by exact rfl) (by exact rfl) ?_ | refine ga3 13 (by exact rfl) (by exact rfl) ?_ | refine ga4 13 (by exact rfl) (by exact rfl) ?_)
              (first | refine ga1 14 (by exact rfl) (by exact rfl) ?_ | refine ga2 14 (by exact rfl) (by exact rfl) ?_ | refine ga3 14 (by exact rfl) (by exact rfl) ?_ | refine ga4 14 (by exact rfl) (by exact rfl) ?_)
              (first | refine ga1 15 (by exact rfl) (by exact rfl) ?_ | refine ga2 15 (by exact rfl) (by exact rfl) ?_ | refine ga3 15 (by exact rfl) (by exact rfl) ?_ | refine ga4 15 (by exact rfl) (by exact rfl) ?_)
              (first | refine ga1 16 (by exact rfl) (by exact rfl) ?_ | refine ga2 16 (by exact rfl) (by exact rfl) ?_ | refine ga3 16 (by exact rfl) (by exact rfl) ?_ | refine ga4 16 (by exact rfl) (by exact rfl) ?_)
              (first | refine ga1 17 (by exact rfl) (by exact rfl) ?_ | refine ga2 17 (by exact rfl) (by exact rfl) ?_ | refine ga3 17 (by exact rfl) (by exact rfl) ?_ | refine ga4 17 (by exact rfl) (by exact rfl) ?_)
              (first | refine ga1 18 (by exact rfl) (by exact rfl) ?_ | refine ga2 18 (by exact rfl) (by exact rfl) ?_ | refine ga3 18 (by exact rfl) (by exact rfl) ?_ | refine ga4 18 (by exact rfl) (by exact rfl) ?_)
              (first | refine ga1 19 (by exact rfl) (by exact rfl) ?_ | refine ga2 19 (by exact rfl) (by exact rfl) ?_ | refine ga3 19 (by exact rfl) (by exact rfl) ?_ | refine ga4 19 (by exact rfl) (by exact rfl) ?_)
              (first | refine ga1 20 (by exact rfl) (by exact rfl) ?_ | refine ga2 20 (by exact rfl) (by exact rfl) ?_ | refine ga3 20 (by exact rfl) (by exact rfl) ?_ | refine ga4 20 (by exact rfl) (by exact rfl) ?_)
              (first | refine ga1 21 (by exact rfl) (by exact rfl) ?_ | refine ga2 21 (by exact rfl) (by exact rfl) ?_ | refine ga3 21 (by exact rfl) (by exact rfl) ?_ | refine ga4 21 (by exact rfl) (by exact rfl) ?_)
              (first | refine ga1 22 (by exact rfl) (by exact rfl) ?_ | refine ga2 22 (by exact rfl) (by exact rfl) ?_ | refine ga3 22 (by exact rfl) (by exact rfl) ?_ | refine ga4 22 (by exact rfl) (by exact rfl) ?_)
              (first | refine ga1 23 (by exact rfl) (by exact rfl) ?_ | refine ga2 23 (by exact rfl) (by exact rfl) ?_ | refine ga3 23 (by exact rfl) (by exact rfl) ?_ | refine ga4 23 (by exact rfl) (by exact rfl) ?_)
              refine gaOne 24 rfl ?_
              refine gt0 (by exact rfl) ?_
              refine ⟨by (repeat (first | exact Suf.refl | exact Suf.nil | exact Suf.app _ _ | apply Suf.cons)), ?_⟩
              refine gaDone ?_
              refine gg ?_
              exact gnx (⟨0, 0, k + 1, on.set (r * p.rows + k).toNat false⟩ : SbX) ⟨by dsimp only; omega, by dsimp only; omega, mix_set hg hr0 hr hk0 hk hv⟩ (by dsimp only; omega)
            · refine gg ?_
              refine wc_quiet mixed (by kernel_rfl) ?_
              refine gg ?_
              refine gc2 (fun w hst => at_c (rows := p.rows) (width := p.rows) (r := r) (x := k) w (grd hst) (by omega) (by omega) hr0 (by omega) hk0 (by omega) (by omega) _ hrk) (by exact rfl) ?_
              refine gg ?_
              refine gwa [osl TB vb (some ga) d2 on] ?_
              (repeat (first | refine gk1 ?_ | refine gk2 ?_ | refine gk3 ?_ | refine gk0 ?_ | refine gk4 ?_))
              dsimp only [List.cons_append, List.nil_append]
              (first | refine ga1 0 (by exact rfl) (by exact rfl) ?_ | refine ga2 0 (by exact rfl) (by exact rfl) ?_ | refine ga3 0 (by exact rfl) (by exact rfl) ?_ | refine ga4 0 (by exact rfl) (by exact rfl) ?_)
              (first | refine ga1 1 (by exact rfl) (by exact rfl) ?_ | refine ga2 1 (by exact rfl) (by exact rfl) ?_ | refine ga3 1 (by exact rfl) (by exact rfl) ?_ | refine ga4 1 (by exact rfl) (by exact rfl) ?_)
              (first | refine ga1 2 (by exact rfl) (by exact rfl) ?_ | refine ga2 2 (by exact rfl) (by exact rfl) ?_ | refine ga3 2 (by exact rfl) (by exact rfl) ?_ | refine ga4 2 (by exact rfl) (by exact rfl) ?_)
              (first | refine ga1 3 (by exact rfl) (by exact rfl) ?_ | refine ga2 3 (by exact rfl) (by exact rfl) ?_ | refine ga3 3 (by exact rfl) (by exact rfl) ?_ | refine ga4 3 (by exact rfl) (by exact rfl) ?_)
              (first | refine ga1 4 (by exact rfl) (by exact rfl) ?_ | refine ga2 4 (by exact rfl) (by exact rfl) ?_ | refine ga3 4 (by exact rfl) (by exact rfl) ?_ | refine ga4 4 (by exact rfl) (by exact rfl) ?_)
              (first | refine ga1 5 (by exact rfl) (by exact rfl) ?_ | refine ga2 5 (by exact rfl) (by exact rfl) ?_ | refine ga3 5 (by exact rfl) (by exact rfl) ?_ | refine ga4 5 (by exact rfl) (by exact rfl) ?_)
              (first | refine ga1 6 (by exact rfl) (by exact rfl) ?_ | refine ga2 6 (by exact rfl) (by exact rfl) ?_ | refine ga3 6 (by exact rfl) (by exact rfl) ?_ | refine ga4 6 (by exact rfl) (by exact rfl) ?_)
              (first | refine ga1 7 (by exact rfl) (by exact rfl) ?_ | refine ga2 7 (by exact rfl) (by exact rfl) ?_ | refine ga3 7 (by exact rfl) (by exact rfl) ?_ | refine ga4 7 (by exact rfl) (by exact rfl) ?_)
              (first | refine ga1 8 (by exact rfl) (by exact rfl) ?_ | refine ga2 8 (by exact rfl) (by exact rfl) ?_ | refine ga3 8 (by exact rfl) (by exact rfl) ?_ | refine ga4 8 (by exact rfl) (by exact rfl) ?_)
              (first | refine ga1 9 (by exact rfl) (by exact rfl) ?_ | refine ga2 9 (by exact rfl) (by exact rfl) ?_ | refine ga3 9 (by exact rfl) (by exact rfl) ?_ | refine ga4 9 (by exact rfl) (by exact rfl) ?_)
              (first | refine ga1 10 (by exact rfl) (by exact rfl) ?_ | refine ga2 10 (by exact rfl) (by exact rfl) ?_ | refine ga3 10 (by exact rfl) (by exact rfl) ?_ | refine ga4 10 (by exact rfl) (by exact rfl) ?_)
              refine gaOne 11 rfl ?_
              refine ok_call1 (fun w hst => at_c (rows := p.rows) (width := p.rows) (r := r) (x := k) w (grd hst) (by omega) (by omega) hr0 (by omega) hk0 (by omega) (by omega) _ hrk) rfl (by rfl) (bod_of rfl) (by rfl) (by rfl) (by rfl) ?_
              refine ⟨by (repeat (first | exact Suf.refl | exact Suf.nil | exact Suf.app _ _ | apply Suf.cons)), ?_⟩
              (first | refine ga1 12 (by exact rfl) (by exact rfl) ?_ | refine ga2 12 (by exact rfl) (by exact rfl) ?_ | refine ga3 12 (by exact rfl) (by exact rfl) ?_ | refine ga4 12 (by exact rfl) (by exact rfl) ?_)
              (first | refine ga1 13 (by exact rfl) (by exact rfl) ?_ | refine ga2 13 (by exact rfl) (by exact rfl) ?_ | refine ga3 13 (by exact rfl) (by exact rfl) ?_ | refine ga4 13 (by exact rfl) (by exact rfl) ?_)
              (first | refine ga1 14 (by exact rfl) (by exact rfl) ?_ | refine ga2 14 (by exact rfl) (by exact rfl) ?_ | refine ga3 14 (by exact rfl) (by exact rfl) ?_ | refine ga4 14 (by exact rfl) (by exact rfl) ?_)
              (first | refine ga1 15 (by exact rfl) (by exact rfl) ?_ | refine ga2 15 (by exact rfl) (by exact rfl) ?_ | refine ga3 15 (by exact rfl) (by exact rfl) ?_ | refine ga4 15 (by exact rfl) (by exact rfl) ?_)
              (first | refine ga1 16 (by exact rfl) (by exact rfl) ?_ | refine ga2 16 (by exact rfl) (by exact rfl) ?_ | refine ga3 16 (by exact rfl) (by exact rfl) ?_ | refine ga4 16 (by exact rfl) (by exact rfl) ?_)
              (first | refine ga1 17 (by exact rfl) (by exact rfl) ?_ | refine ga2 17 (by exact rfl) (by exact rfl) ?_ | refine ga3 17 (by exact rfl) (by exact rfl) ?_ | refine ga4 17 (by exact rfl) (by exact rfl) ?_)
              (first | refine ga1 18 (by exact rfl) (by exact rfl) ?_ | refine ga2 18 (by exact rfl) (by exact rfl) ?_ | refine ga3 18 (by exact rfl) (by exact rfl) ?_ | refine ga4 18 (by exact rfl) (by exact rfl) ?_)
              (first | refine ga1 19 (by exact rfl) (by exact rfl) ?_ | refine ga2 19 (by exact rfl) (by exact rfl) ?_ | refine ga3 19 (by exact rfl) (by exact rfl) ?_ | refine ga4 19 (by exact rfl) (by exact rfl) ?_)
              (first | refine ga1 20 (by exact rfl) (by exact rfl) ?_ | refine ga2 20 (by exact rfl) (by exact rfl) ?_ | refine ga3 20 (by exact rfl) (by exact rfl) ?_ | refine ga4 20 (by exact rfl) (by exact rfl) ?_)
              (first | refine ga1 21 (by exact rfl) (by exact rfl) ?_ | refine ga2 21 (by exact rfl) (by exact rfl) ?_ | refine ga3 21 (by exact rfl) (by exact rfl) ?_ | refine ga4 21 (by exact rfl) (by exact rfl) ?_)
              (first | refine ga1 22 (by exact rfl) (by exact rfl) ?_ | refine ga2 22 (by exact rfl) (by exact rfl) ?_ | refine ga3 22 (by exact rfl) (by exact rfl) ?_ | refine ga4 22 (by exact rfl) (by exact rfl) ?_)
              (first | refine ga1 23 (by exact rfl) (by exact rfl) ?_ | refine ga2 23 (by exact rfl) (by exact rfl) ?_ | refine ga3 23 (by exact rfl) (by exact rfl) ?_ | refine ga4 23 (by exact rfl) (by exact rfl) ?_)
              refine gaOne 24 rfl ?_
              refine gt0 (by exact rfl) ?_
              refine ⟨by (repeat (first | exact Suf.refl | exact Suf.nil | exact Suf.app _ _ | apply Suf.cons)), ?_⟩
              refine gaDone ?_
              refine gg ?_
              exact gnx (⟨0, 0, k + 1, on.set (r * p.rows + k).toNat false⟩ : SbX) ⟨by dsimp only; omega, by dsimp only; omega, mix_set hg hr0 hr hk0 hk hv⟩ (by dsimp only; omega)
          | true =>
            rw [h] at hrk
            have hout := F.out r k h
            by_cases hbb : gt b r = gt b k
            · have hcc := hcmp hbb
              have hv : inB p b r k = true := by unfold inB; rw [h, hbb]; simp
              refine gg ?_
              refine wc_quiet mixed (by kernel_rfl) ?_
              refine gg ?_
              refine gc2 (fun w hst => at_c (rows := p.rows) (width := p.rows) (r := r) (x := k) w (grd hst) (by omega) (by omega) hr0 (by omega) hk0 (by omega) (by omega) _ hrk) (by exact rfl) ?_
              refine gg ?_
              refine gwa [osl TB vb (some ga) d2 on] ?_
              (repeat (first | refine gk1 ?_ | refine gk2 ?_ | refine gk3 ?_ | refine gk0 ?_ | refine gk4 ?_))
              dsimp only [List.cons_append, List.nil_append]
              (first | refine ga1 0 (by exact rfl) (by exact rfl) ?_ | refine ga2 0 (by exact rfl) (by exact rfl) ?_ | refine ga3 0 (by exact rfl) (by exact rfl) ?_ | refine ga4 0 (by exact rfl) (by exact rfl) ?_)
              (first | refine ga1 1 (by exact rfl) (by exact rfl) ?_ | refine ga2 1 (by exact rfl) (by exact rfl) ?_ | refine ga3 1 (by exact rfl) (by exact rfl) ?_ | refine ga4 1 (by exact rfl) (by exact rfl) ?_)
              (first | refine ga1 2 (by exact rfl) (by exact rfl) ?_ | refine ga2 2 (by exact rfl) (by exact rfl) ?_ | refine ga3 2 (by exact rfl) (by exact rfl) ?_ | refine ga4 2 (by exact rfl) (by exact rfl) ?_)
              (first | refine ga1 3 (by exact rfl) (by exact rfl) ?_ | refine ga2 3 (by exact rfl) (by exact rfl) ?_ | refine ga3 3 (by exact rfl) (by exact rfl) ?_ | refine ga4 3 (by exact rfl) (by exact rfl) ?_)
              (first | refine ga1 4 (by exact rfl) (by exact rfl) ?_ | refine ga2 4 (by exact rfl) (by exact rfl) ?_ | refine ga3 4 (by exact rfl) (by exact rfl) ?_ | refine ga4 4 (by exact rfl) (by exact rfl) ?_)
              (first | refine ga1 5 (by exact rfl) (by exact rfl) ?_ | refine ga2 5 (by exact rfl) (by exact rfl) ?_ | refine ga3 5 (by exact rfl) (by exact rfl) ?_ | refine ga4 5 (by exact rfl) (by exact rfl) ?_)
              (first | refine ga1 6 (by exact rfl) (by exact rfl) ?_ | refine ga2 6 (by exact rfl) (by exact rfl) ?_ | refine ga3 6 (by exact rfl) (by exact rfl) ?_ | refine ga4 6 (by exact rfl) (by exact rfl) ?_)
              (first | refine ga1 7 (by exact rfl) (by exact rfl) ?_ | refine ga2 7 (by exact rfl) (by exact rfl) ?_ | refine ga3 7 (by exact rfl) (by exact rfl) ?_ | refine ga4 7 (by exact rfl) (by exact rfl) ?_)
              (first | refine ga1 8 (by exact rfl) (by exact rfl) ?_ | refine ga2 8 (by exact rfl) (by exact rfl) ?_ | refine ga3 8 (by exact rfl) (by exact rfl) ?_ | refine ga4 8 (by exact rfl) (by exact rfl) ?_)
              (first | refine ga1 9 (by exact rfl) (by exact rfl) ?_ | refine ga2 9 (by exact rfl) (by exact rfl) ?_ | refine ga3 9 (by exact rfl) (by exact rfl) ?_ | refine ga4 9 (by exact rfl) (by exact rfl) ?_)
              (first | refine ga1 10 (by exact rfl) (by exact rfl) ?_ | refine ga2 10 (by exact rfl) (by exact rfl) ?_ | refine ga3 10 (by exact rfl) (by exact rfl) ?_ | refine ga4 10 (by exact rfl) (by exact rfl) ?_)
              refine gaOne 11 rfl ?_
              refine ok_call1 (fun w hst => at_c (rows := p.rows) (width := p.rows) (r := r) (x := k) w (grd hst) (by omega) (by omega) hr0 (by omega) hk0 (by omega) (by omega) _ hrk) rfl (by rfl) (bod_of rfl) (by rfl) (by rfl) (by rfl) ?_
              refine ⟨by (repeat (first | exact Suf.refl | exact Suf.nil | exact Suf.app _ _ | apply Suf.cons)), ?_⟩
              (first | refine ga1 12 (by exact rfl) (by exact rfl) ?_ | refine ga2 12 (by exact rfl) (by exact rfl) ?_ | refine ga3 12 (by exact rfl) (by exact rfl) ?_ | refine ga4 12 (by exact rfl) (by exact rfl) ?_)
              (first | refine ga1 13 (by exact rfl) (by exact rfl) ?_ | refine ga2 13 (by exact rfl) (by exact rfl) ?_ | refine ga3 13 (by exact rfl) (by exact rfl) ?_ | refine ga4 13 (by exact rfl) (by exact rfl) ?_)
              (first | refine ga1 14 (by exact rfl) (by exact rfl) ?_ | refine ga2 14 (by exact rfl) (by exact rfl) ?_ | refine ga3 14 (by exact rfl) (by exact rfl) ?_ | refine ga4 14 (by exact rfl) (by exact rfl) ?_)
              (first | refine ga1 15 (by exact rfl) (by exact rfl) ?_ | refine ga2 15 (by exact rfl) (by exact rfl) ?_ | refine ga3 15 (by exact rfl) (by exact rfl) ?_ | refine ga4 15 (by exact rfl) (by exact rfl) ?_)
              (first | refine ga1 16 (by exact rfl) (by exact rfl) ?_ | refine ga2 16 (by exact rfl) (by exact rfl) ?_ | refine ga3 16 (by exact rfl) (by exact rfl) ?_ | refine ga4 16 (by exact rfl) (by exact rfl) ?_)
              (first | refine ga1 17 (by exact rfl) (by exact rfl) ?_ | refine ga2 17 (by exact rfl) (by exact rfl) ?_ | refine ga3 17 (by exact rfl) (by exact rfl) ?_ | refine ga4 17 (by exact rfl) (by exact rfl) ?_)
              (first | refine ga1 18 (by exact rfl) (by exact rfl) ?_ | refine ga2 18 (by exact rfl) (by exact rfl) ?_ | refine ga3 18 (by exact rfl) (by exact rfl) ?_ | refine ga4 18 (by exact rfl) (by exact rfl) ?_)
              (first | refine ga1 19 (by exact rfl) (by exact rfl) ?_ | refine ga2 19 (by exact rfl) (by exact rfl) ?_ | refine ga3 19 (by exact rfl) (by exact rfl) ?_ | refine ga4 19 (by exact rfl) (by exact rfl) ?_)
              (first | refine ga1 20 (by exact rfl) (by exact rfl) ?_ | refine ga2 20 (by exact rfl) (by exact rfl) ?_ | refine ga3 20 (by exact rfl) (by exact rfl) ?_ | refine ga4 20 (by exact rfl) (by exact rfl) ?_)
              (first | refine ga1 21 (by exact rfl) (by exact rfl) ?_ | refine ga2 21 (by exact rfl) (by exact rfl) ?_ | refine ga3 21 (by exact rfl) (by exact rfl) ?_ | refine ga4 21 (by exact rfl) (by exact rfl) ?_)
              (first | refine ga1 22 (by exact rfl) (by exact rfl) ?_ | refine ga2 22 (by exact rfl) (by exact rfl) ?_ | refine ga3 22 (by exact rfl) (by exact rfl) ?_ | refine ga4 22 (by exact rfl) (by exact rfl) ?_)
              (first | refine ga1 23 (by exact rfl) (by exact rfl) ?_ | refine ga2 23 (by exact rfl) (by exact rfl) ?_ | refine ga3 23 (by exact rfl) (by exact rfl) ?_ | refine ga4 23 (by exact rfl) (by exact rfl) ?_)
              refine gaOne 24 rfl ?_
              refine gt0 (by exact rfl) ?_
              refine ⟨by (repeat (first | exact Suf.refl | exact Suf.nil | exact Suf.app _ _ | apply Suf.cons)), ?_⟩
              refine gaDone ?_
              refine gg ?_
              exact gnx (⟨0, 0, k + 1, on.set (r * p.rows + k).toNat true⟩ : SbX) ⟨by dsimp only; omega, by dsimp only; omega, mix_set hg hr0 hr hk0 hk hv⟩ (by dsimp only; omega)
            · have hv : inB p b r k = false := by unfold inB; rw [h]; simp [hbb]
              refine gg ?_
              refine wc_quiet mixed (by kernel_rfl) ?_
              refine gg ?_
              refine gc2 (fun w hst => at_c (rows := p.rows) (width := p.rows) (r := r) (x := k) w (grd hst) (by omega) (by omega) hr0 (by omega) hk0 (by omega) (by omega) _ hrk) (by exact rfl) ?_
              refine gg ?_
              refine gwa [osl TB vb (some ga) d2 on] ?_
              (repeat (first | refine gk1 ?_ | refine gk2 ?_ | refine gk3 ?_ | refine gk0 ?_ | refine gk4 ?_))
              dsimp only [List.cons_append, List.nil_append]
              (first | refine ga1 0 (by exact rfl) (by exact rfl) ?_ | refine ga2 0 (by exact rfl) (by exact rfl) ?_ | refine ga3 0 (by exact rfl) (by exact rfl) ?_ | refine ga4 0 (by exact rfl) (by exact rfl) ?_)
              (first | refine ga1 1 (by exact rfl) (by exact rfl) ?_ | refine ga2 1 (by exact rfl) (by exact rfl) ?_ | refine ga3 1 (by exact rfl) (by exact rfl) ?_ | refine ga4 1 (by exact rfl) (by exact rfl) ?_)
              (first | refine ga1 2 (by exact rfl) (by exact rfl) ?_ | refine ga2 2 (by exact rfl) (by exact rfl) ?_ | refine ga3 2 (by exact rfl) (by exact rfl) ?_ | refine ga4 2 (by exact rfl) (by exact rfl) ?_)
              (first | refine ga1 3 (by exact rfl) (by exact rfl) ?_ | refine ga2 3 (by exact rfl) (by exact rfl) ?_ | refine ga3 3 (by exact rfl) (by exact rfl) ?_ | refine ga4 3 (by exact rfl) (by exact rfl) ?_)
              (first | refine ga1 4 (by exact rfl) (by exact rfl) ?_ | refine ga2 4 (by exact rfl) (by exact rfl) ?_ | refine ga3 4 (by exact rfl) (by exact rfl) ?_ | refine ga4 4 (by exact rfl) (by exact rfl) ?_)
              (first | refine ga1 5 (by exact rfl) (by exact rfl) ?_ | refine ga2 5 (by exact rfl) (by exact rfl) ?_ | refine ga3 5 (by exact rfl) (by exact rfl) ?_ | refine ga4 5 (by exact rfl) (by exact rfl) ?_)
              (first | refine ga1 6 (by exact rfl) (by exact rfl) ?_ | refine ga2 6 (by exact rfl) (by exact rfl) ?_ | refine ga3 6 (by exact rfl) (by exact rfl) ?_ | refine ga4 6 (by exact rfl) (by exact rfl) ?_)
              (first | refine ga1 7 (by exact rfl) (by exact rfl) ?_ | refine ga2 7 (by exact rfl) (by exact rfl) ?_ | refine ga3 7 (by exact rfl) (by exact rfl) ?_ | refine ga4 7 (by exact rfl) (by exact rfl) ?_)
              (first | refine ga1 8 (by exact rfl) (by exact rfl) ?_ | refine ga2 8 (by exact rfl) (by exact rfl) ?_ | refine ga3 8 (by exact rfl) (by exact rfl) ?_ | refine ga4 8 (by exact rfl) (by exact rfl) ?_)
              (first | refine ga1 9 (by exact rfl) (by exact rfl) ?_ | refine ga2 9 (by exact rfl) (by exact rfl) ?_ | refine ga3 9 (by exact rfl) (by exact rfl) ?_ | refine ga4 9 (by exact rfl) (by exact rfl) ?_)
              (first | refine ga1 10 (by exact rfl) (by exact rfl) ?_ | refine ga2 10 (by exact rfl) (by exact rfl) ?_ | refine ga3 10 (by exact rfl) (by exact rfl) ?_ | refine ga4 10 (by exact rfl) (by exact rfl) ?_)
              refine gaOne 11 rfl ?_
              refine ok_call1 (fun w hst => at_c (rows := p.rows) (width := p.rows) (r := r) (x := k) w (grd hst) (by omega) (by omega) hr0 (by omega) hk0 (by omega) (by omega) _ hrk) rfl (by rfl) (bod_of rfl) (by rfl) (by rfl) (by rfl) ?_
              refine ⟨by (repeat (first | exact Suf.refl | exact Suf.nil | exact Suf.app _ _ | apply Suf.cons)), ?_⟩
              (first | refine ga1 12 (by exact rfl) (by exact rfl) ?_ | refine ga2 12 (by exact rfl) (by exact rfl) ?_ | refine ga3 12 (by exact rfl) (by exact rfl) ?_ | refine ga4 12 (by exact rfl) (by exact rfl) ?_)
              (first | refine ga1 13 (by exact rfl) (by exact rfl) ?_ | refine ga2 13 (by exact rfl) (by exact rfl) ?_ | refine ga3 13 (by exact rfl) (by exact rfl) ?_ | refine ga4 13 (by exact rfl) (by exact rfl) ?_)
              (first | refine ga1 14 (by exact rfl) (by exact rfl) ?_ | refine ga2 14 (by exact rfl) (by exact rfl) ?_ | refine ga3 14 (by exact rfl) (by exact rfl) ?_ | refine ga4 14 (by exact rfl) (by exact rfl) ?_)
              (first | refine ga1 15 (by exact rfl) (by exact rfl) ?_ | refine ga2 15 (by exact rfl) (by exact rfl) ?_ | refine ga3 15 (by exact rfl) (by exact rfl) ?_ | refine ga4 15 (by exact rfl) (by exact rfl) ?_)
              (first | refine ga1 16 (by exact rfl) (by exact rfl) ?_ | refine ga2 16 (by exact rfl) (by exact rfl) ?_ | refine ga3 16 (by exact rfl) (by exact rfl) ?_ | refine ga4 16 (by exact rfl) (by exact rfl) ?_)
              (first | refine ga1 17 (by exact rfl) (by exact rfl) ?_ | refine ga2 17 (by exact rfl) (by exact rfl) ?_ | refine ga3 17 (by exact rfl) (by exact rfl) ?_ | refine ga4 17 (by exact rfl) (by exact rfl) ?_)
              (first | refine ga1 18 (by exact rfl) (by exact rfl) ?_ | refine ga2 18 (by exact rfl) (by exact rfl) ?_ | refine ga3 18 (by exact rfl) (by exact rfl) ?_ | refine ga4 18 (by exact rfl) (by exact rfl) ?_)
              (first | refine ga1 19 (by exact rfl) (by exact rfl) ?_ | refine ga2 19 (by exact rfl) (by exact rfl) ?_ | refine ga3 19 (by exact rfl) (by exact rfl) ?_ | refine ga4 19 (by exact rfl) (by exact rfl) ?_)
              (first | refine ga1 20 (by exact rfl) (by exact rfl) ?_ | refine ga2 20 (by exact rfl) (by exact rfl) ?_ | refine ga3 20 (by exact rfl) (by exact rfl) ?_ | refine ga4 20 (by exact rfl) (by exact rfl) ?_)
              (first | refine ga1 21 (by exact rfl) (by exact rfl) ?_ | refine ga2 21 (by exact rfl) (by exact rfl) ?_ | refine ga3 21 (by exact rfl) (by exact rfl) ?_ | refine ga4 21 (by exact rfl) (by exact rfl) ?_)
              (first | refine ga1 22 (by exact rfl) (by exact rfl) ?_ | refine ga2 22 (by exact rfl) (by exact rfl) ?_ | refine ga3 22 (by exact rfl) (by exact rfl) ?_ | refine ga4 22 (by exact rfl) (by exact rfl) ?_)
              (first | refine ga1 23 (by exact rfl) (by exact rfl) ?_ | refine ga2 23 (by exact rfl) (by exact rfl) ?_ | refine ga3 23 (by exact rfl) (by exact rfl) ?_ | refine ga4 23 (by exact rfl) (by exact rfl) ?_)
              refine gaOne 24 rfl ?_
              refine gt0 (by exact rfl) ?_
              refine ⟨by (repeat (first | exact Suf.refl | exact Suf.nil | exact Suf.app _ _ | apply Suf.cons)), ?_⟩
              refine gaDone ?_
              refine gg ?_
              exact gnx (⟨0, 0, k + 1, on.set (r * p.rows + k).toNat false⟩ : SbX) ⟨by dsimp only; omega, by dsimp only; omega, mix_set hg hr0 hr hk0 hk hv⟩ (by dsimp only; omega)
        · obtain rfl : k = p.rows := by omega
          refine gg ?_
          exact gnx (⟨(gt b r), r + 1, 0, on⟩ : SbX) ⟨by dsimp only; omega, by dsimp only; omega, by dsimp only; omega, by dsimp only; omega, mix_next hg⟩ (by dsimp only; omega)
      · refine gg ?_
        refine wc_quiet mixed (by kernel_rfl) ?_
        refine gg ?_
        refine glp (fun y : SbX => 0 ≤ y.k ∧ y.k ≤ p.rows ∧ IsGrid y.on p.rows p.rows (mixS (inB p b) (hasB p) r y.k)) (fun y => [(1, .pointer (some ⟨bp, 0, none⟩)), (3, .slice A1 b.length c1), (5, .slice A2 c.length c2), (7, .pointer (some ⟨q7, 0, none⟩)), (8, .pointer (some ⟨q8, 0, none⟩)), (9, vi top), (10, vi r), (11, vi y.k)])
          (fun y => [osl TI vi A1 c1 b, osl TI vi A2 c2 c, osl TB vb G1 d1 on1, blk q7 (gridC p.rows p.rows G1 on1.length d1) TGr, osl TB vb G2 d2 y.on, blk q8 (gridC p.rows p.rows G2 N2 d2) TGr, blk bp (pcs x p) TP]) (fun y => (p.rows - y.k).toNat) ⟨0, 0, 0, on⟩ ⟨by simp, h1, hg⟩ ?_
        rintro ⟨_, _, k, on⟩ ⟨hk0, hk1, hg⟩
        dsimp only at hk0 hk1 hg ⊢
        have hgl := hg.len
        by_cases hk : k < p.rows
        · have hbk := F.rng k hk0 (by omega)
          have hrk := hg1.at_ r k hr0 hr hk0 hk
          have lrk := cell_lt hr0 hr hk0 hk
          refine wc_know (φ := ∃ ad, G2 = some ad) (fun w hst => (grd (f := vb) (e := TB) (A := G2) (c := d2) (xs := on) hst).ad_ (by omega)) ?_
          rintro ⟨ga, rfl⟩
          have hcmp := F.comp r k hr0 (by omega) hk0 (by omega)
          cases h : hasB p r k with
          | false =>
            rw [h] at hrk
            have hv : inB p b r k = false := by unfold inB; rw [h]; rfl
            by_cases hbb : gt b r = gt b k
            · have hcc := hcmp hbb
              refine gg ?_
              refine wc_quiet mixed (by kernel_rfl) ?_
              refine gg ?_
              refine gc2 (fun w hst => at_c (rows := p.rows) (width := p.rows) (r := r) (x := k) w (grd hst) (by omega) (by omega) hr0 (by omega) hk0 (by omega) (by omega) _ hrk) (by exact rfl) ?_
              refine gg ?_
              refine gwa [osl TB vb (some ga) d2 on] ?_
              (repeat (first | refine gk1 ?_ | refine gk2 ?_ | refine gk3 ?_ | refine gk0 ?_ | refine gk4 ?_))
              dsimp only [List.cons_append, List.nil_append]
              (first | refine ga1 0 (by exact rfl) (by exact rfl) ?_ | refine ga2 0 (by exact rfl) (by exact rfl) ?_ | refine ga3 0 (by exact rfl) (by exact rfl) ?_ | refine ga4 0 (by exact rfl) (by exact rfl) ?_)
              (first | refine ga1 1 (by exact rfl) (by exact rfl) ?_ | refine ga2 1 (by exact rfl) (by exact rfl) ?_ | refine ga3 1 (by exact rfl) (by exact rfl) ?_ | refine ga4 1 (by exact rfl) (by exact rfl) ?_)
              (first | refine ga1 2 (by exact rfl) (by exact rfl) ?_ | refine ga2 2 (by exact rfl) (by exact rfl) ?_ | refine ga3 2 (by exact rfl) (by exact rfl) ?_ | refine ga4 2 (by exact rfl) (by exact rfl) ?_)
              (first | refine ga1 3 (by exact rfl) (by exact rfl) ?_ | refine ga2 3 (by exact rfl) (by exact rfl) ?_ | refine ga3 3 (by exact rfl) (by exact rfl) ?_ | refine ga4 3 (by exact rfl) (by exact rfl) ?_)
              (first | refine ga1 4 (by exact rfl) (by exact rfl) ?_ | refine ga2 4 (by exact rfl) (by exact rfl) ?_ | refine ga3 4 (by exact rfl) (by exact rfl) ?_ | refine ga4 4 (by exact rfl) (by exact rfl) ?_)
              (first | refine ga1 5 (by exact rfl) (by exact rfl) ?_ | refine ga2 5 (by exact rfl) (by exact rfl) ?_ | refine ga3 5 (by exact rfl) (by exact rfl) ?_ | refine ga4 5 (by exact rfl) (by exact rfl) ?_)
              (first | refine ga1 6 (by exact rfl) (by exact rfl) ?_ | refine ga2 6 (by exact rfl) (by exact rfl) ?_ | refine ga3 6 (by exact rfl) (by exact rfl) ?_ | refine ga4 6 (by exact rfl) (by exact rfl) ?_)
              (first | refine ga1 7 (by exact rfl) (by exact rfl) ?_ | refine ga2 7 (by exact rfl) (by exact rfl) ?_ | refine ga3 7 (by exact rfl) (by exact rfl) ?_ | refine ga4 7 (by exact rfl) (by exact rfl) ?_)
              (first | refine ga1 8 (by exact rfl) (by exact rfl) ?_ | refine ga2 8 (by exact rfl) (by exact rfl) ?_ | refine ga3 8 (by exact rfl) (by exact rfl) ?_ | refine ga4 8 (by exact rfl) (by exact rfl) ?_)
              (first | refine ga1 9 (by exact rfl) (by exact rfl) ?_ | refine ga2 9 (by exact rfl) (by exact rfl) ?_ | refine ga3 9 (by exact rfl) (by exact rfl) ?_ | refine ga4 9 (by exact rfl) (by exact rfl) ?_)
              (first | refine ga1 10 (by exact rfl) (by exact rfl) ?_ | refine ga2 10 (by exact rfl) (by exact rfl) ?_ | refine ga3 10 (by exact rfl) (by exact rfl) ?_ | refine ga4 10 (by exact rfl) (by exact rfl) ?_)
              refine gaOne 11 rfl ?_
              refine ok_call1 (fun w hst => at_c (rows := p.rows) (width := p.rows) (r := r) (x := k) w (grd hst) (by omega) (by omega) hr0 (by omega) hk0 (by omega) (by omega) _ hrk) rfl (by rfl) (bod_of rfl) (by rfl) (by rfl) (by rfl) ?_
              refine ⟨by (repeat (first | exact Suf.refl | exact Suf.nil | exact Suf.app _ _ | apply Suf.cons)), ?_⟩
              (first | refine ga1 12 (by exact rfl) (by exact rfl) ?_ | refine ga2 12 (by exact rfl) (by exact rfl) ?_ | refine ga3 12 (by exact rfl) (by exact rfl) ?_ | refine ga4 12 (by exact rfl) (by exact rfl) ?_)
              (first | refine ga1 13 (by exact rfl) (by exact rfl) ?_ | refine ga2 13 (by exact rfl) (by exact rfl) ?_ | refine ga3 13 (by exact rfl) (by exact rfl) ?_ | refine ga4 13 (by exact rfl) (by exact rfl) ?_)
              (first | refine ga1 14 (by exact rfl) (by exact rfl) ?_ | refine ga2 14 (by exact rfl) (by exact rfl) ?_ | refine ga3 14 (by exact rfl) (by exact rfl) ?_ | refine ga4 14 (by exact rfl) (by exact rfl) ?_)
              (first | refine ga1 15 (by exact rfl) (by exact rfl) ?_ | refine ga2 15 (by exact rfl) (by exact rfl) ?_ | refine ga3 15 (by exact rfl) (by exact rfl) ?_ | refine ga4 15 (by exact rfl) (by exact rfl) ?_)
              (first | refine ga1 16 (by exact rfl) (by exact rfl) ?_ | refine ga2 16 (by exact rfl) (by exact rfl) ?_ | refine ga3 16 (by exact rfl) (by exact rfl) ?_ | refine ga4 16 (by exact rfl) (by exact rfl) ?_)
              (first | refine ga1 17 (by exact rfl) (by exact rfl) ?_ | refine ga2 17 (by exact rfl) (by exact rfl) ?_ | refine ga3 17 (by exact rfl) (by exact rfl) ?_ | refine ga4 17 (by exact rfl) (by exact rfl) ?_)
              (first | refine ga1 18 (by exact rfl) (by exact rfl) ?_ | refine ga2 18 (by exact rfl) (by exact rfl) ?_ | refine ga3 18 (by exact rfl) (by exact rfl) ?_ | refine ga4 18 (by exact rfl) (by exact rfl) ?_)
              (first | refine ga1 19 (by exact rfl) (by exact rfl) ?_ | refine ga2 19 (by exact rfl) (by exact rfl) ?_ | refine ga3 19 (by exact rfl) (by exact rfl) ?_ | refine ga4 19 (by exact rfl) (by exact rfl) ?_)
              (first | refine ga1 20 (by exact rfl) (by exact rfl) ?_ | refine ga2 20 (by exact rfl) (by exact rfl) ?_ | refine ga3 20 (by exact rfl) (by exact rfl) ?_ | refine ga4 20 (by exact rfl) (by exact rfl) ?_)
              (first | refine ga1 21 (by exact rfl) (by exact rfl) ?_ | refine ga2 21 (by exact rfl) (by exact rfl) ?_ | refine ga3 21 (by exact rfl) (by exact rfl) ?_ | refine ga4 21 (by exact rfl) (by exact rfl) ?_)
              (first | refine ga1 22 (by exact rfl) (by exact rfl) ?_ | refine ga2 22 (by exact rfl) (by exact rfl) ?_ | refine ga3 22 (by exact rfl) (by exact rfl) ?_ | refine ga4 22 (by exact rfl) (by exact rfl) ?_)
              (first | refine ga1 23 (by exact rfl) (by exact rfl) ?_ | refine ga2 23 (by exact rfl) (by exact rfl) ?_ | refine ga3 23 (by exact rfl) (by exact rfl) ?_ | refine ga4 23 (by exact rfl) (by exact rfl) ?_)
              refine gaOne 24 rfl ?_
              refine gt0 (by exact rfl) ?_
              refine ⟨by (repeat (first | exact Suf.refl | exact Suf.nil | exact Suf.app _ _ | apply Suf.cons)), ?_⟩
              refine gaDone ?_
              refine gg ?_
              exact gnx (⟨0, 0, k + 1, on.set (r * p.rows + k).toNat false⟩ : SbX) ⟨by dsimp only; omega, by dsimp only; omega, mix_set hg hr0 hr hk0 hk hv⟩ (by dsimp only; omega)
            · refine gg ?_
              refine wc_quiet mixed (by kernel_rfl) ?_
              refine gg ?_
              refine gc2 (fun w hst => at_c (rows := p.rows) (width := p.rows) (r := r) (x := k) w (grd hst) (by omega) (by omega) hr0 (by omega) hk0 (by omega) (by omega) _ hrk) (by exact rfl) ?_
              refine gg ?_
              refine gwa [osl TB vb (some ga) d2 on] ?_
              (repeat (first | refine gk1 ?_ | refine gk2 ?_ | refine gk3 ?_ | refine gk0 ?_ | refine gk4 ?_))
              dsimp only [List.cons_append, List.nil_append]
              (first | refine ga1 0 (by exact rfl) (by exact rfl) ?_ | refine ga2 0 (by exact rfl) (by exact rfl) ?_ | refine ga3 0 (by exact rfl) (by exact rfl) ?_ | refine ga4 0 (by exact rfl) (by exact rfl) ?_)
              (first | refine ga1 1 (by exact rfl) (by exact rfl) ?_ | refine ga2 1 (by exact rfl) (by exact rfl) ?_ | refine ga3 1 (by exact rfl) (by exact rfl) ?_ | refine ga4 1 (by exact rfl) (by exact rfl) ?_)
              (first | refine ga1 2 (by exact rfl) (by exact rfl) ?_ | refine ga2 2 (by exact rfl) (by exact rfl) ?_ | refine ga3 2 (by exact rfl) (by exact rfl) ?_ | refine ga4 2 (by exact rfl) (by exact rfl) ?_)
              (first | refine ga1 3 (by exact rfl) (by exact rfl) ?_ | refine ga2 3 (by exact rfl) (by exact rfl) ?_ | refine ga3 3 (by exact rfl) (by exact rfl) ?_ | refine ga4 3 (by exact rfl) (by exact rfl) ?_)
              (first | refine ga1 4 (by exact rfl) (by exact rfl) ?_ | refine ga2 4 (by exact rfl) (by exact rfl) ?_ | refine ga3 4 (by exact rfl) (by exact rfl) ?_ | refine ga4 4 (by exact rfl) (by exact rfl) ?_)
              (first | refine ga1 5 (by exact rfl) (by exact rfl) ?_ | refine ga2 5 (by exact rfl) (by exact rfl) ?_ | refine ga3 5 (by exact rfl) (by exact rfl) ?_ | refine ga4 5 (by exact rfl) (by exact rfl) ?_)
              (first | refine ga1 6 (by exact rfl) (by exact rfl) ?_ | refine ga2 6 (by exact rfl) (by exact rfl) ?_ | refine ga3 6 (by exact rfl) (by exact rfl) ?_ | refine ga4 6 (by exact rfl) (by exact rfl) ?_)
              (first | refine ga1 7 (by exact rfl) (by exact rfl) ?_ | refine ga2 7 (by exact rfl) (by exact rfl) ?_ | refine ga3 7 (by exact rfl) (by exact rfl) ?_ | refine ga4 7 (by exact rfl) (by exact rfl) ?_)
              (first | refine ga1 8 (by exact rfl) (by exact rfl) ?_ | refine ga2 8 (by exact rfl) (by exact rfl) ?_ | refine ga3 8 (by exact rfl) (by exact rfl) ?_ | refine ga4 8 (by exact rfl) (by exact rfl) ?_)
              (first | refine ga1 9 (by exact rfl) (by exact rfl) ?_ | refine ga2 9 (by exact rfl) (by exact rfl) ?_ | refine ga3 9 (by exact rfl) (by exact rfl) ?_ | refine ga4 9 (by exact rfl) (by exact rfl) ?_)
              (first | refine ga1 10 (by exact rfl) (by exact rfl) ?_ | refine ga2 10 (by exact rfl) (by exact rfl) ?_ | refine ga3 10 (by exact rfl) (by exact rfl) ?_ | refine ga4 10 (by exact rfl) (by exact rfl) ?_)
              refine gaOne 11 rfl ?_
              refine ok_call1 (fun w hst => at_c (rows := p.rows) (width := p.rows) (r := r) (x := k) w (grd hst) (by omega) (by omega) hr0 (by omega) hk0 (by omega) (by omega) _ hrk) rfl (by rfl) (bod_of rfl) (by rfl) (by rfl) (by rfl) ?_
              refine ⟨by (repeat (first | exact Suf.refl | exact Suf.nil | exact Suf.app _ _ | apply Suf.cons)), ?_⟩
              (first | refine ga1 12 (by exact rfl) (by exact rfl) ?_ | refine ga2 12 (by exact rfl) (by exact rfl) ?_ | refine ga3 12 (by exact rfl) (by exact rfl) ?_ | refine ga4 12 (by exact rfl) (by exact rfl) ?_)
              (first | refine ga1 13 (by exact rfl) (by exact rfl) ?_ | refine ga2 13 (by exact rfl) (by exact rfl) ?_ | refine ga3 13 (by exact rfl) (by exact rfl) ?_ | refine ga4 13 (by exact rfl) (by exact rfl) ?_)
              (first | refine ga1 14 (by exact rfl) (by exact rfl) ?_ | refine ga2 14 (by exact rfl) (by exact rfl) ?_ | refine ga3 14 (by exact rfl) (by exact rfl) ?_ | refine ga4 14 (by exact rfl) (by exact rfl) ?_)
              (first | refine ga1 15 (by exact rfl) (by exact rfl) ?_ | refine ga2 15 (by exact rfl) (by exact rfl) ?_ | refine ga3 15 (by exact rfl) (by exact rfl) ?_ | refine ga4 15 (by exact rfl) (by exact rfl) ?_)
              (first | refine ga1 16 (by exact rfl) (by exact rfl) ?_ | refine ga2 16 (by exact rfl) (by exact rfl) ?_ | refine ga3 16 (by exact rfl) (by exact rfl) ?_ | refine ga4 16 (by exact rfl) (by exact rfl) ?_)
              (first | refine ga1 17 (by exact rfl) (by exact rfl) ?_ | refine ga2 17 (by exact rfl) (by exact rfl) ?_ | refine ga3 17 (by exact rfl) (by exact rfl) ?_ | refine ga4 17 (by exact rfl) (by exact rfl) ?_)
              (first | refine ga1 18 (by exact rfl) (by exact rfl) ?_ | refine ga2 18 (by exact rfl) (by exact rfl) ?_ | refine ga3 18 (by exact rfl) (by exact rfl) ?_ | refine ga4 18 (by exact rfl) (by exact rfl) ?_)
              (first | refine ga1 19 (by exact rfl) (by exact rfl) ?_ | refine ga2 19 (by exact rfl) (by exact rfl) ?_ | refine ga3 19 (by exact rfl) (by exact rfl) ?_ | refine ga4 19 (by exact rfl) (by exact rfl) ?_)
              (first | refine ga1 20 (by exact rfl) (by exact rfl) ?_ | refine ga2 20 (by exact rfl) (by exact rfl) ?_ | refine ga3 20 (by exact rfl) (by exact rfl) ?_ | refine ga4 20 (by exact rfl) (by exact rfl) ?_)
              (first | refine ga1 21 (by exact rfl) (by exact rfl) ?_ | refine ga2 21 (by exact rfl) (by exact rfl) ?_ | refine ga3 21 (by exact rfl) (by exact rfl) ?_ | refine ga4 21 (by exact rfl) (by exact rfl) ?_)
              (first | refine ga1 22 (by exact rfl) (by exact rfl) ?_ | refine ga2 22 (by exact rfl) (by exact rfl) ?_ | refine ga3 22 (by exact rfl) (by exact rfl) ?_ | refine ga4 22 (by exact rfl) (by exact rfl) ?_)
              (first | refine ga1 23 (by exact rfl) (by exact rfl) ?_ | refine ga2 23 (by exact rfl) (by exact rfl) ?_ | refine ga3 23 (by exact rfl) (by exact rfl) ?_ | refine ga4 23 (by exact rfl) (by exact rfl) ?_)
              refine gaOne 24 rfl ?_
              refine gt0 (by exact rfl) ?_
              refine ⟨by (repeat (first | exact Suf.refl | exact Suf.nil | exact Suf.app _ _ | apply Suf.cons)), ?_⟩
              refine gaDone ?_
              refine gg ?_
              exact gnx (⟨0, 0, k + 1, on.set (r * p.rows + k).toNat false⟩ : SbX) ⟨by dsimp only; omega, by dsimp only; omega, mix_set hg hr0 hr hk0 hk hv⟩ (by dsimp only; omega)
          | true =>
            rw [h] at hrk
            have hout := F.out r k h
            by_cases hbb : gt b r = gt b k
            · have hcc := hcmp hbb
              have hv : inB p b r k = true := by unfold inB; rw [h, hbb]; simp
              refine gg ?_
              refine wc_quiet mixed (by kernel_rfl) ?_
              refine gg ?_
              refine gc2 (fun w hst => at_c (rows := p.rows) (width := p.rows) (r := r) (x := k) w (grd hst) (by omega) (by omega) hr0 (by omega) hk0 (by omega) (by omega) _ hrk) (by exact rfl) ?_
              refine gg ?_
              refine gwa [osl TB vb (some ga) d2 on] ?_
              (repeat (first | refine gk1 ?_ | refine gk2 ?_ | refine gk3 ?_ | refine gk0 ?_ | refine gk4 ?_))
              dsimp only [List.cons_append, List.nil_append]
              (first | refine ga1 0 (by exact rfl) (by exact rfl) ?_ | refine ga2 0 (by exact rfl) (by exact rfl) ?_ | refine ga3 0 (by exact rfl) (by exact rfl) ?_ | refine ga4 0 (by exact rfl) (by exact rfl) ?_)
              (first | refine ga1 1 (by exact rfl) (by exact rfl) ?_ | refine ga2 1 (by exact rfl) (by exact rfl) ?_ | refine ga3 1 (by exact rfl) (by exact rfl) ?_ | refine ga4 1 (by exact rfl) (by exact rfl) ?_)
              (first | refine ga1 2 (by exact rfl) (by exact rfl) ?_ | refine ga2 2 (by exact rfl) (by exact rfl) ?_ | refine ga3 2 (by exact rfl) (by exact rfl) ?_ | refine ga4 2 (by exact rfl) (by exact rfl) ?_)
              (first | refine ga1 3 (by exact rfl) (by exact rfl) ?_ | refine ga2 3 (by exact rfl) (by exact rfl) ?_ | refine ga3 3 (by exact rfl) (by exact rfl) ?_ | refine ga4 3 (by exact rfl) (by exact rfl) ?_)
              (first | refine ga1 4 (by exact rfl) (by exact rfl) ?_ | refine ga2 4 (by exact rfl) (by exact rfl) ?_ | refine ga3 4 (by exact rfl) (by exact rfl) ?_ | refine ga4 4 (by exact rfl) (by exact rfl) ?_)
              (first | refine ga1 5 (by exact rfl) (by exact rfl) ?_ | refine ga2 5 (by exact rfl) (by exact rfl) ?_ | refine ga3 5 (by exact rfl) (by exact rfl) ?_ | refine ga4 5 (by exact rfl) (by exact rfl) ?_)
              (first | refine ga1 6 (by exact rfl) (by exact rfl) ?_ | refine ga2 6 (by exact rfl) (by exact rfl) ?_ | refine ga3 6 (by exact rfl) (by exact rfl) ?_ | refine ga4 6 (by exact rfl) (by exact rfl) ?_)
              (first | refine ga1 7 (by exact rfl) (by exact rfl) ?_ | refine ga2 7 (by exact rfl) (by exact rfl) ?_ | refine ga3 7 (by exact rfl) (by exact rfl) ?_ | refine ga4 7 (by exact rfl) (by exact rfl) ?_)
              (first | refine ga1 8 (by exact rfl) (by exact rfl) ?_ | refine ga2 8 (by exact rfl) (by exact rfl) ?_ | refine ga3 8 (by exact rfl) (by exact rfl) ?_ | refine ga4 8 (by exact rfl) (by exact rfl) ?_)
              (first | refine ga1 9 (by exact rfl) (by exact rfl) ?_ | refine ga2 9 (by exact rfl) (by exact rfl) ?_ | refine ga3 9 (by exact rfl) (by exact rfl) ?_ | refine ga4 9 (by exact rfl) (by exact rfl) ?_)
              (first | refine ga1 10 (by exact rfl) (by exact rfl) ?_ | refine ga2 10 (by exact rfl) (by exact rfl) ?_ | refine ga3 10 (by exact rfl) (by exact rfl) ?_ | refine ga4 10 (by exact rfl) (by exact rfl) ?_)
              refine gaOne 11 rfl ?_
              refine ok_call1 (fun w hst => at_c (rows := p.rows) (width := p.rows) (r := r) (x := k) w (grd hst) (by omega) (by omega) hr0 (by omega) hk0 (by omega) (by omega) _ hrk) rfl (by rfl) (bod_of rfl) (by rfl) (by rfl) (by rfl) ?_
              refine ⟨by (repeat (first | exact Suf.refl | exact Suf.nil | exact Suf.app _ _ | apply Suf.cons)), ?_⟩
              (first | refine ga1 12 (by exact rfl) (by exact rfl) ?_ | refine ga2 12 (by exact rfl) (by exact rfl) ?_ | refine ga3 12 (by exact rfl) (by exact rfl) ?_ | refine ga4 12 (by exact rfl) (by exact rfl) ?_)
              (first | refine ga1 13 (by exact rfl) (by exact rfl) ?_ | refine ga2 13 (by exact rfl) (by exact rfl) ?_ | refine ga3 13 (by exact rfl) (by exact rfl) ?_ | refine ga4 13 (by exact rfl) (by exact rfl) ?_)
              (first | refine ga1 14 (by exact rfl) (by exact rfl) ?_ | refine ga2 14 (by exact rfl) (by exact rfl) ?_ | refine ga3 14 (by exact rfl) (by exact rfl) ?_ | refine ga4 14 (by exact rfl) (by exact rfl) ?_)
              (first | refine ga1 15 (by exact rfl) (by exact rfl) ?_ | refine ga2 15 (by exact rfl) (by exact rfl) ?_ | refine ga3 15 (by exact rfl) (by exact rfl) ?_ | refine ga4 15 (by exact rfl) (by exact rfl) ?_)
              (first | refine ga1 16 (by exact rfl) (by exact rfl) ?_ | refine ga2 16 (by exact rfl) (by exact rfl) ?_ | refine ga3 16 (by exact rfl) (by exact rfl) ?_ | refine ga4 16 (by exact rfl) (by exact rfl) ?_)
              (first | refine ga1 17 (by exact rfl) (by exact rfl) ?_ | refine ga2 17 (by exact rfl) (by exact rfl) ?_ | refine ga3 17 (by exact rfl) (by exact rfl) ?_ | refine ga4 17 (by exact rfl) (by exact rfl) ?_)
              (first | refine ga1 18 (by exact rfl) (by exact rfl) ?_ | refine ga2 18 (by exact rfl) (by exact rfl) ?_ | refine ga3 18 (by exact rfl) (by exact rfl) ?_ | refine ga4 18 (by exact rfl) (by exact rfl) ?_)
              (first | refine ga1 19 (by exact rfl) (by exact rfl) ?_ | refine ga2 19 (by exact rfl) (by exact rfl) ?_ | refine ga3 19 (by exact rfl) (by exact rfl) ?_ | refine ga4 19 (by exact rfl) (by exact rfl) ?_)
              (first | refine ga1 20 (by exact rfl) (by exact rfl) ?_ | refine ga2 20 (by exact rfl) (by exact rfl) ?_ | refine ga3 20 (by exact rfl) (by exact rfl) ?_ | refine ga4 20 (by exact rfl) (by exact rfl) ?_)
              (first | refine ga1 21 (by exact rfl) (by exact rfl) ?_ | refine ga2 21 (by exact rfl) (by exact rfl) ?_ | refine ga3 21 (by exact rfl) (by exact rfl) ?_ | refine ga4 21 (by exact rfl) (by exact rfl) ?_)
              (first | refine ga1 22 (by exact rfl) (by exact rfl) ?_ | refine ga2 22 (by exact rfl) (by exact rfl) ?_ | refine ga3 22 (by exact rfl) (by exact rfl) ?_ | refine ga4 22 (by exact rfl) (by exact rfl) ?_)
              (first | refine ga1 23 (by exact rfl) (by exact rfl) ?_ | refine ga2 23 (by exact rfl) (by exact rfl) ?_ | refine ga3 23 (by exact rfl) (by exact rfl) ?_ | refine ga4 23 (by exact rfl) (by exact rfl) ?_)
              refine gaOne 24 rfl ?_
              refine gt0 (by exact rfl) ?_
              refine ⟨by (repeat (first | exact Suf.refl | exact Suf.nil | exact Suf.app _ _ | apply Suf.cons)), ?_⟩
              refine gaDone ?_
              refine gg ?_
              exact gnx (⟨0, 0, k + 1, on.set (r * p.rows + k).toNat true⟩ : SbX) ⟨by dsimp only; omega, by dsimp only; omega, mix_set hg hr0 hr hk0 hk hv⟩ (by dsimp only; omega)
            · have hv : inB p b r k = false := by unfold inB; rw [h]; simp [hbb]
              refine gg ?_
              refine wc_quiet mixed (by kernel_rfl) ?_
              refine gg ?_
              refine gc2 (fun w hst => at_c (rows := p.rows) (width := p.rows) (r := r) (x := k) w (grd hst) (by omega) (by omega) hr0 (by omega) hk0 (by omega) (by omega) _ hrk) (by exact rfl) ?_
              refine gg ?_
              refine gwa [osl TB vb (some ga) d2 on] ?_
              (repeat (first | refine gk1 ?_ | refine gk2 ?_ | refine gk3 ?_ | refine gk0 ?_ | refine gk4 ?_))
              dsimp only [List.cons_append, List.nil_append]
              (first | refine ga1 0 (by exact rfl) (by exact rfl) ?_ | refine ga2 0 (by exact rfl) (by exact rfl) ?_ | refine ga3 0 (by exact rfl) (by exact rfl) ?_ | refine ga4 0 (by exact rfl) (by exact rfl) ?_)
              (first | refine ga1 1 (by exact rfl) (by exact rfl) ?_ | refine ga2 1 (by exact rfl) (by exact rfl) ?_ | refine ga3 1 (by exact rfl) (by exact rfl) ?_ | refine ga4 1 (by exact rfl) (by exact rfl) ?_)
              (first | refine ga1 2 (by exact rfl) (by exact rfl) ?_ | refine ga2 2 (by exact rfl) (by exact rfl) ?_ | refine ga3 2 (by exact rfl) (by exact rfl) ?_ | refine ga4 2 (by exact rfl) (by exact rfl) ?_)
              (first | refine ga1 3 (by exact rfl) (by exact rfl) ?_ | refine ga2 3 (by exact rfl) (by exact rfl) ?_ | refine ga3 3 (by exact rfl) (by exact rfl) ?_ | refine ga4 3 (by exact rfl) (by exact rfl) ?_)
              (first | refine ga1 4 (by exact rfl) (by exact rfl) ?_ | refine ga2 4 (by exact rfl) (by exact rfl) ?_ | refine ga3 4 (by exact rfl) (by exact rfl) ?_ | refine ga4 4 (by exact rfl) (by exact rfl) ?_)
              (first | refine ga1 5 (by exact rfl) (by exact rfl) ?_ | refine ga2 5 (by exact rfl) (by exact rfl) ?_ | refine ga3 5 (by exact rfl) (by exact rfl) ?_ | refine ga4 5 (by exact rfl) (by exact rfl) ?_)
              (first | refine ga1 6 (by exact rfl) (by exact rfl) ?_ | refine ga2 6 (by exact rfl) (by exact rfl) ?_ | refine ga3 6 (by exact rfl) (by exact rfl) ?_ | refine ga4 6 (by exact rfl) (by exact rfl) ?_)
              (first | refine ga1 7 (by exact rfl) (by exact rfl) ?_ | refine ga2 7 (by exact rfl) (by exact rfl) ?_ | refine ga3 7 (by exact rfl) (by exact rfl) ?_ | refine ga4 7 (by exact rfl) (by exact rfl) ?_)
              (first | refine ga1 8 (by exact rfl) (by exact rfl) ?_ | refine ga2 8 (by exact rfl) (by exact rfl) ?_ | refine ga3 8 (by exact rfl) (by exact rfl) ?_ | refine ga4 8 (by exact rfl) (by exact rfl) ?_)
              (first | refine ga1 9 (by exact rfl) (by exact rfl) ?_ | refine ga2 9 (by exact rfl) (by exact rfl) ?_ | refine ga3 9 (by exact rfl) (by exact rfl) ?_ | refine ga4 9 (by exact rfl) (by exact rfl) ?_)
              (first | refine ga1 10 (by exact rfl) (by exact rfl) ?_ | refine ga2 10 (by exact rfl) (by exact rfl) ?_ | refine ga3 10 (by exact rfl) (by exact rfl) ?_ | refine ga4 10 (by exact rfl) (by exact rfl) ?_)
              refine gaOne 11 rfl ?_
              refine ok_call1 (fun w hst => at_c (rows := p.rows) (width := p.rows) (r := r) (x := k) w (grd hst) (by omega) (by omega) hr0 (by omega) hk0 (by omega) (by omega) _ hrk) rfl (by rfl) (bod_of rfl) (by rfl) (by rfl) (by rfl) ?_
              refine ⟨by (repeat (first | exact Suf.refl | exact Suf.nil | exact Suf.app _ _ | apply Suf.cons)), ?_⟩
              (first | refine ga1 12 (by exact rfl) (by exact rfl) ?_ | refine ga2 12 (by exact rfl) (by exact rfl) ?_ | refine ga3 12 (by exact rfl) (by exact rfl) ?_ | refine ga4 12 (by exact rfl) (by exact rfl) ?_)
              (first | refine ga1 13 (by exact rfl) (by exact rfl) ?_ | refine ga2 13 (by exact rfl) (by exact rfl) ?_ | refine ga3 13 (by exact rfl) (by exact rfl) ?_ | refine ga4 13 (by exact rfl) (by exact rfl) ?_)
              (first | refine ga1 14 (by exact rfl) (by exact rfl) ?_ | refine ga2 14 (by exact rfl) (by exact rfl) ?_ | refine ga3 14 (by exact rfl) (by exact rfl) ?_ | refine ga4 14 (by exact rfl) (by exact rfl) ?_)
              (first | refine ga1 15 (by exact rfl) (by exact rfl) ?_ | refine ga2 15 (by exact rfl) (by exact rfl) ?_ | refine ga3 15 (by exact rfl) (by exact rfl) ?_ | refine ga4 15 (by exact rfl) (by exact rfl) ?_)
              (first | refine ga1 16 (by exact rfl) (by exact rfl) ?_ | refine ga2 16 (by exact rfl) (by exact rfl) ?_ | refine ga3 16 (by exact rfl) (by exact rfl) ?_ | refine ga4 16 (by exact rfl) (by exact rfl) ?_)
              (first | refine ga1 17 (by exact rfl) (by exact rfl) ?_ | refine ga2 17 (by exact rfl) (by exact rfl) ?_ | refine ga3 17 (by exact rfl) (by exact rfl) ?_ | refine ga4 17 (by exact rfl) (by exact rfl) ?_)
              (first | refine ga1 18 (by exact rfl) (by exact rfl) ?_ | refine ga2 18 (by exact rfl) (by exact rfl) ?_ | refine ga3 18 (by exact rfl) (by exact rfl) ?_ | refine ga4 18 (by exact rfl) (by exact rfl) ?_)
              (first | refine ga1 19 (by exact rfl) (by exact rfl) ?_ | refine ga2 19 (by exact rfl) (by exact rfl) ?_ | refine ga3 19 (by exact rfl) (by exact rfl) ?_ | refine ga4 19 (by exact rfl) (by exact rfl) ?_)
              (first | refine ga1 20 (by exact rfl) (by exact rfl) ?_ | refine ga2 20 (by exact rfl) (by exact rfl) ?_ | refine ga3 20 (by exact rfl) (by exact rfl) ?_ | refine ga4 20 (by exact rfl) (by exact rfl) ?_)
              (first | refine ga1 21 (by exact rfl) (by exact rfl) ?_ | refine ga2 21 (by exact rfl) (by exact rfl) ?_ | refine ga3 21 (by exact rfl) (by exact rfl) ?_ | refine ga4 21 (by exact rfl) (by exact rfl) ?_)
              (first | refine ga1 22 (by exact rfl) (by exact rfl) ?_ | refine ga2 22 (by exact rfl) (by exact rfl) ?_ | refine ga3 22 (by exact rfl) (by exact rfl) ?_ | refine ga4 22 (by exact rfl) (by exact rfl) ?_)
              (first | refine ga1 23 (by exact rfl) (by exact rfl) ?_ | refine ga2 23 (by exact rfl) (by exact rfl) ?_ | refine ga3 23 (by exact rfl) (by exact rfl) ?_ | refine ga4 23 (by exact rfl) (by exact rfl) ?_)
              refine gaOne 24 rfl ?_
              refine gt0 (by exact rfl) ?_
              refine ⟨by (repeat (first | exact Suf.refl | exact Suf.nil | exact Suf.app _ _ | apply Suf.cons)), ?_⟩
              refine gaDone ?_
              refine gg ?_
              exact gnx (⟨0, 0, k + 1, on.set (r * p.rows + k).toNat false⟩ : SbX) ⟨by dsimp only; omega, by dsimp only; omega, mix_set hg hr0 hr hk0 hk hv⟩ (by dsimp only; omega)
        · obtain rfl : k = p.rows := by omega
          refine gg ?_
          exact gnx (⟨top, r + 1, 0, on⟩ : SbX) ⟨by dsimp only; omega, by dsimp only; omega, by dsimp only; omega, by dsimp only; omega, mix_next hg⟩ (by dsimp only; omega)
    obtain rfl : r = p.rows := by omega
    have hgw : IsGrid on p.rows p.rows (inB p b) := mix_end hg
    have hlen : on.length = N2 := by have := hg.len; omega
    have hways : ∀ w, Rds vb w G2 d2 on → Calls Try.prog 43 [.agg (gridC p.rows p.rows G2 N2 d2).toArray].toArray w (Ret [] (fun y : OX => .agg (gridC p.rows p.rows y.A y.on.length y.c).toArray) (fun y => [osl TB vb y.A y.c y.on]) (fun y => IsGrid y.on p.rows p.rows (viaB (inB p b) p.rows)) w) := fun w h => by
      have := refWays_c (n := p.rows) (E := inB p b) w h hgw h1 h2
      rwa [hlen] at this
    refine gg ?_
    refine gmk vb false rfl rfl rfl rfl rfl rfl rfl rfl rfl rfl rfl h1 (Int.le_refl _) (by omega) (by omega) ?_
    intro sb
    rw [show p.rows.toNat = n by omega]
    refine gg ?_
    refine gc1 (fun w hst => symmetric_c (p := p) (x := x) w (op.now hst) bs hbs) (by exact rfl) ?_
    refine gg ?_
    refine gc3 [] (fun w hst hst1 => hways w (grd hst)) (by exact rfl) ?_
    (repeat (first | refine gk1 ?_ | refine gk2 ?_ | refine gk3 ?_ | refine gk0 ?_ | refine gk4 ?_))
    rintro ⟨G3, d3, on3⟩ hg3
    dsimp only [List.cons_append, List.nil_append] at hg3 ⊢
    have hgl3 := hg3.len
    refine wl_op (ok_alloc rfl rfl rfl rfl (ze_of rfl) ?_); intro q14
    refine gg ?_
    refine glp (fun y : SbX => 0 ≤ y.r ∧ y.r ≤ p.rows ∧ y.on.length = n ∧ ∀ u : Int, 0 ≤ u → u < y.r → gt y.on (gt b u) = true) (fun y => [(1, .pointer (some ⟨bp, 0, none⟩)), (3, .slice A1 b.length c1), (5, .slice A2 c.length c2), (9, vi top), (12, .slice (some ⟨sb, 0, none⟩) n n), (13, .bool bs), (14, .pointer (some ⟨q14, 0, none⟩)), (15, vi y.r)])
      (fun y => [osl TI vi A1 c1 b, osl TI vi A2 c2 c, osl TB vb (some ⟨sb, 0, none⟩) n y.on, osl TB vb G3 d3 on3, blk q14 (gridC p.rows p.rows G3 on3.length d3) TGr, blk bp (pcs x p) TP]) (fun y => (p.rows - y.r).toNat) ⟨0, 0, 0, List.replicate n false⟩ ⟨by simp, h1, by simp, fun i i0 i1 => by dsimp only at i1; omega⟩ ?_
    rintro ⟨_, r, _, sd⟩ ⟨hr0, hr1, hsl, hsd⟩
    dsimp only at hr0 hr1 hsl hsd ⊢
    by_cases hr : r < p.rows
    · have hbr := F.rng r hr0 (by omega)
      have hnext : ∀ u : Int, 0 ≤ u → u < r + 1 → gt (sd.set (gt b r).toNat true) (gt b u) = true := fun u u0 u1 => by
        have hbu := F.rng u u0 (by omega)
        rw [gt_set hbr.1 (by omega) hbu.1]
        by_cases e : gt b u = gt b r
        · rw [if_pos e]
        · rw [if_neg e]
          refine hsd u u0 ?_
          by_cases e2 : u = r
          · rw [e2] at e; exact (e rfl).elim
          · omega
      refine gg ?_
      refine glp (fun k : Int => 0 ≤ k ∧ k ≤ p.rows) (fun k => [(1, .pointer (some ⟨bp, 0, none⟩)), (3, .slice A1 b.length c1), (5, .slice A2 c.length c2), (9, vi top), (12, .slice (some ⟨sb, 0, none⟩) n n), (13, .bool bs), (14, .pointer (some ⟨q14, 0, none⟩)), (15, vi r), (16, vi k)])
        (fun k => [osl TI vi A1 c1 b, osl TI vi A2 c2 c, osl TB vb (some ⟨sb, 0, none⟩) n (sd.set (gt b r).toNat true), osl TB vb G3 d3 on3, blk q14 (gridC p.rows p.rows G3 on3.length d3) TGr, blk bp (pcs x p) TP]) (fun k => (p.rows - k).toNat) 0 ⟨by omega, h1⟩ ?_
      rintro k ⟨hk0, hk1⟩
      by_cases hk : k < p.rows
      · have hbk := F.rng k hk0 (by omega)
        have hcmp := F.comp r k hr0 (by omega) hk0 (by omega)
        have hrk := hg3.at_ r k hr0 hr hk0 hk
        have lrk := cell_lt hr0 hr hk0 hk
        have m2 := mul_small hr0 (show r ≤ 128 by omega) h1 h2
        by_cases hbb : gt b r = gt b k
        · have hcc := hcmp hbb
          have hv : viaB (inB p b) p.rows r k = true := viaB_iff.2 ((via_way (inB_on hon)).2 (F.win r k hr0 (by omega) hk0 (by omega) hbb))
          rw [hv] at hrk
          cases bs with
          | false =>
            refine gg ?_
            refine wc_quiet mixed (by kernel_rfl) ?_
            refine gg ?_
            refine gc2 (fun w hst => at_c (rows := p.rows) (width := p.rows) (r := r) (x := k) w (grd hst) (by omega) (by omega) hr0 (by omega) hk0 (by omega) (by omega) _ hrk) (by exact rfl) ?_
            refine gg ?_
            exact gnx (k + 1) ⟨by omega, by omega⟩ (by omega)
          | true =>
            refine gg ?_
            refine wc_quiet mixed (by kernel_rfl) ?_
            refine gg ?_
            refine gc2 (fun w hst => at_c (rows := p.rows) (width := p.rows) (r := r) (x := k) w (grd hst) (by omega) (by omega) hr0 (by omega) hk0 (by omega) (by omega) _ hrk) (by exact rfl) ?_
            refine gg ?_
            refine wq_val rfl rfl rfl (val_neb uB rfl rfl rfl) ?_
            refine gg ?_
            exact gnx (k + 1) ⟨by omega, by omega⟩ (by omega)
        · cases bs with
          | false =>
            refine gg ?_
            refine wc_quiet mixed (by kernel_rfl) ?_
            refine gg ?_
            exact gnx (k + 1) ⟨by omega, by omega⟩ (by omega)
          | true =>
            have hcc : gt c r ≠ gt c k := fun e => hbb (F.even (hbs.1 rfl) r k hr0 (by omega) hk0 (by omega) e)
            refine gg ?_
            refine wc_quiet mixed (by kernel_rfl) ?_
            refine gg ?_
            refine wq_val rfl rfl rfl (val_neb uB rfl rfl rfl) ?_
            refine gg ?_
            exact gnx (k + 1) ⟨by omega, by omega⟩ (by omega)
      · obtain rfl : k = p.rows := by omega
        refine gg ?_
        exact gnx (⟨0, r + 1, 0, sd.set (gt b r).toNat true⟩ : SbX) ⟨by dsimp only; omega, by dsimp only; omega, by dsimp only; rw [List.length_set]; exact hsl, hnext⟩ (by dsimp only; omega)
    obtain rfl : r = p.rows := by omega
    refine gg ?_
    refine glp (fun k : Int => 0 ≤ k ∧ k ≤ top + 1) (fun k => [(9, vi top), (12, .slice (some ⟨sb, 0, none⟩) n n), (17, vi k)])
      (fun k => [osl TB vb (some ⟨sb, 0, none⟩) n sd]) (fun k => (top + 1 - k).toNat) 0 ⟨by omega, by omega⟩ ?_
    rintro k ⟨hk0, hk1⟩
    by_cases hk : k ≤ top
    · obtain ⟨u, u0, u1, hu⟩ := F.used k hk0 (by omega)
      have hsk := hsd u u0 (by omega)
      rw [hu] at hsk
      refine gg ?_
      rw [hsk]
      refine gg ?_
      exact gnx (k + 1) ⟨by omega, by omega⟩ (by omega)
    · refine gg ?_
      exact grt () trivial
  · refine calls_wc [] [] [.tmp 2] (fun _ => [.bool true]) Try.func12 rfl rfl (fun _ => rfl) Try.ntmps12 rfl (Own.nil w) rfl ?_
    refine gg ?_
    refine wl_op (ok_box rfl rfl rfl rfl rfl ?_); intro bp
    refine gg ?_
    refine gc1 (fun w hst => begun_c w) (by exact rfl) ?_
    refine gg ?_
    refine gc3 [] (fun w hst hst1 => blocks_c (p := p) (x := x) w (op.now hst)) (by exact rfl) ?_
    (repeat (first | refine gk1 ?_ | refine gk2 ?_ | refine gk3 ?_ | refine gk0 ?_ | refine gk4 ?_))
    rintro ⟨A1, c1, b⟩ ⟨_, hb⟩
    dsimp only [List.cons_append, List.nil_append] at hb ⊢
    obtain rfl := hb he
    dsimp only [List.length_nil]
    refine gg ?_
    by_cases hm : May p
    · have hsq : p.rows ≠ p.width := fun h => he (by unfold blkE; rw [if_neg (by simp [hm]), if_neg (by simp [h])])
      refine gc1 (fun w hst => refMay_c (op.s.now hst) (op.c.now hst) true (by simp [hm])) (by exact rfl) ?_
      refine gg ?_
      exact grt () trivial
    · refine gc1 (fun w hst => refMay_c (op.s.now hst) (op.c.now hst) false (by simp [hm])) (by exact rfl) ?_
      refine gg ?_
      exact grt () trivial
end
end Go.Proofs.Ytofngbaefbbeiaa
