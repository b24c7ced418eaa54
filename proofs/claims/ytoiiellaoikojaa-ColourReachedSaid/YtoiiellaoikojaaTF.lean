/- Walks: the reference: Shut. Walks: the reference: Build, Turn. -/
import Derived.Test.YtoiiellaoikojaaTE
set_option linter.unusedVariables false
set_option linter.unusedSimpArgs false
set_option maxHeartbeats 8000000
namespace Go.Proofs.Ytoiiellaoikojaa
open Go.RowKit
structure SX where
  r : Nat
  c : Int
  As : Option Addr
  cs : Nat
  Ac : Option Addr
  cc : Nat
theorem refShut_c {A : Option Addr} {c m : Nat} {on : List Bool} {width : Int} {S : Int → Int → Bool} (w : World) (hA : Rds vb w A c on) (hg : IsGrid on m width S) (hm : m ≤ 128) (h3 : 0 ≤ width) (h4 : width ≤ 128) (hS : Within m width S) :
    Calls Try.prog 108 [.agg (gridC m width A on.length c).toArray].toArray w (Ret [] (fun y : PA => pvl y (shutP m width S)) (fun y => PatR y (shutP m width S)) (fun _ => True) w) := by
  have oA := hA.old
  have lA := hA.len
  have hgl := hg.len
  refine calls_wc [] [] [.cell 2 TP] (fun y : PA => [pvl y (shutP m width S)]) Try.func108 rfl rfl (fun _ => rfl) Try.ntmps108 rfl (Own.nil w) rfl ?_
  refine gnil ?_
  refine gg ?_
  refine wl_op (ok_box rfl rfl rfl rfl rfl ?_); intro gb
  refine wl_op (ok_alloc rfl rfl rfl rfl (ze_of rfl) ?_); intro rb
  refine gg ?_
  refine gbi (by exact rfl) ?_; intro sb
  refine wl_v rfl rfl rfl (val_build (ps := [(0, vi m), (1, vi width), (2, .slice (some ⟨sb, 0, none⟩) 1 1)]) (cells := [vi m, vi width, .slice (some ⟨sb, 0, none⟩) 1 1, .slice none 0 0]) rfl rfl (by kernel_rfl)) ?_
  refine wl_op (ok_alloc rfl rfl rfl rfl (ze_of rfl) ?_); intro pb
  refine gg ?_
  refine glp (fun x : SX => x.r ≤ m) (fun x => [(1, .pointer (some ⟨gb, 0, none⟩)), (2, .pointer (some ⟨rb, 0, none⟩)), (3, .pointer (some ⟨pb, 0, none⟩)), (4, vi x.r)])
    (fun x => [blk pb [vi m, vi width, .slice x.As (startTo m S x.r).length x.cs, .slice x.Ac (colsTo m S x.r 0).length x.cc] TP, osl TI vi x.As x.cs (startTo m S x.r), osl TI vi x.Ac x.cc (colsTo m S x.r 0), blk gb (gridC m width A on.length c) TGr, blk rb pat0 TP])
    (fun x => m - x.r) ⟨0, 0, some ⟨sb, 0, none⟩, 1, none, 0⟩ (by simp) ?_ (hM := by rw [(colsTo_first m S).1, (colsTo_first m S).2]; refine SubK.e ?_; (repeat (first | refine gk1 ?_ | refine gk2 ?_ | refine gk3 ?_ | refine gk0 ?_ | refine gk4 ?_)); trivial)
  rintro ⟨r, _, As, cs, Ac, cc⟩ hr
  dsimp only at hr ⊢
  have hsl := startTo_len hm S r
  by_cases hlt : r < m
  · obtain ⟨q0, q1⟩ := mul_small (x := (r : Int)) (y := width) (by omega) (by omega) h3 h4
    refine gg ?_
    refine glp (fun x : SX => 0 ≤ x.c ∧ x.c ≤ width) (fun x => [(1, .pointer (some ⟨gb, 0, none⟩)), (2, .pointer (some ⟨rb, 0, none⟩)), (3, .pointer (some ⟨pb, 0, none⟩)), (4, vi r), (5, vi x.c)])
      (fun x => [blk pb [vi m, vi width, .slice As (startTo m S r).length cs, .slice x.Ac (colsTo m S r x.c).length x.cc] TP, osl TI vi As cs (startTo m S r), osl TI vi x.Ac x.cc (colsTo m S r x.c), blk gb (gridC m width A on.length c) TGr, blk rb pat0 TP])
      (fun x => (width - x.c).toNat) ⟨r, 0, As, cs, Ac, cc⟩ ⟨by simp, h3⟩ ?_
    rintro ⟨_, k, _, _, Ac, cc⟩ ⟨hk0, hk1⟩
    dsimp only at hk0 hk1 ⊢
    have hcl := colsTo_len hm S r k
    by_cases hk : k < width
    · have hcell := cell_lt (r := (r : Int)) (c := k) (rows := (m : Int)) (width := width) (by omega) (by omega) hk0 hk
      have hat := hg.at_ r k (by omega) (by omega) hk0 hk
      have hstep := rowTo_step (f := S r) hk0 (by omega)
      cases hb : S r k with
      | true =>
        rw [hb] at hat
        rw [hb, if_pos rfl] at hstep
        have hst : colsTo m S r (k + 1) = colsTo m S r k ++ [k] := by unfold colsTo; rw [hstep, List.append_assoc]
        refine gg ?_
        refine gc1 (fun w hst => at_c (rows := m) (width := width) (r := r) (x := k) w (oA.now hst) h3 h4 (by omega) (by omega) (by omega) (by omega) (by omega) true hat) (by exact rfl) ?_
        refine gg ?_
        refine gpush (by exact rfl) (fun b => by exact rfl) ?_
        intro bb A' c'
        rw [← hst]
        refine gg ?_
        exact gnx (⟨r, k + 1, As, cs, A', c'⟩ : SX) ⟨by dsimp only; omega, by dsimp only; omega⟩ (by dsimp only; omega)
      | false =>
        rw [hb] at hat
        rw [hb, if_neg (by simp)] at hstep
        have hst : colsTo m S r (k + 1) = colsTo m S r k := by unfold colsTo; rw [hstep]
        rw [← hst]
        refine gg ?_
        refine gc1 (fun w hst => at_c (rows := m) (width := width) (r := r) (x := k) w (oA.now hst) h3 h4 (by omega) (by omega) (by omega) (by omega) (by omega) false hat) (by exact rfl) ?_
        refine gg ?_
        exact gnx (⟨r, k + 1, As, cs, Ac, cc⟩ : SX) ⟨by dsimp only; omega, by dsimp only; omega⟩ (by dsimp only; omega)
    · obtain rfl : k = width := by omega
      rw [colsTo_next hlt hS]
      refine gg ?_
      refine gpush (by exact rfl) (fun b => by exact rfl) ?_
      intro bb A' c'
      rw [← startTo_next hlt]
      refine gg ?_
      exact gnx (⟨r + 1, 0, A', c', Ac, cc⟩ : SX) (by dsimp only; omega) (by dsimp only; omega)
  · obtain rfl : r = m := by omega
    rw [(to_end r width S).1, (to_end r width S).2]
    refine gg ?_
    exact grt (⟨As, cs, Ac, cc⟩ : PA) trivial
theorem IsGrid.congr {on : List Bool} {rows width : Int} {S S' : Int → Int → Bool} (h : IsGrid on rows width S) (e : ∀ r c : Int, 0 ≤ r → r < rows → 0 ≤ c → c < width → S r c = S' r c) : IsGrid on rows width S' :=
  ⟨h.len, fun r c a0 a1 a2 a3 => by rw [h.at_ r c a0 a1 a2 a3, e r c a0 a1 a2 a3]⟩
/-- a grid that is filled place by place -/
def fillS (F : Int → Int → Bool) (r c : Int) (a b : Int) : Bool := decide (a < r ∨ a = r ∧ b < c) && F a b
section
variable {on : List Bool} {rows width : Int} {F : Int → Int → Bool}
theorem fill_zero (h : IsGrid on rows width (fun _ _ => false)) : IsGrid on rows width (fillS F 0 0) := h.congr fun r c h0 _ h2 _ => by
  unfold fillS
  rw [decide_eq_false (by omega), Bool.false_and]
theorem fill_step {r c : Int} (h : IsGrid on rows width (fillS F r c)) (h0 : 0 ≤ r) (h1 : r < rows) (h2 : 0 ≤ c) (h3 : c < width) : IsGrid (on.set (r * width + c).toNat (F r c)) rows width (fillS F r (c + 1)) := by
  refine h.set h0 h1 h2 h3 _ _ fun a b => ?_
  unfold fillS
  by_cases e : a = r ∧ b = c
  · rw [if_pos e, e.1, e.2, decide_eq_true (by omega), Bool.true_and]
  · rw [if_neg e]
    congr 1
    exact decide_eq_decide.2 (by omega)
theorem fill_next {r : Int} (h : IsGrid on rows width (fillS F r width)) : IsGrid on rows width (fillS F (r + 1) 0) := h.congr fun a b _ _ h2 h3 => by
  unfold fillS
  congr 1
  exact decide_eq_decide.2 (by omega)
theorem fill_end (h : IsGrid on rows width (fillS F rows 0)) : IsGrid on rows width F := h.congr fun a b _ h1 _ _ => by
  unfold fillS
  rw [decide_eq_true (by omega), Bool.true_and]
end
structure BX where
  k : Int
  c : Int
  on : List Bool
section
variable {A B : Option Addr} {c d : Nat} {rs cs : List Int} {rows width : Int}
theorem refBuild_c (w : World) (hA : Rds vi w A c rs) (hB : Rds vi w B d cs) (hl : rs.length ≤ 17592186044416) (q : PE) (hq : buildS rows width rs cs = q) :
    Calls Try.prog 83 [vi rows, vi width, .slice A rs.length c, .slice B cs.length d].toArray w (Ret [] (fun y : PA => .tuple #[pvl y q.1, vi q.2]) (fun y => PatR y q.1) (fun _ => True) w) := by
  have oA := hA.old
  have oB := hB.old
  have lB := hB.len
  by_cases hs : Sized rows width
  · obtain ⟨⟨h1, h2⟩, h3, h4⟩ := hs
    have hsz : Calls Try.prog 74 [vi rows, vi width].toArray w (one (.bool true) w) := sized_c (x := rows) (y := width) w true (by simp [h1, h2, h3, h4])
    by_cases hlen : rs.length = cs.length
    · obtain ⟨m0, m1⟩ := mul_small h1 h2 h3 h4
      refine calls_wc [] [] [.cell 8 TP, .tmp 9] (fun y : PA => [pvl y q.1, vi q.2]) Try.func83 rfl rfl (fun _ => rfl) Try.ntmps83 rfl (Own.nil w) rfl ?_
      refine gnil ?_
      refine gnil ?_
      refine gg ?_
      refine wl_op (ok_alloc rfl rfl rfl rfl (ze_of rfl) ?_); intro rb
      refine gg ?_
      refine gc1 (fun w _ => sized_c (x := rows) (y := width) w true (by simp [h1, h2, h3, h4])) (by exact rfl) ?_
      refine gg ?_
      refine gc3 [] (fun w hst hst1 => empty_c w h1 h2 h3 h4) (by exact rfl) ?_
      (repeat (first | refine gk1 ?_ | refine gk2 ?_ | refine gk3 ?_ | refine gk0 ?_ | refine gk4 ?_))
      rintro b0 _
      dsimp only [List.cons_append, List.nil_append]
      refine wl_op (ok_alloc rfl rfl rfl rfl (ze_of rfl) ?_); intro gb
      refine gg ?_
      refine glp (fun x : BX => 0 ≤ x.k ∧ x.k ≤ rs.length ∧ (∀ i, 0 ≤ i → i < x.k → ¬ BadAt rows width rs cs i) ∧ IsGrid x.on rows width (lisB rs cs x.k)) (fun x => [(0, vi rows), (1, vi width), (2, .slice A rs.length c), (3, .slice B cs.length d), (8, .pointer (some ⟨rb, 0, none⟩)), (10, .pointer (some ⟨gb, 0, none⟩)), (11, vi x.k)])
        (fun x => [osl TB vb (some ⟨b0, 0, none⟩) (rows * width).toNat x.on, blk gb (gridC rows width (some ⟨b0, 0, none⟩) (rows * width).toNat (rows * width).toNat) TGr, blk rb pat0 TP, osl TI vi none 0 [], osl TI vi none 0 []]) (fun x => (rs.length - x.k).toNat) ⟨0, 0, List.replicate (rows * width).toNat false⟩ ⟨by simp, by simp, fun i h h' => by dsimp only at h'; omega, by dsimp only; rw [lisB_zero]; exact IsGrid.none m0⟩ ?_
      rintro ⟨k, _, on⟩ ⟨hk0, hk1, hok, hg⟩
      dsimp only at hk0 hk1 hok hg ⊢
      have hgl := hg.len
      by_cases hk : k < rs.length
      · by_cases hbad : BadAt rows width rs cs k
        · obtain rfl : (zP, (1 : Int)) = q := by
            rw [← hq]; unfold buildS
            rw [if_neg (by simp [Sized, h1, h2, h3, h4]), if_neg (by simp [hlen]), if_pos ⟨k, hk0, hk, hbad⟩]
          unfold BadAt at hbad
          by_cases g1 : gt rs k < 0
          · refine gg ?_
            exact grt PA.nil trivial
          · by_cases g2 : rows ≤ gt rs k
            · refine gg ?_
              exact grt PA.nil trivial
            · by_cases g3 : gt cs k < 0
              · refine gg ?_
                exact grt PA.nil trivial
              · refine gg ?_
                exact grt PA.nil trivial
        · have hbad' := hbad
          unfold BadAt at hbad'
          have g1 : 0 ≤ gt rs k := by omega
          have g2 : gt rs k < rows := by omega
          have g3 : 0 ≤ gt cs k := by omega
          have g4 : gt cs k < width := by omega
          clear hbad'
          have hcell := cell_lt g1 g2 g3 g4
          obtain ⟨q0, q1⟩ := mul_small (x := gt rs k) (y := width) g1 (by omega) h3 h4
          refine gg ?_
          refine gwa [osl TB vb (some ⟨b0, 0, none⟩) (rows * width).toNat on] ?_
          (repeat (first | refine gk1 ?_ | refine gk2 ?_ | refine gk3 ?_ | refine gk0 ?_ | refine gk4 ?_))
          (first | refine ga1 0 (by exact rfl) (by exact rfl) ?_ | refine ga2 0 (by exact rfl) (by exact rfl) ?_ | refine ga3 0 (by exact rfl) (by exact rfl) ?_ | refine ga4 0 (by exact rfl) (by exact rfl) ?_)
          (first | refine ga1 1 (by exact rfl) (by exact rfl) ?_ | refine ga2 1 (by exact rfl) (by exact rfl) ?_ | refine ga3 1 (by exact rfl) (by exact rfl) ?_ | refine ga4 1 (by exact rfl) (by exact rfl) ?_)
          (first | refine ga1 2 (by exact rfl) (by exact rfl) ?_ | refine ga2 2 (by exact rfl) (by exact rfl) ?_ | refine ga3 2 (by exact rfl) (by exact rfl) ?_ | refine ga4 2 (by exact rfl) (by exact rfl) ?_)
          (first | refine ga1 3 (by exact rfl) (by exact rfl) ?_ | refine ga2 3 (by exact rfl) (by exact rfl) ?_ | refine ga3 3 (by exact rfl) (by exact rfl) ?_ | refine ga4 3 (by exact rfl) (by exact rfl) ?_)
          (first | refine ga1 4 (by exact rfl) (by exact rfl) ?_ | refine ga2 4 (by exact rfl) (by exact rfl) ?_ | refine ga3 4 (by exact rfl) (by exact rfl) ?_ | refine ga4 4 (by exact rfl) (by exact rfl) ?_)
          (first | refine ga1 5 (by exact rfl) (by exact rfl) ?_ | refine ga2 5 (by exact rfl) (by exact rfl) ?_ | refine ga3 5 (by exact rfl) (by exact rfl) ?_ | refine ga4 5 (by exact rfl) (by exact rfl) ?_)
          (first | refine ga1 6 (by exact rfl) (by exact rfl) ?_ | refine ga2 6 (by exact rfl) (by exact rfl) ?_ | refine ga3 6 (by exact rfl) (by exact rfl) ?_ | refine ga4 6 (by exact rfl) (by exact rfl) ?_)
          (first | refine ga1 7 (by exact rfl) (by exact rfl) ?_ | refine ga2 7 (by exact rfl) (by exact rfl) ?_ | refine ga3 7 (by exact rfl) (by exact rfl) ?_ | refine ga4 7 (by exact rfl) (by exact rfl) ?_)
          (first | refine ga1 8 (by exact rfl) (by exact rfl) ?_ | refine ga2 8 (by exact rfl) (by exact rfl) ?_ | refine ga3 8 (by exact rfl) (by exact rfl) ?_ | refine ga4 8 (by exact rfl) (by exact rfl) ?_)
          (first | refine ga1 9 (by exact rfl) (by exact rfl) ?_ | refine ga2 9 (by exact rfl) (by exact rfl) ?_ | refine ga3 9 (by exact rfl) (by exact rfl) ?_ | refine ga4 9 (by exact rfl) (by exact rfl) ?_)
          (first | refine ga1 10 (by exact rfl) (by exact rfl) ?_ | refine ga2 10 (by exact rfl) (by exact rfl) ?_ | refine ga3 10 (by exact rfl) (by exact rfl) ?_ | refine ga4 10 (by exact rfl) (by exact rfl) ?_)
          (first | refine ga1 11 (by exact rfl) (by exact rfl) ?_ | refine ga2 11 (by exact rfl) (by exact rfl) ?_ | refine ga3 11 (by exact rfl) (by exact rfl) ?_ | refine ga4 11 (by exact rfl) (by exact rfl) ?_)
          (first | refine ga1 12 (by exact rfl) (by exact rfl) ?_ | refine ga2 12 (by exact rfl) (by exact rfl) ?_ | refine ga3 12 (by exact rfl) (by exact rfl) ?_ | refine ga4 12 (by exact rfl) (by exact rfl) ?_)
          (first | refine ga1 13 (by exact rfl) (by exact rfl) ?_ | refine ga2 13 (by exact rfl) (by exact rfl) ?_ | refine ga3 13 (by exact rfl) (by exact rfl) ?_ | refine ga4 13 (by exact rfl) (by exact rfl) ?_)
          refine gaOne 14 rfl ?_
          refine gt0 (by exact rfl) ?_
          refine ⟨by (repeat (first | exact Suf.refl | exact Suf.nil | exact Suf.app _ _ | apply Suf.cons)), ?_⟩
          refine gaDone ?_
          refine gg ?_
          exact gnx (⟨k + 1, 0, on.set (gt rs k * width + gt cs k).toNat true⟩ : BX) ⟨by dsimp only; omega, by dsimp only; omega, fun i h h' => by
            dsimp only at h'
            by_cases hik : i < k
            · exact hok i h hik
            · obtain rfl : i = k := by omega
              exact hbad, by
            dsimp only
            rw [lisB_step hk0]
            refine hg.set g1 g2 g3 g4 true _ fun r' c' => ?_
            by_cases e : r' = gt rs k ∧ c' = gt cs k
            · rw [if_pos e]; simp [e.1, e.2]
            · rw [if_neg e]
              have : (r' == gt rs k && c' == gt cs k) = false := by
                rw [Bool.and_eq_false_iff]
                by_cases ha : r' = gt rs k
                · right; simpa using fun hb => e ⟨ha, hb⟩
                · left; simpa using ha
              rw [this, Bool.or_false]⟩ (by dsimp only; omega)
      · obtain rfl : k = rs.length := by omega
        have hnb : ¬ Bad rows width rs cs := by
          rintro ⟨i, i0, i1, hb⟩
          exact hok i i0 i1 hb
        obtain ⟨m, rfl⟩ := Int.eq_ofNat_of_zero_le h1
        obtain rfl : (shutP m width (lisB rs cs rs.length), (0 : Int)) = q := by
          rw [← hq]; unfold buildS
          rw [if_neg (by simp [Sized, h2, h3, h4]), if_neg (by simp [hlen]), if_neg hnb, Int.toNat_natCast]
        have hN : ((m : Int) * width).toNat = on.length := by omega
        rw [hN]
        refine gg ?_
        refine gc3 [] (fun w hst hst1 => refShut_c (S := lisB rs cs rs.length) w (grd hst) hg (by omega) h3 h4 (fun r hr y hy => (lisB_within hnb _ _ hy).2)) (by exact rfl) ?_
        (repeat (first | refine gk1 ?_ | refine gk2 ?_ | refine gk3 ?_ | refine gk0 ?_ | refine gk4 ?_))
        rintro y _
        dsimp only [List.cons_append, List.nil_append]
        refine gg ?_
        exact grt y trivial
    · obtain rfl : (zP, (7 : Int)) = q := by
        rw [← hq]; unfold buildS
        rw [if_neg (by simp [Sized, h1, h2, h3, h4]), if_pos (by simp [hlen])]
      refine calls_wc [] [] [.cell 8 TP, .tmp 9] (fun y : PA => [pvl y zP, vi 7]) Try.func83 rfl rfl (fun _ => rfl) Try.ntmps83 rfl (Own.nil w) rfl ?_
      refine gnil ?_
      refine gnil ?_
      refine gg ?_
      refine wl_op (ok_alloc rfl rfl rfl rfl (ze_of rfl) ?_); intro rb
      refine gg ?_
      refine gc1 (fun w _ => sized_c (x := rows) (y := width) w true (by simp [h1, h2, h3, h4])) (by exact rfl) ?_
      refine gg ?_
      exact grt PA.nil trivial
  · obtain rfl : (zP, (180 : Int)) = q := by
      rw [← hq]; unfold buildS
      rw [if_pos hs]
    refine calls_wc [] [] [.cell 8 TP, .tmp 9] (fun y : PA => [pvl y zP, vi 180]) Try.func83 rfl rfl (fun _ => rfl) Try.ntmps83 rfl (Own.nil w) rfl ?_
    refine gnil ?_
    refine gnil ?_
    refine gg ?_
    refine wl_op (ok_alloc rfl rfl rfl rfl (ze_of rfl) ?_); intro rb
    refine gg ?_
    refine gc1 (fun w _ => sized_c (x := rows) (y := width) w false (by simpa [Sized, and_assoc] using hs)) (by exact rfl) ?_
    refine gg ?_
    exact grt PA.nil trivial
end
section
variable {p : Pat} {x : PA}
end
end Go.Proofs.Ytoiiellaoikojaa
