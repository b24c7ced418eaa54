/- Walks: the reference: ready, Blocks. Walks: the reference: Blocks. Walks: the law SparseParts. -/
import Derived.Test.YtofngbaefbbeiaaDW
import Derived.Test.YtofngbaefbbeiaaCR
import Derived.Test.YtofngbaefbbeiaaTC
set_option linter.unusedVariables false
set_option linter.unusedSimpArgs false
set_option maxHeartbeats 8000000
namespace Go.Proofs.Ytofngbaefbbeiaa
open Go.RowKit
section
variable {n : Nat} {A1 A2 A : Option Addr} {c1 c2 c : Nat} {on1 on2 : List Bool} {E : Int → Int → Bool} {L : List Int} {v : Int}
theorem via_same (hon : On n E) {a b : Int} : (viaB E n a b = true ∧ viaB E n b a = true) ↔ Same E a b := by
  rw [viaB_iff, viaB_iff, via_way hon, via_way hon]
  exact Iff.rfl
theorem ready_c (w : World) (hA1 : Rds vb w A1 c1 on1) (hA2 : Rds vb w A2 c2 on2) (hL : Rds vi w A c L) (hg1 : IsGrid on1 n n E) (hg2 : IsGrid on2 n n (viaB E n)) (hon : On n E) (hn : n ≤ 128) (hl : L.length = n) (v0 : 0 ≤ v) (v1 : v < n) (b : Bool) (hb : b = true ↔ Ready E (fun u => gt L u) v) :
    Calls Try.prog 115 [.agg (gridC n n A1 on1.length c1).toArray, .agg (gridC n n A2 on2.length c2).toArray, .slice A L.length c, vi v].toArray w (one (.bool b) w) := by
  have o1 := hA1.old
  have o2 := hA2.old
  have oL := hL.old
  have hgl1 := hg1.len
  have hgl2 := hg2.len
  refine calls_wc [] [] [.tmp 8] (fun _ => [.bool b]) Try.func115 rfl rfl (fun _ => rfl) Try.ntmps115 rfl (Own.nil w) rfl ?_
  refine gg ?_
  refine wl_op (ok_box rfl rfl rfl rfl rfl ?_); intro b4
  refine gg ?_
  refine wl_op (ok_box rfl rfl rfl rfl rfl ?_); intro b5
  refine gg ?_
  refine glp (fun r : Int => 0 ≤ r ∧ r ≤ n ∧ ∀ r' d : Int, r' < r → Same E v r' → E r' d = true → gt L d < 0 → Same E v d) (fun r => [(2, .slice A L.length c), (3, vi v), (4, .pointer (some ⟨b4, 0, none⟩)), (5, .pointer (some ⟨b5, 0, none⟩)), (9, vi r)])
    (fun _ => [blk b4 (gridC n n A1 on1.length c1) TGr, blk b5 (gridC n n A2 on2.length c2) TGr]) (fun r => (n - r).toNat) 0 ⟨by omega, by omega, fun r' d h1 h2 h3 => by have := (hon _ _ h3).1; omega⟩ ?_
  rintro r ⟨hr0, hr1, hok⟩
  by_cases hr : r < n
  · refine gg ?_
    refine glp (fun x : Int => 0 ≤ x ∧ x ≤ n ∧ ∀ d : Int, d < x → Same E v r → E r d = true → gt L d < 0 → Same E v d) (fun x => [(2, .slice A L.length c), (3, vi v), (4, .pointer (some ⟨b4, 0, none⟩)), (5, .pointer (some ⟨b5, 0, none⟩)), (9, vi r), (10, vi x)])
      (fun _ => [blk b4 (gridC n n A1 on1.length c1) TGr, blk b5 (gridC n n A2 on2.length c2) TGr]) (fun x => (n - x).toNat) 0 ⟨by omega, by omega, fun d h1 h2 h3 => by have := (hon _ _ h3).2.2.1; omega⟩ ?_
    rintro x ⟨hx0, hx1, hok2⟩
    have hvr := hg2.at_ v r v0 (by omega) hr0 (by omega)
    have hrv := hg2.at_ r v hr0 (by omega) v0 (by omega)
    have lvr := cell_lt v0 (show v < (n : Int) by omega) hr0 (show r < (n : Int) by omega)
    have lrv := cell_lt hr0 (show r < (n : Int) by omega) v0 (show v < (n : Int) by omega)
    have hnext : ¬ Same E v r → ∀ r' d : Int, r' < r + 1 → Same E v r' → E r' d = true → gt L d < 0 → Same E v d := fun hns r' d h1 h2 h3 h4 => by
      by_cases e : r' = r
      · rw [e] at h2; exact (hns h2).elim
      · exact hok r' d (by omega) h2 h3 h4
    by_cases hx : x < n
    · cases h1 : viaB E n v r with
      | false =>
        rw [h1] at hvr
        refine gg ?_
        refine gc1 (fun w hst => at_c (rows := (n : Int)) (width := (n : Int)) (r := v) (x := r) w (o2.now hst) (by omega) (by omega) v0 (by omega) hr0 (by omega) (by omega) _ hvr) (by exact rfl) ?_
        refine gg ?_
        exact gnx (r + 1) ⟨by omega, by omega, hnext (fun hs => by rw [← via_same hon, h1] at hs; exact absurd hs.1 (by simp))⟩ (by omega)
      | true =>
        rw [h1] at hvr
        cases h2 : viaB E n r v with
        | false =>
          rw [h2] at hrv
          refine gg ?_
          refine gc1 (fun w hst => at_c (rows := (n : Int)) (width := (n : Int)) (r := v) (x := r) w (o2.now hst) (by omega) (by omega) v0 (by omega) hr0 (by omega) (by omega) _ hvr) (by exact rfl) ?_
          refine gg ?_
          refine gc1 (fun w hst => at_c (rows := (n : Int)) (width := (n : Int)) (r := r) (x := v) w (o2.now hst) (by omega) (by omega) hr0 (by omega) v0 (by omega) (by omega) _ hrv) (by exact rfl) ?_
          refine gg ?_
          exact gnx (r + 1) ⟨by omega, by omega, hnext (fun hs => by rw [← via_same hon, h2] at hs; exact absurd hs.2 (by simp))⟩ (by omega)
        | true =>
          rw [h2] at hrv
          have hS : Same E v r := (via_same hon).1 ⟨h1, h2⟩
          have hrx := hg1.at_ r x hr0 (by omega) hx0 (by omega)
          have lrx := cell_lt hr0 (show r < (n : Int) by omega) hx0 (show x < (n : Int) by omega)
          have hvx := hg2.at_ v x v0 (by omega) hx0 (by omega)
          have hxv := hg2.at_ x v hx0 (by omega) v0 (by omega)
          have lvx := cell_lt v0 (show v < (n : Int) by omega) hx0 (show x < (n : Int) by omega)
          have lxv := cell_lt hx0 (show x < (n : Int) by omega) v0 (show v < (n : Int) by omega)
          have nx : (E r x = true → gt L x < 0 → Same E v x) → ∀ d : Int, d < x + 1 → Same E v r → E r d = true → gt L d < 0 → Same E v d := fun h d h1 h2 h3 h4 => by
            by_cases e : d = x
            · rw [e] at h3 h4 ⊢; exact h h3 h4
            · exact hok2 d (by omega) h2 h3 h4
          refine gg ?_
          refine gc1 (fun w hst => at_c (rows := (n : Int)) (width := (n : Int)) (r := v) (x := r) w (o2.now hst) (by omega) (by omega) v0 (by omega) hr0 (by omega) (by omega) _ hvr) (by exact rfl) ?_
          refine gg ?_
          refine gc1 (fun w hst => at_c (rows := (n : Int)) (width := (n : Int)) (r := r) (x := v) w (o2.now hst) (by omega) (by omega) hr0 (by omega) v0 (by omega) (by omega) _ hrv) (by exact rfl) ?_
          refine gg ?_
          cases h3 : E r x with
          | false =>
            rw [h3] at hrx
            refine gc1 (fun w hst => at_c (rows := (n : Int)) (width := (n : Int)) (r := r) (x := x) w (o1.now hst) (by omega) (by omega) hr0 (by omega) hx0 (by omega) (by omega) _ hrx) (by exact rfl) ?_
            refine gg ?_
            exact gnx (x + 1) ⟨by omega, by omega, nx (fun h => by rw [h3] at h; cases h)⟩ (by omega)
          | true =>
            rw [h3] at hrx
            refine gc1 (fun w hst => at_c (rows := (n : Int)) (width := (n : Int)) (r := r) (x := x) w (o1.now hst) (by omega) (by omega) hr0 (by omega) hx0 (by omega) (by omega) _ hrx) (by exact rfl) ?_
            by_cases hLx : gt L x < 0
            · refine gg ?_
              cases h4 : viaB E n v x with
              | false =>
                rw [h4] at hvx
                obtain rfl : b = false := by
                  cases b with
                  | false => rfl
                  | true =>
                    have h6 := (hb.1 rfl) r x hS h3 hLx
                    rw [← via_same hon, h4] at h6
                    exact absurd h6.1 (by simp)
                refine gc1 (fun w hst => at_c (rows := (n : Int)) (width := (n : Int)) (r := v) (x := x) w (o2.now hst) (by omega) (by omega) v0 (by omega) hx0 (by omega) (by omega) _ hvx) (by exact rfl) ?_
                refine gg ?_
                exact grt () trivial
              | true =>
                rw [h4] at hvx
                refine gc1 (fun w hst => at_c (rows := (n : Int)) (width := (n : Int)) (r := v) (x := x) w (o2.now hst) (by omega) (by omega) v0 (by omega) hx0 (by omega) (by omega) _ hvx) (by exact rfl) ?_
                refine gg ?_
                cases h5 : viaB E n x v with
                | false =>
                  rw [h5] at hxv
                  obtain rfl : b = false := by
                    cases b with
                    | false => rfl
                    | true =>
                      have h6 := (hb.1 rfl) r x hS h3 hLx
                      rw [← via_same hon, h5] at h6
                      exact absurd h6.2 (by simp)
                  refine gc1 (fun w hst => at_c (rows := (n : Int)) (width := (n : Int)) (r := x) (x := v) w (o2.now hst) (by omega) (by omega) hx0 (by omega) v0 (by omega) (by omega) _ hxv) (by exact rfl) ?_
                  refine gg ?_
                  exact grt () trivial
                | true =>
                  rw [h5] at hxv
                  refine gc1 (fun w hst => at_c (rows := (n : Int)) (width := (n : Int)) (r := x) (x := v) w (o2.now hst) (by omega) (by omega) hx0 (by omega) v0 (by omega) (by omega) _ hxv) (by exact rfl) ?_
                  refine gg ?_
                  exact gnx (x + 1) ⟨by omega, by omega, nx (fun _ _ => (via_same hon).1 ⟨h4, h5⟩)⟩ (by omega)
            · refine gg ?_
              exact gnx (x + 1) ⟨by omega, by omega, nx (fun _ h => (hLx h).elim)⟩ (by omega)
    · obtain rfl : x = n := by omega
      refine gg ?_
      exact gnx (r + 1) ⟨by omega, by omega, fun r' d h1 h2 h3 h4 => by
        by_cases e : r' = r
        · rw [e] at h2 h3; exact hok2 d (hon _ _ h3).2.2.2 h2 h3 h4
        · exact hok r' d (by omega) h2 h3 h4⟩ (by omega)
  · obtain rfl : r = n := by omega
    obtain rfl : b = true := hb.2 fun r' d h1 h2 h3 => hok r' d (hon _ _ h2).2.1 h1 h2 h3
    refine gg ?_
    exact grt () trivial
theorem readyN_c (w : World) (hA1 : Rds vb w A1 c1 on1) (hA2 : Rds vb w A2 c2 on2) (hL : Rds vi w A c L) (hg1 : IsGrid on1 n n E) (hg2 : IsGrid on2 n n (viaB E n)) (hon : On n E) (hn : n ≤ 128) (hl : L.length = n) (v0 : 0 ≤ v) (v1 : v < n) (b : Bool) (hb : b = true ↔ Ready E (fun u => gt L u) v) :
    Calls Try.prog 115 [.agg (gridC n n A1 on1.length c1).toArray, .agg (gridC n n A2 on2.length c2).toArray, .slice A n c, vi v].toArray w (one (.bool b) w) := by
  have := ready_c w hA1 hA2 hL hg1 hg2 hon hn hl v0 v1 b hb
  rwa [hl] at this
end
structure RbX where
  k : Int
  v : Int
  u : Int
  L : List Int
section
variable {p : Pat} {x : PA}
/-- as many numbers as rounds, or all have one -/
def Rnd (E : Int → Int → Bool) (n : Nat) (L : List Int) (j : Int) : Prop := ∃ k : Nat, (k : Int) ≤ j ∧ Nums E n k (fun u => gt L u) ∧ ((k : Int) < j → AllN n (fun u => gt L u))
theorem refBlocks_c (w : World) (hp : RdP w x p) :
    Calls Try.prog 87 [pvl x p].toArray w (Ret [] (fun y : RX => .tuple #[.slice y.A y.xs.length y.c, vi (blkE p)]) (fun y => [osl TI vi y.A y.c y.xs]) (fun y => (blkE p = 0 → NumOK p p.rows.toNat y.xs) ∧ (blkE p ≠ 0 → y.xs = [])) w) := by
  have op := hp.old
  unfold pvl patV
  by_cases hm : May p
  · obtain ⟨h1, h2, h3, h4, h5, h6, h7, h8⟩ := hm.toHead
    by_cases hsq : p.rows = p.width
    · have he : blkE p = 0 := by unfold blkE; rw [if_neg (by simp [hm]), if_neg (by simp [hsq])]
      rw [he]
      obtain ⟨n, hn⟩ := Int.eq_ofNat_of_zero_le h1
      have hn2 : n ≤ 128 := by omega
      have hon : On n (hasB p) := by rw [← hn]; exact hasB_on hm hsq
      have hopen : ∀ w (y : PA), RdP w y p → Calls Try.prog 40 [pvl y p].toArray w (Ret [] (fun x : OX => .agg (gridC n n x.A x.on.length x.c).toArray) (fun x => [osl TB vb x.A x.c x.on]) (fun x => IsGrid x.on n n (hasB p)) w) := fun w y hy => by
        have := open_c w hy.s hy.c hm
        rwa [← hsq, hn] at this
      rw [show p.rows.toNat = n by omega]
      refine calls_wc [] [] [.tmp 2, .tmp 3] (fun y : RX => [.slice y.A y.xs.length y.c, vi 0]) Try.func87 rfl rfl (fun _ => rfl) Try.ntmps87 rfl (Own.nil w) rfl ?_
      refine gg ?_
      refine wl_op (ok_box rfl rfl rfl rfl rfl ?_); intro bp
      refine gg ?_
      refine gc1 (fun w hst => refMay_c (op.s.now hst) (op.c.now hst) true (by simp [hm])) (by exact rfl) ?_
      refine gg ?_
      refine gc3 [] (fun w hst hst1 => hopen w x (op.now hst)) (by exact rfl) ?_
      (repeat (first | refine gk1 ?_ | refine gk2 ?_ | refine gk3 ?_ | refine gk0 ?_ | refine gk4 ?_))
      rintro ⟨A1, c1, on1⟩ hg1
      dsimp only [List.cons_append, List.nil_append] at hg1 ⊢
      refine wl_op (ok_alloc rfl rfl rfl rfl (ze_of rfl) ?_); intro q4
      refine gg ?_
      refine gc3 [] (fun w hst hst1 => refWays_c (n := (n : Int)) (on := on1) (E := hasB p) w (grd hst) hg1 (by omega) (by omega)) (by exact rfl) ?_
      (repeat (first | refine gk1 ?_ | refine gk2 ?_ | refine gk3 ?_ | refine gk0 ?_ | refine gk4 ?_))
      rintro ⟨A2, c2, on2⟩ hg2
      dsimp only [List.cons_append, List.nil_append] at hg2 ⊢
      refine wl_op (ok_alloc rfl rfl rfl rfl (ze_of rfl) ?_); intro q5
      refine gg ?_
      refine gmk vi 0 rfl rfl rfl rfl rfl rfl rfl rfl rfl rfl rfl h1 (Int.le_refl _) (by omega) (by omega) ?_
      intro b
      rw [show p.rows.toNat = n by omega]
      refine gg ?_
      refine glp (fun y : RbX => 0 ≤ y.k ∧ y.k ≤ n ∧ y.L.length = n ∧ ∀ i, 0 ≤ i → i < y.k → gt y.L i = -1) (fun y => [(4, .pointer (some ⟨q4, 0, none⟩)), (5, .pointer (some ⟨q5, 0, none⟩)), (6, .slice (some ⟨b, 0, none⟩) n n), (7, vi y.k)])
        (fun y => [osl TI vi (some ⟨b, 0, none⟩) n y.L, osl TB vb A1 c1 on1, osl TB vb A2 c2 on2, blk q4 (gridC n n A1 on1.length c1) TGr, blk q5 (gridC n n A2 on2.length c2) TGr]) (fun y => (n - y.k).toNat) ⟨0, 0, 0, List.replicate n 0⟩ ⟨by simp, by simp, by simp, fun i i0 i1 => by dsimp only at i1; omega⟩ ?_
      rintro ⟨k, _, _, L⟩ ⟨hk0, hk1, hL, hneg⟩
      dsimp only at hk0 hk1 hL hneg ⊢
      by_cases hk : k < n
      · refine gg ?_
        exact gnx (⟨k + 1, 0, 0, L.set k.toNat (-1)⟩ : RbX) ⟨by dsimp only; omega, by dsimp only; omega, by dsimp only; rw [List.length_set]; exact hL, fun i i0 i1 => by
          dsimp only at i1 ⊢
          rw [gt_setI hk0 (by omega) i0]
          by_cases e : i = k
          · rw [if_pos e]
          · rw [if_neg e]; exact hneg i i0 (by omega)⟩ (by dsimp only; omega)
      obtain rfl : k = n := by omega
      refine gg ?_
      refine glp (fun y : RbX => 0 ≤ y.k ∧ y.k ≤ n ∧ y.L.length = n ∧ Rnd (hasB p) n y.L y.k) (fun y => [(4, .pointer (some ⟨q4, 0, none⟩)), (5, .pointer (some ⟨q5, 0, none⟩)), (6, .slice (some ⟨b, 0, none⟩) n n), (8, vi y.k)])
        (fun y => [osl TI vi (some ⟨b, 0, none⟩) n y.L, osl TB vb A1 c1 on1, osl TB vb A2 c2 on2, blk q4 (gridC n n A1 on1.length c1) TGr, blk q5 (gridC n n A2 on2.length c2) TGr]) (fun y => (n - y.k).toNat) ⟨0, 0, 0, L⟩ ⟨by simp, by simp, hL, 0, by simp, .zero fun u u0 u1 => hneg u u0 u1, fun h => by dsimp only at h; omega⟩ ?_
      clear hk0 hk1 hL hneg hk
      rintro ⟨k, _, _, L⟩ ⟨hk0, hk1, hL, hR⟩
      dsimp only at hk0 hk1 hL hR ⊢
      by_cases hk : k < n
      · refine gg ?_
        refine glp (fun y : RbX => 0 ≤ y.v ∧ y.v ≤ n ∧ ∀ u : Int, 0 ≤ u → u < y.v → ¬ (gt L u < 0 ∧ Ready (hasB p) (fun u => gt L u) u)) (fun y => [(4, .pointer (some ⟨q4, 0, none⟩)), (5, .pointer (some ⟨q5, 0, none⟩)), (6, .slice (some ⟨b, 0, none⟩) n n), (8, vi k), (9, vi y.v)])
          (fun y => [osl TI vi (some ⟨b, 0, none⟩) n L, osl TB vb A1 c1 on1, osl TB vb A2 c2 on2, blk q4 (gridC n n A1 on1.length c1) TGr, blk q5 (gridC n n A2 on2.length c2) TGr]) (fun y => (n - y.v).toNat) ⟨0, 0, 0, []⟩ ⟨by simp, by simp, fun u u0 u1 => by dsimp only at u1; omega⟩ ?_
        rintro ⟨_, v, _, _⟩ ⟨hv0, hv1, hno⟩
        dsimp only at hv0 hv1 hno ⊢
        by_cases hv : v < n
        · have nx : ¬ (gt L v < 0 ∧ Ready (hasB p) (fun u => gt L u) v) → ∀ u : Int, 0 ≤ u → u < v + 1 → ¬ (gt L u < 0 ∧ Ready (hasB p) (fun u => gt L u) u) := fun h u u0 u1 => by
            by_cases e : u = v
            · rw [e]; exact h
            · exact hno u u0 (by omega)
          by_cases hLv : 0 ≤ gt L v
          · refine gg ?_
            exact gnx (⟨0, v + 1, 0, []⟩ : RbX) ⟨by dsimp only; omega, by dsimp only; omega, nx (fun h => by omega)⟩ (by dsimp only; omega)
          · refine gg ?_
            by_cases hrd : Ready (hasB p) (fun u => gt L u) v
            · refine gc1 (fun w hst => readyN_c (n := n) (on1 := on1) (on2 := on2) (E := hasB p) w (grd hst) (grd hst) (grd hst) hg1 hg2 hon hn2 hL hv0 hv true (by simp [hrd])) (by exact rfl) ?_
              refine gg ?_
              obtain ⟨k', hk', hN, hA⟩ := hR
              have ek : (k' : Int) = k := by
                by_cases e : (k' : Int) < k
                · have := hA e v hv0 hv; dsimp only at this; omega
                · omega
              have hP : Pick (hasB p) n (fun u => gt L u) v := ⟨hv0, hv, by show gt L v < 0; omega, hrd, hno⟩
              refine glp (fun y : RbX => 0 ≤ y.u ∧ y.u ≤ n ∧ y.L.length = n ∧ ∀ i : Int, 0 ≤ i → i < n → (i < y.u → (Same (hasB p) v i → gt y.L i = k) ∧ (¬ Same (hasB p) v i → gt y.L i = gt L i)) ∧ (y.u ≤ i → gt y.L i = gt L i)) (fun y => [(4, .pointer (some ⟨q4, 0, none⟩)), (5, .pointer (some ⟨q5, 0, none⟩)), (6, .slice (some ⟨b, 0, none⟩) n n), (8, vi k), (9, vi v), (10, vi y.u)])
                (fun y => [osl TI vi (some ⟨b, 0, none⟩) n y.L, osl TB vb A1 c1 on1, osl TB vb A2 c2 on2, blk q4 (gridC n n A1 on1.length c1) TGr, blk q5 (gridC n n A2 on2.length c2) TGr]) (fun y => (n - y.u).toNat) ⟨0, 0, 0, L⟩ ⟨by simp, by simp, hL, fun i i0 i1 => ⟨fun h => by dsimp only at h; omega, fun _ => rfl⟩⟩ ?_
              rintro ⟨_, _, u, M⟩ ⟨hu0, hu1, hM, hval⟩
              dsimp only at hu0 hu1 hM hval ⊢
              by_cases hu : u < n
              · have huv := hg2.at_ u v hu0 (by omega) hv0 (by omega)
                have hvu := hg2.at_ v u hv0 (by omega) hu0 (by omega)
                have luv := cell_lt hu0 (show u < (n : Int) by omega) hv0 (show v < (n : Int) by omega)
                have lvu := cell_lt hv0 (show v < (n : Int) by omega) hu0 (show u < (n : Int) by omega)
                have hgl2 := hg2.len
                have keep : ¬ Same (hasB p) v u → ∀ i : Int, 0 ≤ i → i < n → (i < u + 1 → (Same (hasB p) v i → gt M i = k) ∧ (¬ Same (hasB p) v i → gt M i = gt L i)) ∧ (u + 1 ≤ i → gt M i = gt L i) := fun hs i i0 i1 => by
                  have hi := hval i i0 i1
                  refine ⟨fun h => ?_, fun h => hi.2 (by omega)⟩
                  by_cases e : i = u
                  · rw [e] at hi ⊢
                    exact ⟨fun h => (hs h).elim, fun _ => hi.2 (by omega)⟩
                  · exact hi.1 (by omega)
                refine gg ?_
                cases g1 : viaB (hasB p) n u v with
                | false =>
                  rw [g1] at huv
                  refine gc1 (fun w hst => at_c (rows := (n : Int)) (width := (n : Int)) (r := u) (x := v) w (grd hst) (by omega) (by omega) hu0 (by omega) hv0 (by omega) (by omega) _ huv) (by exact rfl) ?_
                  refine gg ?_
                  exact gnx (⟨0, 0, u + 1, M⟩ : RbX) ⟨by dsimp only; omega, by dsimp only; omega, hM, keep (fun hs => by rw [← via_same hon, g1] at hs; exact absurd hs.2 (by simp))⟩ (by dsimp only; omega)
                | true =>
                  rw [g1] at huv
                  refine gc1 (fun w hst => at_c (rows := (n : Int)) (width := (n : Int)) (r := u) (x := v) w (grd hst) (by omega) (by omega) hu0 (by omega) hv0 (by omega) (by omega) _ huv) (by exact rfl) ?_
                  refine gg ?_
                  cases g2 : viaB (hasB p) n v u with
                  | false =>
                    rw [g2] at hvu
                    refine gc1 (fun w hst => at_c (rows := (n : Int)) (width := (n : Int)) (r := v) (x := u) w (grd hst) (by omega) (by omega) hv0 (by omega) hu0 (by omega) (by omega) _ hvu) (by exact rfl) ?_
                    refine gg ?_
                    exact gnx (⟨0, 0, u + 1, M⟩ : RbX) ⟨by dsimp only; omega, by dsimp only; omega, hM, keep (fun hs => by rw [← via_same hon, g2] at hs; exact absurd hs.1 (by simp))⟩ (by dsimp only; omega)
                  | true =>
                    rw [g2] at hvu
                    have hs : Same (hasB p) v u := (via_same hon).1 ⟨g2, g1⟩
                    refine gc1 (fun w hst => at_c (rows := (n : Int)) (width := (n : Int)) (r := v) (x := u) w (grd hst) (by omega) (by omega) hv0 (by omega) hu0 (by omega) (by omega) _ hvu) (by exact rfl) ?_
                    refine gg ?_
                    exact gnx (⟨0, 0, u + 1, M.set u.toNat k⟩ : RbX) ⟨by dsimp only; omega, by dsimp only; omega, by dsimp only; rw [List.length_set]; exact hM, fun i i0 i1 => by
                      dsimp only
                      have hi := hval i i0 i1
                      rw [gt_setI hu0 (by omega) i0]
                      by_cases e : i = u
                      · rw [if_pos e, e]
                        exact ⟨fun _ => ⟨fun _ => rfl, fun h => (h hs).elim⟩, fun h => by omega⟩
                      · rw [if_neg e]
                        exact ⟨fun h => hi.1 (by omega), fun h => hi.2 (by omega)⟩⟩ (by dsimp only; omega)
              · obtain rfl : u = n := by omega
                refine gg ?_
                refine gnx (⟨k + 1, 0, 0, M⟩ : RbX) ⟨by dsimp only; omega, by dsimp only; omega, hM, k' + 1, by dsimp only; omega, .next hN hP (fun i i0 i1 => by rw [ek]; exact (hval i i0 i1).1 i1), fun h => by dsimp only at h; omega⟩ (by dsimp only; omega)
            · refine gc1 (fun w hst => readyN_c (n := n) (on1 := on1) (on2 := on2) (E := hasB p) w (grd hst) (grd hst) (grd hst) hg1 hg2 hon hn2 hL hv0 hv false (by simp [hrd])) (by exact rfl) ?_
              refine gg ?_
              exact gnx (⟨0, v + 1, 0, []⟩ : RbX) ⟨by dsimp only; omega, by dsimp only; omega, nx (fun h => hrd h.2)⟩ (by dsimp only; omega)
        · obtain rfl : v = n := by omega
          obtain ⟨k', hk', hN, hA⟩ := hR
          have hall : AllN n (fun u => gt L u) := fun u u0 u1 => by
            apply Classical.byContradiction
            intro h
            obtain ⟨z, hz⟩ := hN.pick hon u0 u1 (by dsimp only at h; omega)
            exact hno z hz.lo hz.hi ⟨hz.neg, hz.rdy⟩
          refine gg ?_
          exact gnx (⟨k + 1, 0, 0, L⟩ : RbX) ⟨by dsimp only; omega, by dsimp only; omega, hL, k', by dsimp only; omega, hN, fun _ => hall⟩ (by dsimp only; omega)
      · obtain rfl : k = n := by omega
        obtain ⟨k', hk', hN, hA⟩ := hR
        have hall : AllN n (fun u => gt L u) := by
          by_cases e : (k' : Int) < n
          · exact hA e
          · obtain rfl : k' = n := by omega
            exact hN.full hon
        refine gg ?_
        exact grt (⟨some ⟨b, 0, none⟩, n, L⟩ : RX) ⟨fun _ => ⟨hL, ⟨k', hN⟩, hall⟩, fun h => (h rfl).elim⟩ (h1 := ⟨.t (look_to rfl (by rw [hL])), .t rfl, trivial⟩)
    · have he : blkE p = 7 := by unfold blkE; rw [if_neg (by simp [hm]), if_pos hsq]
      rw [he]
      refine calls_wc [] [] [.tmp 2, .tmp 3] (fun y : RX => [.slice y.A y.xs.length y.c, vi 7]) Try.func87 rfl rfl (fun _ => rfl) Try.ntmps87 rfl (Own.nil w) rfl ?_
      refine gnil ?_
      refine gg ?_
      refine wl_op (ok_box rfl rfl rfl rfl rfl ?_); intro bp
      refine gg ?_
      refine gc1 (fun w hst => refMay_c (op.s.now hst) (op.c.now hst) true (by simp [hm])) (by exact rfl) ?_
      refine gg ?_
      exact grt (⟨none, 0, []⟩ : RX) ⟨fun h => absurd h (by decide), fun _ => rfl⟩
  · have he : blkE p = 180 := by unfold blkE; rw [if_pos hm]
    rw [he]
    refine calls_wc [] [] [.tmp 2, .tmp 3] (fun y : RX => [.slice y.A y.xs.length y.c, vi 180]) Try.func87 rfl rfl (fun _ => rfl) Try.ntmps87 rfl (Own.nil w) rfl ?_
    refine gnil ?_
    refine gg ?_
    refine wl_op (ok_box rfl rfl rfl rfl rfl ?_); intro bp
    refine gg ?_
    refine gc1 (fun w hst => refMay_c (op.s.now hst) (op.c.now hst) false (by simp [hm])) (by exact rfl) ?_
    refine gg ?_
    exact grt (⟨none, 0, []⟩ : RX) ⟨fun h => absurd h (by decide), fun _ => rfl⟩
end
section
variable {p : Pat} {x y : PA}
theorem blocks_same {xs : List Int} (h1 : (blkE p = 0 → NumOK p p.rows.toNat xs) ∧ (blkE p ≠ 0 → xs = [])) {ys : List Int} (h2 : (blkE p = 0 → NumOK p p.rows.toNat ys) ∧ (blkE p ≠ 0 → ys = [])) : xs = ys := by
  by_cases he : blkE p = 0
  · have a := h1.1 he
    have b := h2.1 he
    obtain ⟨hm, hsq⟩ : May p ∧ p.rows = p.width := by
      unfold blkE at he
      by_cases hm : May p
      · rw [if_neg (by simp [hm])] at he
        by_cases hsq : p.rows = p.width
        · exact ⟨hm, hsq⟩
        · rw [if_pos hsq] at he; exact absurd he (by decide)
      · rw [if_pos hm] at he; exact absurd he (by decide)
    have h0 := hm.toHead.r0
    have hon : On p.rows.toNat (hasB p) := by rw [show (p.rows.toNat : Int) = p.rows by omega]; exact hasB_on hm hsq
    obtain ⟨k1, n1⟩ := a.nums
    obtain ⟨k2, n2⟩ := b.nums
    refine ext_gt (by rw [a.len, b.len]) fun i i0 i1 => n1.same hon a.all n2 b.all i i0 (by rw [a.len] at i1; exact i1)
  · rw [h1.2 he, h2.2 he]
theorem lawparts_c (w : World) (hp : RdP w x p) (hq : RdP w y p) :
    Calls Try.prog 33 [pvl x p, pvl y p].toArray w (one (.bool true) w) := by
  have op := hp.old
  have oq := hq.old
  unfold pvl patV
  refine calls_wc [] [] [.tmp 4] (fun _ => [.bool true]) Try.func33 rfl rfl (fun _ => rfl) Try.ntmps33 rfl (Own.nil w) rfl ?_
  refine gg ?_
  refine wl_op (ok_box rfl rfl rfl rfl rfl ?_); intro b1
  refine wl_op (ok_box rfl rfl rfl rfl rfl ?_); intro b2
  refine gg ?_
  refine gc3 [] (fun w hst hst1 => comp_c (p := p) (x := x) w (op.now hst)) (by exact rfl) ?_
  (repeat (first | refine gk1 ?_ | refine gk2 ?_ | refine gk3 ?_ | refine gk0 ?_ | refine gk4 ?_))
  rintro y1 e1
  dsimp only [List.cons_append, List.nil_append]
  refine gg ?_
  refine gc3 [] (fun w hst hst1 => refComp_c (p := p) (x := y) w (oq.now hst)) (by exact rfl) ?_
  (repeat (first | refine gk1 ?_ | refine gk2 ?_ | refine gk3 ?_ | refine gk0 ?_ | refine gk4 ?_))
  rintro y2 e2
  dsimp only [List.cons_append, List.nil_append]
  refine gg ?_
  refine gc1 (fun w hst => sameInts_c (xs := y1.xs) (ys := y2.xs) w (grd hst) (grd hst) true (by rw [e1, e2]; simp)) (by exact rfl) ?_
  refine gg ?_
  refine gc3 [] (fun w hst hst1 => blocks_c (p := p) (x := x) w (op.now hst)) (by exact rfl) ?_
  (repeat (first | refine gk1 ?_ | refine gk2 ?_ | refine gk3 ?_ | refine gk0 ?_ | refine gk4 ?_))
  rintro y3 e3
  dsimp only [List.cons_append, List.nil_append]
  refine gg ?_
  refine gc3 [] (fun w hst hst1 => refBlocks_c (p := p) (x := y) w (oq.now hst)) (by exact rfl) ?_
  (repeat (first | refine gk1 ?_ | refine gk2 ?_ | refine gk3 ?_ | refine gk0 ?_ | refine gk4 ?_))
  rintro y4 e4
  dsimp only [List.cons_append, List.nil_append]
  refine gg ?_
  refine gc1 (fun w hst => sameInts_c (xs := y3.xs) (ys := y4.xs) w (grd hst) (grd hst) true (by rw [blocks_same e3 e4]; simp)) (by exact rfl) ?_
  refine gg ?_
  exact grt () trivial
theorem lawSparseParts_c (w : World) (hp : RdP w x p) (hl : p.start.length ≤ 17592186043904) (hl2 : p.cols.length ≤ 17592186043904) :
    Calls Try.prog 10 [pvl x p].toArray w (one (.bool true) w) := by
  have op := hp.old
  unfold pvl patV
  refine calls_wc [] [] [.tmp 2] (fun _ => [.bool true]) Try.func10 rfl rfl (fun _ => rfl) Try.ntmps10 rfl (Own.nil w) rfl ?_
  refine gg ?_
  refine wl_op (ok_box rfl rfl rfl rfl rfl ?_); intro bp
  refine gg ?_
  refine wl_none TIs sv ?_
  refine wl_none TIs sv ?_
  refine wl_op (ok_box rfl rfl rfl rfl rfl ?_); intro g
  refine gg ?_
  refine wc_perm (σ' := Giv g ⟨none, 0, none, 0, []⟩ ++ [blk bp (pcs x p) TP]) (List.Perm.refl _) ?_
  refine wa_beginS (Giv g ⟨none, 0, none, 0, []⟩) [blk bp (pcs x p) TP] rfl mixed ?_
  (first | refine ga1 0 (by exact rfl) (by exact rfl) ?_ | refine ga2 0 (by exact rfl) (by exact rfl) ?_ | refine ga3 0 (by exact rfl) (by exact rfl) ?_ | refine ga4 0 (by exact rfl) (by exact rfl) ?_)
  (first | refine ga1 1 (by exact rfl) (by exact rfl) ?_ | refine ga2 1 (by exact rfl) (by exact rfl) ?_ | refine ga3 1 (by exact rfl) (by exact rfl) ?_ | refine ga4 1 (by exact rfl) (by exact rfl) ?_)
  (first | refine ga1 3 (by exact rfl) (by exact rfl) ?_ | refine ga2 3 (by exact rfl) (by exact rfl) ?_ | refine ga3 3 (by exact rfl) (by exact rfl) ?_ | refine ga4 3 (by exact rfl) (by exact rfl) ?_)
  refine wa_one 2 rfl (by kernel_rfl) ?_
  refine ok_call (Giv g ⟨none, 0, none, 0, []⟩) [blk bp (pcs x p) TP] rfl (by rfl) (bod_of rfl) (by rfl) (by rfl) (by rfl) (List.Perm.refl _) (fun w hst => givenPattern_c (p := p) ⟨none, 0, none, 0, []⟩ w (op.s.later (St.keep hst)) (op.c.later (St.keep hst)) hl hl2 (by simp) (St.ownl hst)) ?_
  rintro ⟨z, e1, e2⟩ ⟨hy1, hy2, hy3⟩
  dsimp only at hy1 hy2 hy3 ⊢
  refine ⟨⟨_, rfl⟩, ?_⟩
  have m1 : e1 ∈ z.es := by rw [hy1]; simp
  have m2 : e2 ∈ z.es := by rw [hy1]; simp
  have q1 := (Giv.mem (g := g) m1).1
  have q2 := (Giv.mem (g := g) m2).1
  rw [hy2] at q1
  rw [hy3] at q2
  refine wa_one 4 rfl (by kernel_rfl) ?_
  refine ok_call1 (fun w hst => lawparts_c (p := p) (x := ⟨e1.A, e1.c, e2.A, e2.c⟩) (y := x) w ⟨(osl_reads ((St.keep hst).ok _ q1)).pre, (osl_reads ((St.keep hst).ok _ q2)).pre⟩ (op.now hst)) rfl (by rfl) (bod_of rfl) (by rfl) (by rfl) (by rfl) ?_
  refine ⟨⟨_, rfl⟩, ?_⟩
  (first | refine ga1 5 (by exact rfl) (by exact rfl) ?_ | refine ga2 5 (by exact rfl) (by exact rfl) ?_ | refine ga3 5 (by exact rfl) (by exact rfl) ?_ | refine ga4 5 (by exact rfl) (by exact rfl) ?_)
  (first | refine ga1 6 (by exact rfl) (by exact rfl) ?_ | refine ga2 6 (by exact rfl) (by exact rfl) ?_ | refine ga3 6 (by exact rfl) (by exact rfl) ?_ | refine ga4 6 (by exact rfl) (by exact rfl) ?_)
  refine wa_one 7 rfl (by kernel_rfl) ?_
  refine ok_call (Giv g z) [blk bp (pcs x p) TP] rfl (by rfl) (bod_of rfl) (by rfl) (by rfl) (by rfl) (List.Perm.refl _) (fun w hst => intact_c z w (by rw [hy1]; simp) (St.ownl hst)) ?_
  intro _ _
  refine ⟨⟨_, rfl⟩, ?_⟩
  (first | refine ga1 8 (by exact rfl) (by exact rfl) ?_ | refine ga2 8 (by exact rfl) (by exact rfl) ?_ | refine ga3 8 (by exact rfl) (by exact rfl) ?_ | refine ga4 8 (by exact rfl) (by exact rfl) ?_)
  (first | refine ga1 9 (by exact rfl) (by exact rfl) ?_ | refine ga2 9 (by exact rfl) (by exact rfl) ?_ | refine ga3 9 (by exact rfl) (by exact rfl) ?_ | refine ga4 9 (by exact rfl) (by exact rfl) ?_)
  refine wa_done (by kernel_rfl) ?_
  refine gg ?_
  exact grt () trivial
end
end Go.Proofs.Ytofngbaefbbeiaa
