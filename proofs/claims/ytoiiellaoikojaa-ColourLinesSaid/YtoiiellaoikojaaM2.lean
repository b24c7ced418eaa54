/- Walks: colours: the reference's Bound. -/
import Derived.Test.YtoiiellaoikojaaM1
set_option linter.unusedVariables false
set_option linter.unusedSimpArgs false
set_option maxHeartbeats 8000000
namespace Go.Proofs.Ytoiiellaoikojaa
open Go.RowKit
open Classical in
noncomputable def nrB (kd : Int) (g : Int → Int → Bool) (l : List Int) (i j m : Int) : Bool := decide (g (gt l i) (gt l j) = true ∨ ((kd = 4 ∨ kd = 5) ∧ ∃ q : Int, 0 ≤ q ∧ q < m ∧ g (gt l i) (gt l q) = true ∧ g (gt l q) (gt l j) = true))
open Classical in
theorem nrB_zero (kd : Int) (g : Int → Int → Bool) (l : List Int) (i j : Int) : nrB kd g l i j 0 = g (gt l i) (gt l j) := by
  unfold nrB
  rw [Bool.eq_iff_iff, decide_eq_true_iff]
  exact ⟨fun h => h.elim id (fun ⟨_, q, a, b, _⟩ => by omega), .inl⟩
open Classical in
theorem nrB_next {kd : Int} {g : Int → Int → Bool} {l : List Int} {i j m : Int} (hk : kd = 4 ∨ kd = 5) (h : 0 ≤ m) : nrB kd g l i j (m + 1) = (nrB kd g l i j m || (g (gt l i) (gt l m) && g (gt l m) (gt l j))) := by
  rw [Bool.eq_iff_iff, Bool.or_eq_true, Bool.and_eq_true]
  unfold nrB
  rw [decide_eq_true_iff, decide_eq_true_iff]
  constructor
  · rintro (h1 | ⟨_, q, a, b, d⟩)
    · exact .inl (.inl h1)
    · by_cases e : q = m
      · rw [e] at d; exact .inr d
      · exact .inl (.inr ⟨hk, q, a, by omega, d⟩)
  · rintro ((h1 | ⟨_, q, a, b, d⟩) | d)
    · exact .inl h1
    · exact .inr ⟨hk, q, a, by omega, d⟩
    · exact .inr ⟨hk, m, h, by omega, d⟩
open Classical in
theorem nrB_not {kd : Int} {g : Int → Int → Bool} {l : List Int} {i j m : Int} (hk : ¬ (kd = 4 ∨ kd = 5)) : nrB kd g l i j m = nrB kd g l i j 0 := by
  unfold nrB
  refine decide_eq_decide.2 ?_
  exact ⟨fun h => h.elim .inl (fun h => (hk h.1).elim), fun h => h.elim .inl (fun h => (hk h.1).elim)⟩
open Classical in
theorem nrB_all {kd : Int} {g : Int → Int → Bool} {l : List Int} {i j : Int} (j0 : 0 ≤ j) (j1 : j < i) : nrB kd g l i j i = true ↔ NearP kd g l i (gt l j) := by
  unfold nrB NearP
  rw [decide_eq_true_iff]
  exact ⟨fun h => ⟨⟨j, j0, j1, rfl⟩, h⟩, fun h => h.2⟩
section
variable {p : Pat} {x : PA} {kd : Int} {A : Option Addr} {c n : Nat} {l : List Int}
theorem refBoundE_c (w : World) (hp : RdP w x p) (he : thE kd p ≠ 0) :
    Calls Try.prog 29 [vi kd, pvl x p, .slice A l.length c].toArray w (one (.tuple #[vi 0, vi (thE kd p)]) w) := by
  have op := hp.old
  have hth : ∀ w, RdP w x p → _ := fun w h => things_c (p := p) (x := x) (k := kd) w h
  rw [if_neg he] at hth
  generalize thE kd p = e at *
  unfold pvl patV at *
  refine calls_wc [] [] [.tmp 6, .tmp 7] (fun _ => [vi 0, vi e]) Try.func29 rfl rfl (fun _ => rfl) Try.ntmps29 rfl (Own.nil w) rfl ?_
  refine gg ?_
  refine wl_op (ok_box rfl rfl rfl rfl rfl ?_); intro bp
  refine gg ?_
  refine gc3 [] (fun w hst hst1 => hth w (op.now hst)) (by exact rfl) ?_
  (repeat (first | refine gk1 ?_ | refine gk2 ?_ | refine gk3 ?_ | refine gk0 ?_ | refine gk4 ?_))
  rintro y _
  dsimp only [List.cons_append, List.nil_append]
  refine gg ?_
  refine wl_op (ok_alloc rfl rfl rfl rfl (ze_of rfl) ?_); intro q8
  refine gg ?_
  exact grt () trivial
theorem refBoundN_c (w : World) (hp : RdP w x p) (hl : Rds vi w A c l) (he : thE kd p = 0) (h0 : 0 ≤ thN kd p) (h1 : thN kd p ≤ 128) (ho : ¬ IsOrd l (thN kd p)) :
    Calls Try.prog 29 [vi kd, pvl x p, .slice A l.length c].toArray w (one (.tuple #[vi 0, vi 182]) w) := by
  have op := hp.old
  have oL := hl.old
  have hth : ∀ w, RdP w x p → _ := fun w h => things_c (p := p) (x := x) (k := kd) w h
  rw [if_pos he, he] at hth
  generalize thN kd p = N at *
  unfold pvl patV at *
  refine calls_wc [] [] [.tmp 6, .tmp 7] (fun _ => [vi 0, vi 182]) Try.func29 rfl rfl (fun _ => rfl) Try.ntmps29 rfl (Own.nil w) rfl ?_
  refine gg ?_
  refine wl_op (ok_box rfl rfl rfl rfl rfl ?_); intro bp
  refine gg ?_
  refine gc3 [] (fun w hst hst1 => hth w (op.now hst)) (by exact rfl) ?_
  (repeat (first | refine gk1 ?_ | refine gk2 ?_ | refine gk3 ?_ | refine gk0 ?_ | refine gk4 ?_))
  rintro y _
  dsimp only [List.cons_append, List.nil_append]
  refine gg ?_
  refine wl_op (ok_alloc rfl rfl rfl rfl (ze_of rfl) ?_); intro q8
  refine gg ?_
  refine gc1 (fun w hst => isOrder_c w (oL.now hst) h0 h1 false (by simp [ho])) (by exact rfl) ?_
  refine gg ?_
  exact grt () trivial
theorem refBound_ok (w : World) (hp : RdP w x p) (hl : Rds vi w A c l) (he : thE kd p = 0) (hN : thN kd p = n) (h1 : n ≤ 128) (ho : IsOrd l n) :
    Calls Try.prog 29 [vi kd, pvl x p, .slice A l.length c].toArray w (one (.tuple #[vi (bndTo kd (thF kd p) n l n), vi 0]) w) := by
  have op := hp.old
  have oL := hl.old
  have hll := ho.len
  have hth : ∀ w, RdP w x p → _ := fun w h => things_c (p := p) (x := x) (k := kd) w h
  rw [if_pos he, he, hN] at hth
  generalize thF kd p = F at *
  unfold pvl patV at *
  refine calls_wc [] [] [.tmp 6, .tmp 7] (fun _ => [vi (bndTo kd F n l n), vi 0]) Try.func29 rfl rfl (fun _ => rfl) Try.ntmps29 rfl (Own.nil w) rfl ?_
  refine gg ?_
  refine wl_op (ok_box rfl rfl rfl rfl rfl ?_); intro bp
  refine gg ?_
  refine gc3 [] (fun w hst hst1 => hth w (op.now hst)) (by exact rfl) ?_
  (repeat (first | refine gk1 ?_ | refine gk2 ?_ | refine gk3 ?_ | refine gk0 ?_ | refine gk4 ?_))
  rintro ⟨A1, c1, on1⟩ ⟨hg, _⟩
  have hg := hg rfl
  dsimp only [List.cons_append, List.nil_append] at hg ⊢
  have hgl := hg.len
  refine gg ?_
  refine wl_op (ok_alloc rfl rfl rfl rfl (ze_of rfl) ?_); intro q8
  refine gg ?_
  refine gc1 (fun w hst => isOrder_c (n := (n : Int)) w (oL.now hst) (by omega) (by omega) true (by simp [ho])) (by exact rfl) ?_
  refine gg ?_
  refine glp (fun i : Int => 0 ≤ i ∧ i ≤ n) (fun i => [(0, vi kd), (2, .slice A l.length c), (8, .pointer (some ⟨q8, 0, none⟩)), (10, vi (bndTo kd F n l i.toNat)), (11, vi i)])
    (fun i => [osl TB vb A1 c1 on1, blk q8 (graC n A1 on1.length c1) TGh]) (fun i => (n - i).toNat) 0 ⟨by omega, by omega⟩ ?_
  rintro i ⟨hi0, hi1⟩
  have hbr := bndTo_rng kd F n l i.toNat
  by_cases hi : i < n
  · have hli := ho.rng i hi0 hi
    obtain ⟨m0, m1⟩ := mul_small (x := gt l i) (y := n) hli.1 (by omega) (by omega) (by omega)
    have hall := near_all (kd := kd) (g := F) ho hi0 hi
    have hnb := bndTo_next (kd := kd) (g := F) (n := n) (l := l) hi0
    rw [← hall] at hnb
    refine gg ?_
    refine glp (fun j : Int => 0 ≤ j ∧ j ≤ i) (fun j => [(0, vi kd), (2, .slice A l.length c), (8, .pointer (some ⟨q8, 0, none⟩)), (10, vi (bndTo kd F n l i.toNat)), (11, vi i), (12, vi (cntQ (fun q => NearP kd F l i (gt l q)) j.toNat)), (13, vi j)])
      (fun j => [osl TB vb A1 c1 on1, blk q8 (graC n A1 on1.length c1) TGh]) (fun j => (i - j).toNat) 0 ⟨by omega, by omega⟩ ?_
    rintro j ⟨hj0, hj1⟩
    have hmx := cntQ_max (fun q => NearP kd F l i (gt l q)) j.toNat
    by_cases hj : j < i
    · have hlj := ho.rng j hj0 (by omega)
      have hij := hg.at_ (gt l i) (gt l j) hli.1 hli.2 hlj.1 hlj.2
      have lij := cell_lt hli.1 hli.2 hlj.1 hlj.2
      rw [← nrB_zero kd F l i j] at hij
      have hcn := cntQ_succ (fun q => NearP kd F l i (gt l q)) j.toNat
      rw [show ((j.toNat : Nat) : Int) = j by omega, show j.toNat + 1 = (j + 1).toNat by omega] at hcn
      refine gg ?_
      refine wc_quiet mixed (by kernel_rfl) ?_
      refine gg ?_
      refine gc2 (fun w hst => meet_c (n := n) (r := gt l i) (x := gt l j) w (grd hst) (by omega) (by omega) hli.1 (by omega) hlj.1 (by omega) (by omega) _ hij) (by exact rfl) ?_
      refine gg ?_
      refine glp (fun s : NrX => 0 ≤ s.k ∧ s.k ≤ i ∧ s.b = nrB kd F l i j s.k) (fun s => [(0, vi kd), (2, .slice A l.length c), (8, .pointer (some ⟨q8, 0, none⟩)), (10, vi (bndTo kd F n l i.toNat)), (11, vi i), (12, vi (cntQ (fun q => NearP kd F l i (gt l q)) j.toNat)), (13, vi j), (14, .bool s.b), (15, vi s.k)])
        (fun s => [osl TB vb A1 c1 on1, blk q8 (graC n A1 on1.length c1) TGh]) (fun s => (i - s.k).toNat) ⟨0, nrB kd F l i j 0⟩ ⟨by simp, hi0, rfl⟩ ?_
      rintro ⟨m, b⟩ ⟨hm0, hm1, hb⟩
      dsimp only at hm0 hm1 hb ⊢
      have fin : nrB kd F l i j m = nrB kd F l i j i → (b = true ↔ NearP kd F l i (gt l j)) := fun e => by
        rw [hb, e]
        exact nrB_all hj0 hj
      by_cases hk4 : kd = 4
      · by_cases hm : m < i
        · have hlm := ho.rng m hm0 (by omega)
          obtain ⟨m2, m3⟩ := mul_small (x := gt l m) (y := n) hlm.1 (by omega) (by omega) (by omega)
          have him := hg.at_ (gt l i) (gt l m) hli.1 hli.2 hlm.1 hlm.2
          have lim := cell_lt hli.1 hli.2 hlm.1 hlm.2
          have hmj := hg.at_ (gt l m) (gt l j) hlm.1 hlm.2 hlj.1 hlj.2
          have lmj := cell_lt hlm.1 hlm.2 hlj.1 hlj.2
          have hnx := nrB_next (kd := kd) (g := F) (l := l) (i := i) (j := j) (.inl hk4) hm0
          cases b with
          | true =>
            rw [← hb, Bool.true_or] at hnx
            refine gg ?_
            refine wc_quiet mixed (by kernel_rfl) ?_
            refine gg ?_
            exact gnx (⟨m + 1, true⟩ : NrX) ⟨by dsimp only; omega, by dsimp only; omega, hnx.symm⟩ (by dsimp only; omega)
          | false =>
            rw [← hb, Bool.false_or] at hnx
            cases h1' : F (gt l i) (gt l m) with
            | false =>
              rw [h1'] at him hnx
              rw [Bool.false_and] at hnx
              refine gg ?_
              refine wc_quiet mixed (by kernel_rfl) ?_
              refine gg ?_
              refine gc2 (fun w hst => meet_c (n := n) (r := gt l i) (x := gt l m) w (grd hst) (by omega) (by omega) hli.1 (by omega) hlm.1 (by omega) (by omega) _ him) (by exact rfl) ?_
              refine gg ?_
              exact gnx (⟨m + 1, false⟩ : NrX) ⟨by dsimp only; omega, by dsimp only; omega, hnx.symm⟩ (by dsimp only; omega)
            | true =>
              rw [h1'] at him hnx
              rw [Bool.true_and] at hnx
              refine gg ?_
              refine wc_quiet mixed (by kernel_rfl) ?_
              refine gg ?_
              refine gc2 (fun w hst => meet_c (n := n) (r := gt l i) (x := gt l m) w (grd hst) (by omega) (by omega) hli.1 (by omega) hlm.1 (by omega) (by omega) _ him) (by exact rfl) ?_
              refine gg ?_
              refine gc2 (fun w hst => meet_c (n := n) (r := gt l m) (x := gt l j) w (grd hst) (by omega) (by omega) hlm.1 (by omega) hlj.1 (by omega) (by omega) _ hmj) (by exact rfl) ?_
              refine gg ?_
              exact gnx (⟨m + 1, F (gt l m) (gt l j)⟩ : NrX) ⟨by dsimp only; omega, by dsimp only; omega, hnx.symm⟩ (by dsimp only; omega)
        · obtain rfl : m = i := by omega
          cases b with
          | true =>
            have hP := (fin rfl).1 rfl
            have := hcn.1 hP
            refine gg ?_
            rw [show ((cntQ (fun q => NearP kd F l m (gt l q)) j.toNat : Nat) : Int) + 1 = ((cntQ (fun q => NearP kd F l m (gt l q)) (j + 1).toNat : Nat) : Int) by omega]
            exact gnx (j + 1) ⟨by omega, by omega⟩ (by omega)
          | false =>
            have := hcn.2 (fun hP => by have := (fin rfl).2 hP; cases this)
            refine gg ?_
            rw [← this]
            exact gnx (j + 1) ⟨by omega, by omega⟩ (by omega)
      by_cases hk5 : kd = 5
      · by_cases hm : m < i
        · have hlm := ho.rng m hm0 (by omega)
          obtain ⟨m2, m3⟩ := mul_small (x := gt l m) (y := n) hlm.1 (by omega) (by omega) (by omega)
          have him := hg.at_ (gt l i) (gt l m) hli.1 hli.2 hlm.1 hlm.2
          have lim := cell_lt hli.1 hli.2 hlm.1 hlm.2
          have hmj := hg.at_ (gt l m) (gt l j) hlm.1 hlm.2 hlj.1 hlj.2
          have lmj := cell_lt hlm.1 hlm.2 hlj.1 hlj.2
          have hnx := nrB_next (kd := kd) (g := F) (l := l) (i := i) (j := j) (.inr hk5) hm0
          cases b with
          | true =>
            rw [← hb, Bool.true_or] at hnx
            refine gg ?_
            refine wc_quiet mixed (by kernel_rfl) ?_
            refine gg ?_
            exact gnx (⟨m + 1, true⟩ : NrX) ⟨by dsimp only; omega, by dsimp only; omega, hnx.symm⟩ (by dsimp only; omega)
          | false =>
            rw [← hb, Bool.false_or] at hnx
            cases h1' : F (gt l i) (gt l m) with
            | false =>
              rw [h1'] at him hnx
              rw [Bool.false_and] at hnx
              refine gg ?_
              refine wc_quiet mixed (by kernel_rfl) ?_
              refine gg ?_
              refine gc2 (fun w hst => meet_c (n := n) (r := gt l i) (x := gt l m) w (grd hst) (by omega) (by omega) hli.1 (by omega) hlm.1 (by omega) (by omega) _ him) (by exact rfl) ?_
              refine gg ?_
              exact gnx (⟨m + 1, false⟩ : NrX) ⟨by dsimp only; omega, by dsimp only; omega, hnx.symm⟩ (by dsimp only; omega)
            | true =>
              rw [h1'] at him hnx
              rw [Bool.true_and] at hnx
              refine gg ?_
              refine wc_quiet mixed (by kernel_rfl) ?_
              refine gg ?_
              refine gc2 (fun w hst => meet_c (n := n) (r := gt l i) (x := gt l m) w (grd hst) (by omega) (by omega) hli.1 (by omega) hlm.1 (by omega) (by omega) _ him) (by exact rfl) ?_
              refine gg ?_
              refine gc2 (fun w hst => meet_c (n := n) (r := gt l m) (x := gt l j) w (grd hst) (by omega) (by omega) hlm.1 (by omega) hlj.1 (by omega) (by omega) _ hmj) (by exact rfl) ?_
              refine gg ?_
              exact gnx (⟨m + 1, F (gt l m) (gt l j)⟩ : NrX) ⟨by dsimp only; omega, by dsimp only; omega, hnx.symm⟩ (by dsimp only; omega)
        · obtain rfl : m = i := by omega
          cases b with
          | true =>
            have hP := (fin rfl).1 rfl
            have := hcn.1 hP
            refine gg ?_
            rw [show ((cntQ (fun q => NearP kd F l m (gt l q)) j.toNat : Nat) : Int) + 1 = ((cntQ (fun q => NearP kd F l m (gt l q)) (j + 1).toNat : Nat) : Int) by omega]
            exact gnx (j + 1) ⟨by omega, by omega⟩ (by omega)
          | false =>
            have := hcn.2 (fun hP => by have := (fin rfl).2 hP; cases this)
            refine gg ?_
            rw [← this]
            exact gnx (j + 1) ⟨by omega, by omega⟩ (by omega)
      have hno : ¬ (kd = 4 ∨ kd = 5) := fun h => h.elim hk4 hk5
      cases b with
      | true =>
        have hP := (fin ((nrB_not hno).trans (nrB_not hno).symm)).1 rfl
        have := hcn.1 hP
        refine gg ?_
        rw [show ((cntQ (fun q => NearP kd F l i (gt l q)) j.toNat : Nat) : Int) + 1 = ((cntQ (fun q => NearP kd F l i (gt l q)) (j + 1).toNat : Nat) : Int) by omega]
        exact gnx (j + 1) ⟨by omega, by omega⟩ (by omega)
      | false =>
        have := hcn.2 (fun hP => by have := (fin ((nrB_not hno).trans (nrB_not hno).symm)).2 hP; cases this)
        refine gg ?_
        rw [← this]
        exact gnx (j + 1) ⟨by omega, by omega⟩ (by omega)
    obtain rfl : j = i := by omega
    by_cases hgt : bndTo kd F n l j.toNat < (cntQ (fun q => NearP kd F l j (gt l q)) j.toNat : Int) + 1
    · rw [show max (bndTo kd F n l j.toNat) ((cntQ (fun q => NearP kd F l j (gt l q)) j.toNat : Int) + 1) = (cntQ (fun q => NearP kd F l j (gt l q)) j.toNat : Int) + 1 by omega] at hnb
      refine gg ?_
      rw [← hnb]
      exact gnx (j + 1) ⟨by omega, by omega⟩ (by omega)
    · rw [show max (bndTo kd F n l j.toNat) ((cntQ (fun q => NearP kd F l j (gt l q)) j.toNat : Int) + 1) = bndTo kd F n l j.toNat by omega] at hnb
      refine gg ?_
      rw [← hnb]
      exact gnx (j + 1) ⟨by omega, by omega⟩ (by omega)
  obtain rfl : i = n := by omega
  rw [Int.toNat_natCast]
  refine gg ?_
  exact grt () trivial
end
end Go.Proofs.Ytoiiellaoikojaa
