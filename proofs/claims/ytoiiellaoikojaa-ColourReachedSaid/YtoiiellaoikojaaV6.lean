/- Walks: colours: the law ColourReached. -/
import Derived.Test.YtoiiellaoikojaaV5
import Derived.Test.YtoiiellaoikojaaU7
set_option linter.unusedVariables false
set_option linter.unusedSimpArgs false
set_option maxHeartbeats 8000000
namespace Go.Proofs.Ytoiiellaoikojaa
open Go.RowKit Classical
structure OrX where
  b : Int
  os : List Int
  v : Int
section
variable {p : Pat} {x : PA} {kd : Int} {ob ub n : Nat}
abbrev OrI (ob ub n : Nat) (os : List Int) (us : List Bool) : List Res := [osl TI vi (some ⟨ob, 0, none⟩) n os, osl TB vb (some ⟨ub, 0, none⟩) n us]
set_option maxRecDepth 100000 in
theorem orders_c (he : thE kd p = 0) (hn : thN kd p = n) (hn8 : n ≤ 8) : ∀ (m k : Nat) (os : List Int) (us : List Bool) (b : Int) (w : World), k + m = n → OrdP n k os us → RdPO w ((OrI ob ub n os us).flatMap Res.fp) x p → Own (OrI ob ub n os us) w →
    Calls Try.prog 36 [vi kd, pvl x p, .slice (some ⟨ob, 0, none⟩) n n, .slice (some ⟨ub, 0, none⟩) n n, vi k, vi b].toArray w
      (Ret (OrI ob ub n os us) (fun z : OrX => vi z.b) (fun z => OrI ob ub n z.os us) (fun z => z.os.length = n ∧ z.os.take k = os.take k ∧ OrdB (fun o => numS (grL kd p o)) n k os b z.b) w) := by
  intro m
  induction m with
  | zero =>
    intro k os us b w hkm hP hrd hw
    refine calls_wc ((OrI ob ub n os us).flatMap Res.fp) (OrI ob ub n os us) [.tmp 12] (fun z : OrX => [vi z.b]) Try.func36 rfl rfl (fun _ => rfl) Try.ntmps36 rfl hw rfl ?_
    obtain rfl : k = n := by omega
    have hlo := hP.lo
    have hlu := hP.lu
    have cG : ∀ w, RdP w x p → Rds vi w (some ⟨ob, 0, none⟩) k os → _ := fun w h1 h2 => greedyA_c (p := p) (x := x) (kd := kd) (l := os) (A := some ⟨ob, 0, none⟩) (c := k) w h1 h2
    have ho : IsOrd os (thN kd p) := by rw [hn]; exact hP.ord
    have hg0 : grE kd p os = 0 := by unfold grE; rw [if_neg (not_not_intro he), if_neg (not_not_intro ho)]
    rw [hg0, hlo] at cG
    have hend := fun b1 => OrdB.end_ (G := fun o => numS (grL kd p o)) (b0 := b) (b1 := b1) hP
    generalize grL kd p os = L at *
    generalize hM : numS L = M at *
    unfold pvl patV at *
    dsimp only [OrI]
    refine gg ?_
    refine wl_op (ok_box rfl rfl rfl rfl rfl ?_); intro bp
    refine gg ?_
    refine gc3 [] (fun w hst hst1 => cG w (hrd.now hst) (grd hst)) (by exact rfl) ?_
    (repeat (first | refine gk1 ?_ | refine gk2 ?_ | refine gk3 ?_ | refine gk0 ?_ | refine gk4 ?_))
    rintro ⟨A2, c2, xs2⟩ hx2
    dsimp only at hx2
    subst hx2
    dsimp only [List.cons_append, List.nil_append]
    refine gg ?_
    refine gc1 (fun w hst => num_c _ w) (by exact rfl) ?_
    by_cases hlt : M < b
    · refine gg ?_
      exact grt (⟨M, os, 0⟩ : OrX) ⟨hlo, rfl, hend M (by rw [if_pos hlt])⟩
    · refine gg ?_
      exact grt (⟨b, os, 0⟩ : OrX) ⟨hlo, rfl, hend b (by rw [if_neg hlt])⟩
  | succ m ih =>
    intro k os us b w hkm hP hrd hw
    refine calls_wc ((OrI ob ub n os us).flatMap Res.fp) (OrI ob ub n os us) [.tmp 12] (fun z : OrX => [vi z.b]) Try.func36 rfl rfl (fun _ => rfl) Try.ntmps36 rfl hw rfl ?_
    have hkn : k < n := by omega
    have hlo := hP.lo
    have hlu := hP.lu
    generalize hG : (fun o => numS (grL kd p o)) = G at *
    unfold pvl patV at *
    dsimp only [OrI]
    refine gg ?_
    refine wl_op (ok_box rfl rfl rfl rfl rfl ?_); intro bp
    refine gg ?_
    refine glp (fun z : OrX => (0 ≤ z.v ∧ z.v ≤ n) ∧ z.os.length = n ∧ z.os.take k = os.take k ∧ OrdC G n k os z.v b z.b) (fun z => [(0, vi kd), (2, .slice (some ⟨ob, 0, none⟩) n n), (3, .slice (some ⟨ub, 0, none⟩) n n), (4, vi k), (5, vi z.b), (7, .pointer (some ⟨bp, 0, none⟩)), (16, vi z.v)])
      (fun z => [osl TI vi (some ⟨ob, 0, none⟩) n z.os, osl TB vb (some ⟨ub, 0, none⟩) n us, blk bp (pcs x p) TP]) (fun z => (n - z.v).toNat) ⟨b, os, 0⟩ ⟨by dsimp only; omega, hlo, rfl, OrdC.zero.2 trivial⟩ ?_
    rintro ⟨b', os', v⟩ ⟨⟨hv0, hv1⟩, hl', htk, hC⟩
    dsimp only at hv0 hv1 hl' htk hC ⊢
    by_cases hv : v < n
    · by_cases hu : gt us v = true
      · refine gg ?_
        rw [hu]
        refine gg ?_
        exact gnx (⟨b', os', v + 1⟩ : OrX) ⟨by dsimp only; omega, hl', htk, OrdC.skip hP hkn hv0 hv hu hC⟩ (by dsimp only; omega)
      · have hu : gt us v = false := by
          cases h : gt us v with
          | false => rfl
          | true => exact (hu h).elim
        have hN := hP.next hl' htk hkn hv0 hv hu
        have hih := fun w => ih (k + 1) (os'.set k v) (us.set v.toNat true) b' w (by omega) hN
        rw [show ((k + 1 : Nat) : Int) = (k : Int) + 1 by omega] at hih
        have hback : (us.set v.toNat true).set v.toNat false = us := by
          rw [List.set_set]
          refine List.ext_getElem (by rw [List.length_set]) fun i h1 h2 => ?_
          rw [List.getElem_set]
          by_cases e : v.toNat = i
          · rw [if_pos e]
            rw [gt_elem hv0 (by omega)] at hu
            subst e
            exact hu.symm
          · rw [if_neg e]
        have hlN := hN.lo
        have hlU := hN.lu
        refine gg ?_
        rw [hu]
        refine gg ?_
        refine gc3 (OrI ob ub n (os'.set k v) (us.set v.toNat true)) (fun w hst hst1 => hih w (hrd.later hst1) hst1.own) (by exact rfl) ?_
        dsimp only [OrI]
        (repeat (first | refine gk1 ?_ | refine gk2 ?_ | refine gk3 ?_ | refine gk0 ?_ | refine gk4 ?_))
        rintro ⟨b2, os2, _⟩ ⟨hl2, ht2, hB2⟩
        dsimp only [OrI, List.cons_append, List.nil_append] at hl2 ht2 hB2 ⊢
        refine gg ?_
        rw [hback]
        have ht3 : os2.take k = os.take k := by
          have := congrArg (List.take k) ht2
          rw [List.take_take, List.take_take, show min k (k + 1) = k by omega, List.take_set_of_le (Nat.le_refl _), htk] at this
          exact this
        exact gnx (⟨b2, os2, v + 1⟩ : OrX) ⟨by dsimp only; omega, hl2, ht3, OrdC.next hP hl' htk hkn hv0 hv hC hB2⟩ (by dsimp only; omega)
    obtain rfl : v = n := by omega
    refine gg ?_
    exact grt (⟨b', os', 0⟩ : OrX) ⟨hl', htk, hC.end_ hkn⟩
end
section
variable {p : Pat} {x : PA} {kd : Int}
set_option maxRecDepth 100000 in
theorem reachedE_c (w : World) (hp : RdP w x p) (he : leE kd p ≠ 0) :
    Calls Try.prog 8 [vi kd, pvl x p].toArray w (one (.bool true) w) := by
  have op := hp.old
  have cL : ∀ w, RdP w x p → _ := fun w h => least_c (p := p) (x := x) (kd := kd) w h
  have hz : ∀ k : Int, ((leE kd p = 0 → IsLe kd (hasB (gr kd p)) (gr kd p).rows.toNat k) ∧ (leE kd p ≠ 0 → k = 0)) → k = 0 := fun k h => h.2 he
  generalize leE kd p = e at *
  unfold pvl patV at *
  refine calls_wc [] [] [.tmp 4] (fun _ => [.bool true]) Try.func8 rfl rfl (fun _ => rfl) Try.ntmps8 rfl (Own.nil w) rfl ?_
  refine gg ?_
  refine wl_op (ok_box rfl rfl rfl rfl rfl ?_); intro bp
  refine gg ?_
  refine gc1 (fun w hst => alive_c w) (by exact rfl) ?_
  refine gg ?_
  refine gc3 [] (fun w hst hst1 => cL w (op.now hst)) (by exact rfl) ?_
  (repeat (first | refine gk1 ?_ | refine gk2 ?_ | refine gk3 ?_ | refine gk0 ?_ | refine gk4 ?_))
  rintro k hk
  obtain rfl := hz k hk
  dsimp only [List.cons_append, List.nil_append]
  refine gg ?_
  refine gc1 (fun w hst => num_c _ w) (by exact rfl) ?_
  refine gg ?_
  exact grt () trivial
set_option maxRecDepth 100000 in
theorem reachedM_c {n : Nat} (w : World) (hp : RdP w x p) (he : leE kd p = 0) (ht : thE kd p = 0) (hn : thN kd p = n) (hn8 : n ≤ 8) :
    Calls Try.prog 8 [vi kd, pvl x p].toArray w (one (.bool true) w) := by
  have op := hp.old
  have cL : ∀ w, RdP w x p → _ := fun w h => least_c (p := p) (x := x) (kd := kd) w h
  have hz : ∀ k : Int, ((leE kd p = 0 → IsLe kd (hasB (gr kd p)) (gr kd p).rows.toNat k) ∧ (leE kd p ≠ 0 → k = 0)) → IsLe kd (hasB (gr kd p)) (gr kd p).rows.toNat k := fun k h => h.1 he
  have cO : ∀ (ob ub : Nat) w, _ → _ → _ := fun ob ub w => orders_c (x := x) (ob := ob) (ub := ub) ht hn hn8 n 0 (List.replicate n 0) (List.replicate n false) (n + 1) w (by omega) OrdP.zero
  have hR := fun (k b : Int) (hk : IsLe kd (hasB (gr kd p)) (gr kd p).rows.toNat k) => reach (b := b) (os := List.replicate n 0) ht hn hk
  obtain ⟨hm, hkd⟩ := thE_zero ht
  have hsz : (kd = 3 → p.rows = n) ∧ (kd ≠ 3 → p.width = n) := by
    unfold thN at hn
    rcases hkd with ⟨hk, hg⟩ | hk | hk
    · have := hg.1.2.1
      rw [if_neg (by omega)] at hn
      exact ⟨fun _ => hn, fun _ => by omega⟩
    · rw [if_pos hk] at hn
      exact ⟨fun h => by omega, fun _ => hn⟩
    · rw [if_neg (by omega)] at hn
      exact ⟨fun _ => hn, fun h => (h hk).elim⟩
  have hk5 : kd = 1 ∨ kd = 2 ∨ kd = 3 ∨ kd = 4 ∨ kd = 5 := by rcases hkd with ⟨h, _⟩ | h | h <;> omega
  clear hkd
  generalize hG : (fun o => numS (grL kd p o)) = G at *
  rw [he] at cL
  unfold pvl patV at *
  refine calls_wc [] [] [.tmp 4] (fun _ => [.bool true]) Try.func8 rfl rfl (fun _ => rfl) Try.ntmps8 rfl (Own.nil w) rfl ?_
  refine gg ?_
  refine wl_op (ok_box rfl rfl rfl rfl rfl ?_); intro bp
  refine gg ?_
  refine gc1 (fun w hst => alive_c w) (by exact rfl) ?_
  refine gg ?_
  refine gc3 [] (fun w hst hst1 => cL w (op.now hst)) (by exact rfl) ?_
  (repeat (first | refine gk1 ?_ | refine gk2 ?_ | refine gk3 ?_ | refine gk0 ?_ | refine gk4 ?_))
  rintro k hk
  have hk := hz k (by rw [he]; exact hk)
  dsimp only [List.cons_append, List.nil_append]
  refine gg ?_
  refine gc1 (fun w hst => num_c _ w) (by exact rfl) ?_
  refine gg ?_
  by_cases k3 : kd = 3
  · have hS := hsz.1 k3
    refine gg ?_
    refine gmk vi 0 rfl rfl rfl rfl rfl rfl rfl rfl rfl rfl rfl (by omega) (Int.le_refl _) (by omega) (by omega) ?_
    intro ob
    rw [show p.rows.toNat = n by omega]
    refine gg ?_
    refine gwa [osl TI vi (some ⟨ob, 0, none⟩) n (List.replicate n 0)] ?_
    (repeat (first | refine gk1 ?_ | refine gk2 ?_ | refine gk3 ?_ | refine gk0 ?_ | refine gk4 ?_))
    dsimp only [List.cons_append, List.nil_append]
    (first | refine ga1 0 (by exact rfl) (by exact rfl) ?_ | refine ga2 0 (by exact rfl) (by exact rfl) ?_ | refine ga3 0 (by exact rfl) (by exact rfl) ?_ | refine ga4 0 (by exact rfl) (by exact rfl) ?_)
    (first | refine ga1 1 (by exact rfl) (by exact rfl) ?_ | refine ga2 1 (by exact rfl) (by exact rfl) ?_ | refine ga3 1 (by exact rfl) (by exact rfl) ?_ | refine ga4 1 (by exact rfl) (by exact rfl) ?_)
    (first | refine ga1 2 (by exact rfl) (by exact rfl) ?_ | refine ga2 2 (by exact rfl) (by exact rfl) ?_ | refine ga3 2 (by exact rfl) (by exact rfl) ?_ | refine ga4 2 (by exact rfl) (by exact rfl) ?_)
    (first | refine ga1 3 (by exact rfl) (by exact rfl) ?_ | refine ga2 3 (by exact rfl) (by exact rfl) ?_ | refine ga3 3 (by exact rfl) (by exact rfl) ?_ | refine ga4 3 (by exact rfl) (by exact rfl) ?_)
    (first | refine ga1 5 (by exact rfl) (by exact rfl) ?_ | refine ga2 5 (by exact rfl) (by exact rfl) ?_ | refine ga3 5 (by exact rfl) (by exact rfl) ?_ | refine ga4 5 (by exact rfl) (by exact rfl) ?_)
    (first | refine ga1 6 (by exact rfl) (by exact rfl) ?_ | refine ga2 6 (by exact rfl) (by exact rfl) ?_ | refine ga3 6 (by exact rfl) (by exact rfl) ?_ | refine ga4 6 (by exact rfl) (by exact rfl) ?_)
    refine gaOne 4 rfl ?_
    refine gmk0 vb false rfl rfl rfl rfl rfl rfl rfl rfl rfl rfl rfl (by omega) (Int.le_refl _) (by omega) (by omega) ?_
    intro ub
    refine ⟨by (repeat (first | exact Suf.refl | exact Suf.nil | exact Suf.app _ _ | apply Suf.cons)), ?_⟩
    rw [show p.rows.toNat = n by omega]
    have cO' := cO ob ub
    rw [← hS] at cO'
    refine gaOne 7 rfl ?_
    refine gc30 (OrI ob ub n (List.replicate n 0) (List.replicate n false)) (fun w hst hst1 => cO' w (op.later hst1) hst1.own) (by exact rfl) ?_
    dsimp only [OrI]
    (repeat (first | refine gk1 ?_ | refine gk2 ?_ | refine gk3 ?_ | refine gk0 ?_ | refine gk4 ?_))
    rintro ⟨b, os2, _⟩ ⟨_, _, hB⟩
    dsimp only [OrI, List.cons_append, List.nil_append] at hB ⊢
    rw [hS] at hB
    obtain ⟨⟨r1, r2⟩, r3, r4⟩ := hR k b hk hB
    refine ⟨by (repeat (first | exact Suf.refl | exact Suf.nil | exact Suf.app _ _ | apply Suf.cons)), ?_⟩
    (first | refine ga1 8 (by exact rfl) (by exact rfl) ?_ | refine ga2 8 (by exact rfl) (by exact rfl) ?_ | refine ga3 8 (by exact rfl) (by exact rfl) ?_ | refine ga4 8 (by exact rfl) (by exact rfl) ?_)
    refine gaDone ?_
    by_cases n0 : n = 0
    · have hS0 : p.rows = 0 := by omega
      obtain rfl : k = 0 := by omega
      refine gg ?_
      exact grt () trivial
    have hS0 : p.rows ≠ 0 := by omega
    obtain rfl := r4 (by omega) (by omega)
    subst k3
    refine gg ?_
    refine gc1 (fun w hst => lines_c (kd := 3) w true (by simp)) (by exact rfl) ?_
    refine gg ?_
    exact grt () trivial
  · have hS := hsz.2 k3
    refine gg ?_
    refine gmk vi 0 rfl rfl rfl rfl rfl rfl rfl rfl rfl rfl rfl (by omega) (Int.le_refl _) (by omega) (by omega) ?_
    intro ob
    rw [show p.width.toNat = n by omega]
    refine gg ?_
    refine gwa [osl TI vi (some ⟨ob, 0, none⟩) n (List.replicate n 0)] ?_
    (repeat (first | refine gk1 ?_ | refine gk2 ?_ | refine gk3 ?_ | refine gk0 ?_ | refine gk4 ?_))
    dsimp only [List.cons_append, List.nil_append]
    (first | refine ga1 0 (by exact rfl) (by exact rfl) ?_ | refine ga2 0 (by exact rfl) (by exact rfl) ?_ | refine ga3 0 (by exact rfl) (by exact rfl) ?_ | refine ga4 0 (by exact rfl) (by exact rfl) ?_)
    (first | refine ga1 1 (by exact rfl) (by exact rfl) ?_ | refine ga2 1 (by exact rfl) (by exact rfl) ?_ | refine ga3 1 (by exact rfl) (by exact rfl) ?_ | refine ga4 1 (by exact rfl) (by exact rfl) ?_)
    (first | refine ga1 2 (by exact rfl) (by exact rfl) ?_ | refine ga2 2 (by exact rfl) (by exact rfl) ?_ | refine ga3 2 (by exact rfl) (by exact rfl) ?_ | refine ga4 2 (by exact rfl) (by exact rfl) ?_)
    (first | refine ga1 3 (by exact rfl) (by exact rfl) ?_ | refine ga2 3 (by exact rfl) (by exact rfl) ?_ | refine ga3 3 (by exact rfl) (by exact rfl) ?_ | refine ga4 3 (by exact rfl) (by exact rfl) ?_)
    (first | refine ga1 5 (by exact rfl) (by exact rfl) ?_ | refine ga2 5 (by exact rfl) (by exact rfl) ?_ | refine ga3 5 (by exact rfl) (by exact rfl) ?_ | refine ga4 5 (by exact rfl) (by exact rfl) ?_)
    (first | refine ga1 6 (by exact rfl) (by exact rfl) ?_ | refine ga2 6 (by exact rfl) (by exact rfl) ?_ | refine ga3 6 (by exact rfl) (by exact rfl) ?_ | refine ga4 6 (by exact rfl) (by exact rfl) ?_)
    refine gaOne 4 rfl ?_
    refine gmk0 vb false rfl rfl rfl rfl rfl rfl rfl rfl rfl rfl rfl (by omega) (Int.le_refl _) (by omega) (by omega) ?_
    intro ub
    refine ⟨by (repeat (first | exact Suf.refl | exact Suf.nil | exact Suf.app _ _ | apply Suf.cons)), ?_⟩
    rw [show p.width.toNat = n by omega]
    have cO' := cO ob ub
    rw [← hS] at cO'
    refine gaOne 7 rfl ?_
    refine gc30 (OrI ob ub n (List.replicate n 0) (List.replicate n false)) (fun w hst hst1 => cO' w (op.later hst1) hst1.own) (by exact rfl) ?_
    dsimp only [OrI]
    (repeat (first | refine gk1 ?_ | refine gk2 ?_ | refine gk3 ?_ | refine gk0 ?_ | refine gk4 ?_))
    rintro ⟨b, os2, _⟩ ⟨_, _, hB⟩
    dsimp only [OrI, List.cons_append, List.nil_append] at hB ⊢
    rw [hS] at hB
    obtain ⟨⟨r1, r2⟩, r3, r4⟩ := hR k b hk hB
    refine ⟨by (repeat (first | exact Suf.refl | exact Suf.nil | exact Suf.app _ _ | apply Suf.cons)), ?_⟩
    (first | refine ga1 8 (by exact rfl) (by exact rfl) ?_ | refine ga2 8 (by exact rfl) (by exact rfl) ?_ | refine ga3 8 (by exact rfl) (by exact rfl) ?_ | refine ga4 8 (by exact rfl) (by exact rfl) ?_)
    refine gaDone ?_
    by_cases n0 : n = 0
    · have hS0 : p.width = 0 := by omega
      obtain rfl : k = 0 := by omega
      refine gg ?_
      exact grt () trivial
    have hS0 : p.width ≠ 0 := by omega
    by_cases k2 : kd = 2
    · subst k2
      obtain rfl := r4 (by omega) (by omega)
      refine gg ?_
      refine gc1 (fun w hst => lines_c (kd := 2) w true (by simp)) (by exact rfl) ?_
      refine gg ?_
      exact grt () trivial
    by_cases k1 : kd = 1
    · subst k1
      obtain rfl := r4 (by omega) (by omega)
      refine gg ?_
      refine gc1 (fun w hst => lines_c (kd := 1) w false (by simp)) (by exact rfl) ?_
      refine gg ?_
      exact grt () trivial
    refine gg ?_
    refine gc1 (fun w hst => lines_c (kd := kd) w false (by simp [k2, k3])) (by exact rfl) ?_
    refine gg ?_
    exact grt () trivial
theorem lawColourReached_c (w : World) (hp : RdP w x p) :
    Calls Try.prog 8 [vi kd, pvl x p].toArray w (one (.bool true) w) := by
  by_cases he : leE kd p = 0
  · have h : thE kd p = 0 ∧ thN kd p ≤ 8 := by
      unfold leE at he
      by_cases h1 : thE kd p = 0
      · rw [if_neg (not_not_intro h1)] at he
        by_cases h2 : 8 < thN kd p
        · rw [if_pos h2] at he; cases he
        · exact ⟨h1, by omega⟩
      · rw [if_pos h1] at he; exact (h1 he).elim
    obtain ⟨g1, g2, g3⟩ := gr_gr h.1
    have h0 := g1.1.1.toHead.r0
    exact reachedM_c (n := (thN kd p).toNat) w hp he h.1 (by omega) (by omega)
  · exact reachedE_c w hp he
end
end Go.Proofs.Ytoiiellaoikojaa
