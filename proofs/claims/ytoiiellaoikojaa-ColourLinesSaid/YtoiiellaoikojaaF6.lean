/- Walks: the reference of colours: Things, Near. -/
import Derived.Test.YtoiiellaoikojaaF4
set_option linter.unusedVariables false
set_option linter.unusedSimpArgs false
set_option maxHeartbeats 8000000
namespace Go.Proofs.Ytoiiellaoikojaa
open Go.RowKit
open Classical
noncomputable def thE (k : Int) (p : Pat) : Int := if ¬ May p then 180 else if k = 2 ∨ k = 3 then 0 else if k = 1 ∨ k = 4 ∨ k = 5 then (if IsGr p then 0 else 220) else 242
def thN (k : Int) (p : Pat) : Int := if k = 2 then p.width else p.rows
noncomputable def thF (k : Int) (p : Pat) : Int → Int → Bool := if k = 2 then meetC p else if k = 3 then meetB p else hasB p
section
variable {p : Pat} {x : PA} {k : Int}
theorem things_c (w : World) (hp : RdP w x p) :
    Calls Try.prog 42 [vi k, pvl x p].toArray w (Ret [] (fun y : OX => .tuple #[.agg (graC (if thE k p = 0 then thN k p else 0) y.A y.on.length y.c).toArray, vi (thE k p)]) (fun y => [osl TB vb y.A y.c y.on]) (fun y => (thE k p = 0 → IsGrid y.on (thN k p) (thN k p) (thF k p)) ∧ (thE k p ≠ 0 → y.on = [])) w) := by
  have op := hp.old
  by_cases hm : May p
  · by_cases h2 : k = 2
    · subst h2
      have e : thE 2 p = 0 := by unfold thE; rw [if_neg (by simp [hm]), if_pos (.inl rfl)]
      rw [e, show thN 2 p = p.width from if_pos rfl, show thF 2 p = meetC p from if_pos rfl, if_pos rfl]
      have hl : ∀ w, RdP w x p → _ := fun w h => linesC_c w h hm
      unfold pvl patV at *
      refine calls_wc [] [] [.cell 4 TGh, .tmp 5] (fun y : OX => [.agg (graC p.width y.A y.on.length y.c).toArray, vi 0]) Try.func42 rfl rfl (fun _ => rfl) Try.ntmps42 rfl (Own.nil w) rfl ?_
      refine gg ?_
      refine wl_op (ok_box rfl rfl rfl rfl rfl ?_); intro bp
      refine wl_op (ok_alloc rfl rfl rfl rfl (ze_of rfl) ?_); intro rb
      refine gg ?_
      refine gc1 (fun w hst => refMay_c (op.s.now hst) (op.c.now hst) true (by simp [hm])) (by exact rfl) ?_
      refine gg ?_
      refine gc3 [] (fun w hst hst1 => hl w (op.now hst)) (by exact rfl) ?_
      (repeat (first | refine gk1 ?_ | refine gk2 ?_ | refine gk3 ?_ | refine gk0 ?_ | refine gk4 ?_))
      rintro y hy
      dsimp only [List.cons_append, List.nil_append]
      refine gg ?_
      exact grt y ⟨fun _ => hy, fun h => (h rfl).elim⟩
    by_cases h3 : k = 3
    · subst h3
      have e : thE 3 p = 0 := by unfold thE; rw [if_neg (by simp [hm]), if_pos (.inr rfl)]
      rw [e, show thN 3 p = p.rows from if_neg (by decide), show thF 3 p = meetB p from (if_neg (by decide)).trans (if_pos rfl), if_pos rfl]
      have hl : ∀ w, RdP w x p → _ := fun w h => linesR_c w h hm
      unfold pvl patV at *
      refine calls_wc [] [] [.cell 4 TGh, .tmp 5] (fun y : OX => [.agg (graC p.rows y.A y.on.length y.c).toArray, vi 0]) Try.func42 rfl rfl (fun _ => rfl) Try.ntmps42 rfl (Own.nil w) rfl ?_
      refine gg ?_
      refine wl_op (ok_box rfl rfl rfl rfl rfl ?_); intro bp
      refine wl_op (ok_alloc rfl rfl rfl rfl (ze_of rfl) ?_); intro rb
      refine gg ?_
      refine gc1 (fun w hst => refMay_c (op.s.now hst) (op.c.now hst) true (by simp [hm])) (by exact rfl) ?_
      refine gg ?_
      refine gc3 [] (fun w hst hst1 => hl w (op.now hst)) (by exact rfl) ?_
      (repeat (first | refine gk1 ?_ | refine gk2 ?_ | refine gk3 ?_ | refine gk0 ?_ | refine gk4 ?_))
      rintro y hy
      dsimp only [List.cons_append, List.nil_append]
      refine gg ?_
      exact grt y ⟨fun _ => hy, fun h => (h rfl).elim⟩
    by_cases hk : k = 1 ∨ k = 4 ∨ k = 5
    · have hN : thN k p = p.rows := if_neg h2
      have hF : thF k p = hasB p := (if_neg h2).trans (if_neg h3)
      rw [hN, hF]
      by_cases hg : IsGr p
      · have e : thE k p = 0 := by unfold thE; rw [if_neg (by simp [hm]), if_neg (by omega), if_pos hk, if_pos hg]
        rw [e, if_pos rfl]
        have hl : ∀ w, RdP w x p → _ := fun w h => gopen_c w h hm true (by simp [hg])
        unfold pvl patV at *
        refine calls_wc [] [] [.cell 4 TGh, .tmp 5] (fun y : OX => [.agg (graC p.rows y.A y.on.length y.c).toArray, vi 0]) Try.func42 rfl rfl (fun _ => rfl) Try.ntmps42 rfl (Own.nil w) rfl ?_
        refine gg ?_
        refine wl_op (ok_box rfl rfl rfl rfl rfl ?_); intro bp
        refine wl_op (ok_alloc rfl rfl rfl rfl (ze_of rfl) ?_); intro rb
        refine gg ?_
        refine gc1 (fun w hst => refMay_c (op.s.now hst) (op.c.now hst) true (by simp [hm])) (by exact rfl) ?_
        refine gg ?_
        rcases hk with rfl | rfl | rfl
        · refine gg ?_
          refine gc3 [] (fun w hst hst1 => hl w (op.now hst)) (by exact rfl) ?_
          (repeat (first | refine gk1 ?_ | refine gk2 ?_ | refine gk3 ?_ | refine gk0 ?_ | refine gk4 ?_))
          rintro y ⟨hy, _⟩
          dsimp only [List.cons_append, List.nil_append]
          refine gg ?_
          refine wl_op (ok_alloc rfl rfl rfl rfl (ze_of rfl) ?_); intro q6
          refine gg ?_
          exact grt y ⟨fun _ => hy rfl, fun h => (h rfl).elim⟩
        · refine gg ?_
          refine gc3 [] (fun w hst hst1 => hl w (op.now hst)) (by exact rfl) ?_
          (repeat (first | refine gk1 ?_ | refine gk2 ?_ | refine gk3 ?_ | refine gk0 ?_ | refine gk4 ?_))
          rintro y ⟨hy, _⟩
          dsimp only [List.cons_append, List.nil_append]
          refine gg ?_
          refine wl_op (ok_alloc rfl rfl rfl rfl (ze_of rfl) ?_); intro q6
          refine gg ?_
          exact grt y ⟨fun _ => hy rfl, fun h => (h rfl).elim⟩
        · refine gg ?_
          refine gc3 [] (fun w hst hst1 => hl w (op.now hst)) (by exact rfl) ?_
          (repeat (first | refine gk1 ?_ | refine gk2 ?_ | refine gk3 ?_ | refine gk0 ?_ | refine gk4 ?_))
          rintro y ⟨hy, _⟩
          dsimp only [List.cons_append, List.nil_append]
          refine gg ?_
          refine wl_op (ok_alloc rfl rfl rfl rfl (ze_of rfl) ?_); intro q6
          refine gg ?_
          exact grt y ⟨fun _ => hy rfl, fun h => (h rfl).elim⟩
      · have e : thE k p = 220 := by unfold thE; rw [if_neg (by simp [hm]), if_neg (by omega), if_pos hk, if_neg hg]
        rw [e, if_neg (by decide)]
        have hl : ∀ w, RdP w x p → _ := fun w h => gopen_c w h hm false (by simp [hg])
        unfold pvl patV at *
        refine calls_wc [] [] [.cell 4 TGh, .tmp 5] (fun y : OX => [.agg (graC 0 y.A y.on.length y.c).toArray, vi 220]) Try.func42 rfl rfl (fun _ => rfl) Try.ntmps42 rfl (Own.nil w) rfl ?_
        refine gg ?_
        refine wl_op (ok_box rfl rfl rfl rfl rfl ?_); intro bp
        refine wl_none TB vb ?_
        refine wl_op (ok_alloc rfl rfl rfl rfl (ze_of rfl) ?_); intro rb
        refine gg ?_
        refine gc1 (fun w hst => refMay_c (op.s.now hst) (op.c.now hst) true (by simp [hm])) (by exact rfl) ?_
        refine gg ?_
        rcases hk with rfl | rfl | rfl
        · refine gg ?_
          refine gc3 [] (fun w hst hst1 => hl w (op.now hst)) (by exact rfl) ?_
          (repeat (first | refine gk1 ?_ | refine gk2 ?_ | refine gk3 ?_ | refine gk0 ?_ | refine gk4 ?_))
          rintro y ⟨_, hy⟩
          dsimp only [List.cons_append, List.nil_append]
          refine gg ?_
          refine wl_op (ok_alloc rfl rfl rfl rfl (ze_of rfl) ?_); intro q6
          refine gg ?_
          exact grt (⟨none, 0, []⟩ : OX) ⟨fun h => absurd h (by decide), fun _ => rfl⟩
        · refine gg ?_
          refine gc3 [] (fun w hst hst1 => hl w (op.now hst)) (by exact rfl) ?_
          (repeat (first | refine gk1 ?_ | refine gk2 ?_ | refine gk3 ?_ | refine gk0 ?_ | refine gk4 ?_))
          rintro y ⟨_, hy⟩
          dsimp only [List.cons_append, List.nil_append]
          refine gg ?_
          refine wl_op (ok_alloc rfl rfl rfl rfl (ze_of rfl) ?_); intro q6
          refine gg ?_
          exact grt (⟨none, 0, []⟩ : OX) ⟨fun h => absurd h (by decide), fun _ => rfl⟩
        · refine gg ?_
          refine gc3 [] (fun w hst hst1 => hl w (op.now hst)) (by exact rfl) ?_
          (repeat (first | refine gk1 ?_ | refine gk2 ?_ | refine gk3 ?_ | refine gk0 ?_ | refine gk4 ?_))
          rintro y ⟨_, hy⟩
          dsimp only [List.cons_append, List.nil_append]
          refine gg ?_
          refine wl_op (ok_alloc rfl rfl rfl rfl (ze_of rfl) ?_); intro q6
          refine gg ?_
          exact grt (⟨none, 0, []⟩ : OX) ⟨fun h => absurd h (by decide), fun _ => rfl⟩
    · have e : thE k p = 242 := by unfold thE; rw [if_neg (by simp [hm]), if_neg (by omega), if_neg hk]
      rw [e, if_neg (by decide)]
      have k1 : k ≠ 1 := fun h => hk (.inl h)
      have k4 : k ≠ 4 := fun h => hk (.inr (.inl h))
      have k5 : k ≠ 5 := fun h => hk (.inr (.inr h))
      unfold pvl patV
      refine calls_wc [] [] [.cell 4 TGh, .tmp 5] (fun y : OX => [.agg (graC 0 y.A y.on.length y.c).toArray, vi 242]) Try.func42 rfl rfl (fun _ => rfl) Try.ntmps42 rfl (Own.nil w) rfl ?_
      refine gg ?_
      refine wl_op (ok_box rfl rfl rfl rfl rfl ?_); intro bp
      refine wl_none TB vb ?_
      refine wl_op (ok_alloc rfl rfl rfl rfl (ze_of rfl) ?_); intro rb
      refine gg ?_
      refine gc1 (fun w hst => refMay_c (op.s.now hst) (op.c.now hst) true (by simp [hm])) (by exact rfl) ?_
      refine gg ?_
      exact grt (⟨none, 0, []⟩ : OX) ⟨fun h => absurd h (by decide), fun _ => rfl⟩
  · have e : thE k p = 180 := by unfold thE; rw [if_pos hm]
    rw [e, if_neg (by decide)]
    unfold pvl patV
    refine calls_wc [] [] [.cell 4 TGh, .tmp 5] (fun y : OX => [.agg (graC 0 y.A y.on.length y.c).toArray, vi 180]) Try.func42 rfl rfl (fun _ => rfl) Try.ntmps42 rfl (Own.nil w) rfl ?_
    refine gg ?_
    refine wl_op (ok_box rfl rfl rfl rfl rfl ?_); intro bp
    refine wl_none TB vb ?_
    refine wl_op (ok_alloc rfl rfl rfl rfl (ze_of rfl) ?_); intro rb
    refine gg ?_
    refine gc1 (fun w hst => refMay_c (op.s.now hst) (op.c.now hst) false (by simp [hm])) (by exact rfl) ?_
    refine gg ?_
    exact grt (⟨none, 0, []⟩ : OX) ⟨fun h => absurd h (by decide), fun _ => rfl⟩
end
structure NrX where
  k : Int
  b : Bool
/-- near so far -/
noncomputable def bitN (p : Pat) (u v k : Int) : Bool := decide (hasB p u v = true ∨ ∃ j : Int, 0 ≤ j ∧ j < k ∧ hasB p u j = true ∧ hasB p j v = true)
section
variable {p : Pat} {x : PA}
theorem bitN_zero (u v : Int) : bitN p u v 0 = hasB p u v := by
  unfold bitN
  rw [Bool.eq_iff_iff, decide_eq_true_iff]
  exact ⟨fun h => h.elim id (fun ⟨j, h0, h1, _⟩ => by omega), .inl⟩
theorem bitN_next {u v k : Int} (hk : 0 ≤ k) : bitN p u v (k + 1) = (bitN p u v k || (hasB p u k && hasB p k v)) := by
  rw [Bool.eq_iff_iff, Bool.or_eq_true, Bool.and_eq_true]
  unfold bitN
  rw [decide_eq_true_iff, decide_eq_true_iff]
  constructor
  · rintro (h | ⟨j, h2, h3, h4⟩)
    · exact .inl (.inl h)
    · by_cases e : j = k
      · rw [e] at h4; exact .inr h4
      · exact .inl (.inr ⟨j, h2, by omega, h4⟩)
  · rintro ((h | ⟨j, h2, h3, h4⟩) | h)
    · exact .inl h
    · exact .inr ⟨j, h2, by omega, h4⟩
    · exact .inr ⟨k, hk, by omega, h⟩
theorem bitN_all (hm : May p) (u v : Int) : nearB p u v = (bitN p u v p.rows && decide (u ≠ v)) := by
  rw [Bool.eq_iff_iff, Bool.and_eq_true]
  unfold bitN nearB
  rw [decide_eq_true_iff, decide_eq_true_iff, decide_eq_true_iff, hasB_iff]
  constructor
  · rintro ⟨h1, h2 | ⟨j, h2, h3⟩⟩
    · exact ⟨.inl h2, h1⟩
    · exact ⟨.inr ⟨j, (h3.in_ hm).1.1, (h3.in_ hm).1.2, hasB_iff.2 h2, hasB_iff.2 h3⟩, h1⟩
  · rintro ⟨h2 | ⟨j, _, _, h2, h3⟩, h1⟩
    · exact ⟨h1, .inl h2⟩
    · exact ⟨h1, .inr ⟨j, hasB_iff.1 h2, hasB_iff.1 h3⟩⟩
theorem nearE (p : Pat) : nearS p = if thE 1 p = 0 then (shutP p.rows.toNat p.rows (nearB p), 0) else (zP, thE 1 p) := by
  by_cases hm : May p
  · by_cases hg : IsGr p
    · simp [nearS, thE, hm, hg]
    · simp [nearS, thE, hm, hg]
  · simp [nearS, thE, hm]
theorem refNear_c (w : World) (hp : RdP w x p) :
    Calls Try.prog 17 [pvl x p].toArray w (Ret [] (fun y : PA => .tuple #[pvl y (nearS p).1, vi (nearS p).2]) (fun y => PatR y (nearS p).1) (fun _ => True) w) := by
  have op := hp.old
  rw [nearE]
  by_cases he : thE 1 p = 0
  · rw [if_pos he]
    obtain ⟨hm, hgr⟩ : May p ∧ IsGr p := by
      unfold thE at he
      by_cases hm : May p
      · rw [if_neg (not_not_intro hm), if_neg (by decide), if_pos (.inl rfl)] at he
        by_cases hg : IsGr p
        · exact ⟨hm, hg⟩
        · rw [if_neg hg] at he; exact absurd he (by decide)
      · rw [if_pos hm] at he; exact absurd he (by decide)
    have hsq := hgr.1.2.1
    obtain ⟨h1, h2, h3, h4, h5, h6, h7, h8⟩ := hm.toHead
    obtain ⟨m0, m1⟩ := mul_small h1 h2 h1 h2
    have hw := nearB_within hm hsq
    have hsh : ∀ (y : OX) (w : World), Rds vb w y.A y.c y.on → IsGrid y.on p.rows p.rows (nearB p) → Calls Try.prog 46 [.agg (graC p.rows y.A y.on.length y.c).toArray].toArray w (Ret [] (fun z : PA => pvl z (shutP p.rows.toNat p.rows (nearB p))) (fun z => PatR z (shutP p.rows.toNat p.rows (nearB p))) (fun _ => True) w) := fun y w h hg => by
      have en : (p.rows.toNat : Int) = p.rows := by omega
      have := gshut_c (m := p.rows.toNat) (S := nearB p) w h (by rw [en]; exact hg) (by omega) (by rw [en]; exact hw)
      rwa [en] at this
    unfold pvl patV at *
    refine calls_wc [] [] [.cell 2 TP, .tmp 3] (fun y : PA => [pvl y (shutP p.rows.toNat p.rows (nearB p)), vi 0]) Try.func17 rfl rfl (fun _ => rfl) Try.ntmps17 rfl (Own.nil w) rfl ?_
    refine gg ?_
    refine wl_op (ok_box rfl rfl rfl rfl rfl ?_); intro bp
    refine wl_op (ok_alloc rfl rfl rfl rfl (ze_of rfl) ?_); intro rb
    refine gg ?_
    refine gc3 [] (fun w hst hst1 => things_c (p := p) (x := x) (k := 1) w (op.now hst)) (by exact rfl) ?_
    (repeat (first | refine gk1 ?_ | refine gk2 ?_ | refine gk3 ?_ | refine gk0 ?_ | refine gk4 ?_))
    rintro ⟨A1, c1, on1⟩ ⟨hy, _⟩
    dsimp only [List.cons_append, List.nil_append] at hy ⊢
    rw [he, if_pos rfl, show thN 1 p = p.rows from if_neg (by decide)]
    have hg1 : IsGrid on1 p.rows p.rows (hasB p) := by
      have := hy he
      rwa [show thN 1 p = p.rows from if_neg (by decide), show thF 1 p = hasB p from (if_neg (by decide)).trans (if_neg (by decide))] at this
    have hgl1 := hg1.len
    refine gg ?_
    refine wl_op (ok_alloc rfl rfl rfl rfl (ze_of rfl) ?_); intro q4
    refine gg ?_
    refine wc_meetK (fun _ : Nat × Nat => True) (fun z => [(2, .pointer (some ⟨rb, 0, none⟩)), (4, .pointer (some ⟨q4, 0, none⟩)), (6, .pointer (some ⟨z.2, 0, none⟩))])
      (fun z => [osl TB vb A1 c1 on1, blk q4 (graC p.rows A1 on1.length c1) TGh, osl TB vb (some ⟨z.1, 0, none⟩) (p.rows * p.rows).toNat (List.replicate (p.rows * p.rows).toNat false), blk z.2 (graC p.rows (some ⟨z.1, 0, none⟩) (p.rows * p.rows).toNat (p.rows * p.rows).toNat) TGh, blk rb pat0 TP]) ?_ ?_
    · refine gwa [] ?_
      (repeat (first | refine gk1 ?_ | refine gk2 ?_ | refine gk3 ?_ | refine gk0 ?_ | refine gk4 ?_))
      dsimp only [List.cons_append, List.nil_append]
      (first | refine ga1 0 (by exact rfl) (by exact rfl) ?_ | refine ga2 0 (by exact rfl) (by exact rfl) ?_ | refine ga3 0 (by exact rfl) (by exact rfl) ?_ | refine ga4 0 (by exact rfl) (by exact rfl) ?_)
      (first | refine ga1 1 (by exact rfl) (by exact rfl) ?_ | refine ga2 1 (by exact rfl) (by exact rfl) ?_ | refine ga3 1 (by exact rfl) (by exact rfl) ?_ | refine ga4 1 (by exact rfl) (by exact rfl) ?_)
      (first | refine ga1 2 (by exact rfl) (by exact rfl) ?_ | refine ga2 2 (by exact rfl) (by exact rfl) ?_ | refine ga3 2 (by exact rfl) (by exact rfl) ?_ | refine ga4 2 (by exact rfl) (by exact rfl) ?_)
      (first | refine ga1 3 (by exact rfl) (by exact rfl) ?_ | refine ga2 3 (by exact rfl) (by exact rfl) ?_ | refine ga3 3 (by exact rfl) (by exact rfl) ?_ | refine ga4 3 (by exact rfl) (by exact rfl) ?_)
      (first | refine ga1 4 (by exact rfl) (by exact rfl) ?_ | refine ga2 4 (by exact rfl) (by exact rfl) ?_ | refine ga3 4 (by exact rfl) (by exact rfl) ?_ | refine ga4 4 (by exact rfl) (by exact rfl) ?_)
      (first | refine ga1 5 (by exact rfl) (by exact rfl) ?_ | refine ga2 5 (by exact rfl) (by exact rfl) ?_ | refine ga3 5 (by exact rfl) (by exact rfl) ?_ | refine ga4 5 (by exact rfl) (by exact rfl) ?_)
      (first | refine ga1 6 (by exact rfl) (by exact rfl) ?_ | refine ga2 6 (by exact rfl) (by exact rfl) ?_ | refine ga3 6 (by exact rfl) (by exact rfl) ?_ | refine ga4 6 (by exact rfl) (by exact rfl) ?_)
      refine gaAll [7, 9] ?_
      intro j hj
      simp only [List.mem_cons, List.not_mem_nil, or_false] at hj
      rcases hj with rfl | rfl
      · refine ⟨_, rfl, ?_⟩
        refine gmk0 vb false rfl rfl rfl rfl rfl rfl rfl rfl rfl rfl rfl m0 (Int.le_refl _) (by omega) (by omega) ?_
        intro sb
        refine ⟨by (repeat (first | exact Suf.refl | exact Suf.nil | exact Suf.app _ _ | apply Suf.cons)), ?_⟩
        refine wa_v 8 [_] rfl (by kernel_rfl) rfl rfl rfl rfl (val_build (ps := [(0, vi p.rows), (1, .slice (some ⟨sb, 0, none⟩) (p.rows * p.rows).toNat (p.rows * p.rows).toNat)]) (cells := graC p.rows (some ⟨sb, 0, none⟩) (p.rows * p.rows).toNat (p.rows * p.rows).toNat) rfl rfl (by kernel_rfl)) ?_
        refine gaOne 9 rfl ?_
        refine ok_alloc rfl rfl rfl rfl (ze_of rfl) ?_
        intro q
        refine ⟨by (repeat (first | exact Suf.refl | exact Suf.nil | exact Suf.app _ _ | apply Suf.cons)), ?_⟩
        refine gaOne 10 rfl ?_
        refine gt0 (by exact rfl) ?_
        refine ⟨by (repeat (first | exact Suf.refl | exact Suf.nil | exact Suf.app _ _ | apply Suf.cons)), ?_⟩
        refine gaDone ?_
        exact ⟨(sb, q), trivial, .cons rfl (.cons rfl (.cons rfl .nil)), by refine SubK.e ?_; (repeat (first | refine gk1 ?_ | refine gk2 ?_ | refine gk3 ?_ | refine gk0 ?_ | refine gk4 ?_)); trivial⟩
      · refine ⟨_, rfl, ?_⟩
        refine ok_alloc rfl rfl rfl rfl (ze_of rfl) ?_
        intro q
        refine ⟨by (repeat (first | exact Suf.refl | exact Suf.nil | exact Suf.app _ _ | apply Suf.cons)), ?_⟩
        refine gaOne 7 rfl ?_
        refine gmk0 vb false rfl rfl rfl rfl rfl rfl rfl rfl rfl rfl rfl m0 (Int.le_refl _) (by omega) (by omega) ?_
        intro sb
        refine ⟨by (repeat (first | exact Suf.refl | exact Suf.nil | exact Suf.app _ _ | apply Suf.cons)), ?_⟩
        refine wa_v 8 [_, _] rfl (by kernel_rfl) rfl rfl rfl rfl (val_build (ps := [(0, vi p.rows), (1, .slice (some ⟨sb, 0, none⟩) (p.rows * p.rows).toNat (p.rows * p.rows).toNat)]) (cells := graC p.rows (some ⟨sb, 0, none⟩) (p.rows * p.rows).toNat (p.rows * p.rows).toNat) rfl rfl (by kernel_rfl)) ?_
        refine gaOne 10 rfl ?_
        refine gt0 (by exact rfl) ?_
        refine ⟨by (repeat (first | exact Suf.refl | exact Suf.nil | exact Suf.app _ _ | apply Suf.cons)), ?_⟩
        refine gaDone ?_
        exact ⟨(sb, q), trivial, .cons rfl (.cons rfl (.cons rfl .nil)), by refine SubK.e ?_; (repeat (first | refine gk1 ?_ | refine gk2 ?_ | refine gk3 ?_ | refine gk0 ?_ | refine gk4 ?_)); trivial⟩
    rintro ⟨sb, q⟩ _
    dsimp only
    refine gg ?_
    refine glp (fun y : LnX => 0 ≤ y.u ∧ y.u ≤ p.rows ∧ IsGrid y.on p.rows p.rows (mixS (nearB p) (fun _ _ => false) y.u 0)) (fun y => [(2, .pointer (some ⟨rb, 0, none⟩)), (4, .pointer (some ⟨q4, 0, none⟩)), (6, .pointer (some ⟨q, 0, none⟩)), (7, vi y.u)])
      (fun y => [osl TB vb A1 c1 on1, blk q4 (graC p.rows A1 on1.length c1) TGh, osl TB vb (some ⟨sb, 0, none⟩) (p.rows * p.rows).toNat y.on, blk q (graC p.rows (some ⟨sb, 0, none⟩) (p.rows * p.rows).toNat (p.rows * p.rows).toNat) TGh, blk rb pat0 TP]) (fun y => (p.rows - y.u).toNat) ⟨0, 0, 0, List.replicate (p.rows * p.rows).toNat false⟩ ⟨by simp, h1, mix_zero (IsGrid.none m0)⟩ ?_
    rintro ⟨u, _, _, on⟩ ⟨hu0, hu1, hg⟩
    dsimp only at hu0 hu1 hg ⊢
    by_cases hu : u < p.rows
    · obtain ⟨m4, m5⟩ := mul_small hu0 (show u ≤ 128 by omega) h1 h2
      refine gg ?_
      refine glp (fun y : LnX => 0 ≤ y.v ∧ y.v ≤ p.rows ∧ IsGrid y.on p.rows p.rows (mixS (nearB p) (fun _ _ => false) u y.v)) (fun y => [(2, .pointer (some ⟨rb, 0, none⟩)), (4, .pointer (some ⟨q4, 0, none⟩)), (6, .pointer (some ⟨q, 0, none⟩)), (7, vi u), (8, vi y.v)])
        (fun y => [osl TB vb A1 c1 on1, blk q4 (graC p.rows A1 on1.length c1) TGh, osl TB vb (some ⟨sb, 0, none⟩) (p.rows * p.rows).toNat y.on, blk q (graC p.rows (some ⟨sb, 0, none⟩) (p.rows * p.rows).toNat (p.rows * p.rows).toNat) TGh, blk rb pat0 TP]) (fun y => (p.rows - y.v).toNat) ⟨0, 0, 0, on⟩ ⟨by simp, h1, hg⟩ ?_
      rintro ⟨_, v, _, on⟩ ⟨hv0, hv1, hg⟩
      dsimp only at hv0 hv1 hg ⊢
      by_cases hv : v < p.rows
      · have hgl := hg.len
        have luv := cell_lt hu0 hu hv0 hv
        have huv := hg1.at_ u v hu0 hu hv0 hv
        rw [← bitN_zero] at huv
        have hall := bitN_all hm u v
        refine gg ?_
        refine gc1 (fun w hst => meet_c (n := p.rows) (r := u) (x := v) w (grd hst) h1 h2 (by omega) (by omega) (by omega) (by omega) (by omega) _ huv) (by exact rfl) ?_
        refine gg ?_
        refine glp (fun y : NrX => 0 ≤ y.k ∧ y.k ≤ p.rows ∧ y.b = bitN p u v y.k) (fun y => [(2, .pointer (some ⟨rb, 0, none⟩)), (4, .pointer (some ⟨q4, 0, none⟩)), (6, .pointer (some ⟨q, 0, none⟩)), (7, vi u), (8, vi v), (9, .bool y.b), (10, vi y.k)])
          (fun y => [osl TB vb A1 c1 on1, blk q4 (graC p.rows A1 on1.length c1) TGh, osl TB vb (some ⟨sb, 0, none⟩) (p.rows * p.rows).toNat on, blk q (graC p.rows (some ⟨sb, 0, none⟩) (p.rows * p.rows).toNat (p.rows * p.rows).toNat) TGh, blk rb pat0 TP]) (fun y => (p.rows - y.k).toNat) ⟨0, bitN p u v 0⟩ ⟨by simp, h1, rfl⟩ ?_
        rintro ⟨k, b⟩ ⟨hk0, hk1, hb⟩
        dsimp only at hk0 hk1 hb ⊢
        by_cases hk : k < p.rows
        · have hnx := bitN_next (p := p) (u := u) (v := v) hk0
          obtain ⟨m6, m7⟩ := mul_small hk0 (show k ≤ 128 by omega) h1 h2
          have huk := hg1.at_ u k hu0 hu hk0 hk
          have hkv := hg1.at_ k v hk0 hk hv0 hv
          have luk := cell_lt hu0 hu hk0 hk
          have lkv := cell_lt hk0 hk hv0 hv
          cases b with
          | true =>
            rw [← hb, Bool.true_or] at hnx
            refine gg ?_
            exact gnx (⟨k + 1, true⟩ : NrX) ⟨by dsimp only; omega, by dsimp only; omega, hnx.symm⟩ (by dsimp only; omega)
          | false =>
            rw [← hb, Bool.false_or] at hnx
            refine gg ?_
            cases hc : hasB p u k with
            | false =>
              rw [hc] at huk hnx
              rw [Bool.false_and] at hnx
              refine gc1 (fun w hst => meet_c (n := p.rows) (r := u) (x := k) w (grd hst) h1 h2 (by omega) (by omega) (by omega) (by omega) (by omega) _ huk) (by exact rfl) ?_
              refine gg ?_
              exact gnx (⟨k + 1, false⟩ : NrX) ⟨by dsimp only; omega, by dsimp only; omega, hnx.symm⟩ (by dsimp only; omega)
            | true =>
              rw [hc] at huk hnx
              rw [Bool.true_and] at hnx
              refine gc1 (fun w hst => meet_c (n := p.rows) (r := u) (x := k) w (grd hst) h1 h2 (by omega) (by omega) (by omega) (by omega) (by omega) _ huk) (by exact rfl) ?_
              refine gg ?_
              refine gc1 (fun w hst => meet_c (n := p.rows) (r := k) (x := v) w (grd hst) h1 h2 (by omega) (by omega) (by omega) (by omega) (by omega) _ hkv) (by exact rfl) ?_
              refine gg ?_
              exact gnx (⟨k + 1, hasB p k v⟩ : NrX) ⟨by dsimp only; omega, by dsimp only; omega, hnx.symm⟩ (by dsimp only; omega)
        · obtain rfl : k = p.rows := by omega
          cases b with
          | true =>
            rw [← hb, Bool.true_and] at hall
            by_cases hne : u = v
            · have hset := mix_set (F := nearB p) hg hu0 hu hv0 hv (v := false) (by rw [hall]; simp [hne])
              refine gg ?_
              exact gnx (⟨0, v + 1, 0, on.set (u * p.rows + v).toNat false⟩ : LnX) ⟨by dsimp only; omega, by dsimp only; omega, hset⟩ (by dsimp only; omega)
            · have hset := mix_set (F := nearB p) hg hu0 hu hv0 hv (v := true) (by rw [hall]; simp [hne])
              refine gg ?_
              exact gnx (⟨0, v + 1, 0, on.set (u * p.rows + v).toNat true⟩ : LnX) ⟨by dsimp only; omega, by dsimp only; omega, hset⟩ (by dsimp only; omega)
          | false =>
            rw [← hb, Bool.false_and] at hall
            have hset := mix_set (F := nearB p) hg hu0 hu hv0 hv (v := false) hall
            refine gg ?_
            exact gnx (⟨0, v + 1, 0, on.set (u * p.rows + v).toNat false⟩ : LnX) ⟨by dsimp only; omega, by dsimp only; omega, hset⟩ (by dsimp only; omega)
      · obtain rfl : v = p.rows := by omega
        refine gg ?_
        exact gnx (⟨u + 1, 0, 0, on⟩ : LnX) ⟨by dsimp only; omega, by dsimp only; omega, mix_next hg⟩ (by dsimp only; omega)
    · obtain rfl : u = p.rows := by omega
      have hgl := hg.len
      refine gg ?_
      rw [show (p.rows * p.rows).toNat = on.length by omega]
      refine gc3 [] (fun w hst hst1 => hsh ⟨some ⟨sb, 0, none⟩, on.length, on⟩ w (grd hst) (mix_end hg)) (by exact rfl) ?_
      (repeat (first | refine gk1 ?_ | refine gk2 ?_ | refine gk3 ?_ | refine gk0 ?_ | refine gk4 ?_))
      rintro y _
      dsimp only [List.cons_append, List.nil_append]
      refine gg ?_
      exact grt y trivial
  · rw [if_neg he]
    unfold pvl patV
    refine calls_wc [] [] [.cell 2 TP, .tmp 3] (fun y : PA => [pvl y zP, vi (thE 1 p)]) Try.func17 rfl rfl (fun _ => rfl) Try.ntmps17 rfl (Own.nil w) rfl ?_
    refine gnil ?_
    refine gnil ?_
    refine gg ?_
    refine wl_op (ok_box rfl rfl rfl rfl rfl ?_); intro bp
    refine wl_op (ok_alloc rfl rfl rfl rfl (ze_of rfl) ?_); intro rb
    refine gg ?_
    refine gc3 [] (fun w hst hst1 => things_c (p := p) (x := x) (k := 1) w (op.now hst)) (by exact rfl) ?_
    (repeat (first | refine gk1 ?_ | refine gk2 ?_ | refine gk3 ?_ | refine gk0 ?_ | refine gk4 ?_))
    rintro ⟨A1, c1, on1⟩ _
    dsimp only [List.cons_append, List.nil_append]
    refine gg ?_
    refine wl_op (ok_alloc rfl rfl rfl rfl (ze_of rfl) ?_); intro q4
    refine gg ?_
    exact grt PA.nil trivial
end
end Go.Proofs.Ytoiiellaoikojaa
