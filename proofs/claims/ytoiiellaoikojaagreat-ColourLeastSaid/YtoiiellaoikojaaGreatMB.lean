/- Walks: colours: Floor, both. Walks: colours: the reference's Floor; orders refused; the law ColourBounds. Walks: colours: orders refused; Bound and Floor of all; the law ColourBounds. -/
import Derived.Test.YtoiiellaoikojaaGreatMA
set_option linter.unusedVariables false
set_option linter.unusedSimpArgs false
set_option maxHeartbeats 8000000
namespace Go.Proofs.YtoiiellaoikojaaGreat
open Go.RowKit
/-- the longest of the first rows, and 1 -/
def floTo (g : Pat) : Nat → Int
  | 0 => 1
  | r + 1 => max (floTo g r) (gt g.start ((r : Int) + 1) - gt g.start r)
theorem floTo_next {g : Pat} {r : Int} (h : 0 ≤ r) : floTo g (r + 1).toNat = max (floTo g r.toNat) (gt g.start (r + 1) - gt g.start r) := by
  rw [show (r + 1).toNat = r.toNat + 1 by omega]
  show max (floTo g r.toNat) (gt g.start ((r.toNat : Int) + 1) - gt g.start (r.toNat : Int)) = _
  rw [show ((r.toNat : Nat) : Int) = r by omega]
theorem floTo_rng {g : Pat} (h : Head g) : ∀ r : Nat, (r : Int) ≤ g.rows → 1 ≤ floTo g r ∧ floTo g r ≤ 1 + g.cols.length
  | 0, _ => ⟨Int.le_refl _, by show (1 : Int) ≤ _; omega⟩
  | r + 1, hr => by
    have ih := floTo_rng h r (by omega)
    have e1 := h.lo (r := (r : Int)) (by omega) (by omega)
    have e2 := h.hi (r := (r : Int) + 1) (by omega) (by omega)
    show 1 ≤ max (floTo g r) (gt g.start ((r : Int) + 1) - gt g.start r) ∧ max (floTo g r) (gt g.start ((r : Int) + 1) - gt g.start r) ≤ _
    omega
theorem row_len {g : Pat} (hm : May g) {r : Int} (r0 : 0 ≤ r) (r1 : r < g.rows) : ((rowOf (hasB g r)).length : Int) = gt g.start (r + 1) - gt g.start r := by
  have h := row_has hm (r := r.toNat) (by omega)
  rw [show ((r.toNat : Nat) : Int) = r by omega] at h
  have e1 := hm.toHead.lo r0 (by omega)
  have e2 := hm.toHead.hi (r := r + 1) (by omega) (by omega)
  have e3 := hm.toHead.step r0 r1
  rw [← h, sub_length g.cols e1 e3 e2]
  omega
theorem rowTo_end {f : Int → Bool} {m : Int} (h : ∀ y, f y = true → 0 ≤ y ∧ y < m) : rowTo f m = rowOf f := by
  unfold rowTo
  congr 1
  funext y
  cases hy : f y with
  | false => rfl
  | true => have := h y hy; simp; omega
theorem has_turnB {p : Pat} (hm : May p) (a b : Int) : hasB (turnP p) a b = hasB p b a := by
  rw [Bool.eq_iff_iff, hasB_iff, hasB_iff, has_turn hm]
noncomputable def floorS (kd : Int) (p : Pat) : Int := if thN kd p = 0 then 0 else if kd = 2 then floTo p p.rows.toNat else if kd = 3 then floTo (turnP p) p.width.toNat else if 0 < p.cols.length then 2 else 1
section
variable {p : Pat} {x : PA} {kd : Int}
end
section
variable {p : Pat} {x : PA} {kd : Int} {A : Option Addr} {c n : Nat} {l : List Int}
end
theorem thE_zero {kd : Int} {p : Pat} (he : thE kd p = 0) : May p ∧ (((kd = 1 ∨ kd = 4 ∨ kd = 5) ∧ IsGr p) ∨ kd = 2 ∨ kd = 3) := by
  unfold thE at he
  by_cases hm : May p
  · rw [if_neg (not_not_intro hm)] at he
    refine ⟨hm, ?_⟩
    by_cases h23 : kd = 2 ∨ kd = 3
    · exact .inr h23
    · rw [if_neg h23] at he
      by_cases h145 : kd = 1 ∨ kd = 4 ∨ kd = 5
      · rw [if_pos h145] at he
        by_cases hg : IsGr p
        · exact .inl ⟨h145, hg⟩
        · rw [if_neg hg] at he; exact absurd he (by decide)
      · rw [if_neg h145] at he; exact absurd he (by decide)
  · rw [if_pos hm] at he; exact absurd he (by decide)
open Classical in
theorem cols_facts {p : Pat} (hm : May p) : May (colsS p).1 ∧ (colsS p).1.rows = p.width ∧ (colsS p).1.width = p.width ∧ hasB (colsS p).1 = meetC p := by
  obtain ⟨h1, h2, h3, h4, h5, h6, h7, h8⟩ := hm.toHead
  rw [show colsS p = (shutP p.width.toNat p.width (meetC p), 0) from if_pos hm]
  have hw := meetC_within hm
  refine ⟨shut_may (by omega) (by omega) (by omega) hw, by show ((p.width.toNat : Nat) : Int) = _; omega, rfl, ?_⟩
  funext a b
  rw [Bool.eq_iff_iff, hasB_iff, has_shut (by omega) hw]
  refine ⟨fun h => h.2, fun h => ⟨?_, h⟩⟩
  unfold meetC at h
  rw [decide_eq_true_iff] at h
  obtain ⟨_, k, h1, _⟩ := h
  have := h1.in_ hm
  omega
open Classical in
theorem rows_facts {p : Pat} (hm : May p) : May (rowsS p).1 ∧ (rowsS p).1.rows = p.rows ∧ (rowsS p).1.width = p.rows ∧ hasB (rowsS p).1 = meetB p := by
  obtain ⟨h1, h2, h3, h4, h5, h6, h7, h8⟩ := hm.toHead
  rw [show rowsS p = (shutP p.rows.toNat p.rows (meetB p), 0) from if_pos hm]
  have hw := meetB_within hm
  refine ⟨shut_may (by omega) (by omega) (by omega) hw, by show ((p.rows.toNat : Nat) : Int) = _; omega, rfl, ?_⟩
  funext a b
  rw [Bool.eq_iff_iff, hasB_iff, has_shut (by omega) hw]
  refine ⟨fun h => h.2, fun h => ⟨?_, h⟩⟩
  unfold meetB at h
  rw [decide_eq_true_iff] at h
  obtain ⟨_, k, h1, _⟩ := h
  have := h1.in_ hm
  omega
section
variable {p : Pat} {x : PA} {kd : Int} {A : Option Addr} {c n : Nat} {l : List Int}
theorem ordNG_c (w : World) (hp : RdP w x p) (hl : Rds vi w A c l) (hm : May p) (hg : IsGr p) (hk : kd = 1 ∨ kd = 4 ∨ kd = 5) (ho : ¬ IsOrd l p.rows) :
    Calls Tryz.prog 57 [vi kd, pvl x p, .slice A l.length c].toArray w (one (.tuple #[.pointer none, vi 182]) w) := by
  have op := hp.old
  have oL := hl.old
  obtain ⟨h1, h2, h3, h4, h5, h6, h7, h8⟩ := hm.toHead
  have htk : ∀ w, RdP w x p → _ := fun w h => takenG_c (k := kd) w h hm hg hk
  unfold pvl patV at *
  refine calls_wc [] [] [.tmp 6, .tmp 7] (fun _ => [.pointer none, vi 182]) Tryz.func57 rfl rfl (fun _ => rfl) Tryz.ntmps57 rfl (Own.nil w) rfl ?_
  refine gg ?_
  refine wl_op (ok_box rfl rfl rfl rfl rfl ?_); intro bp
  refine gg ?_
  refine gc3 [] (fun w hst hst1 => htk w (op.now hst)) (by exact rfl) ?_
  (repeat (first | refine gk1 ?_ | refine gk2 ?_ | refine gk3 ?_ | refine gk0 ?_ | refine gk4 ?_))
  rintro t _
  dsimp only [List.cons_append, List.nil_append]
  refine gg ?_
  refine gc1 (fun w hst => ordCheck_c (n := p.rows) w (oL.now hst) h1 h2 182 (by simp [ho])) (by exact rfl) ?_
  refine gg ?_
  exact grt () trivial
theorem ordNcols_c (w : World) (hp : RdP w x p) (hl : Rds vi w A c l) (hm : May p) (hk : kd = 2) (ho : ¬ IsOrd l (colsS p).1.rows) :
    Calls Tryz.prog 57 [vi kd, pvl x p, .slice A l.length c].toArray w (one (.tuple #[.pointer none, vi 182]) w) := by
  have op := hp.old
  have oL := hl.old
  have g1 := (cols_facts hm).1.toHead.r0
  have g2 := (cols_facts hm).1.toHead.r1
  have htk : ∀ w, RdP w x p → _ := fun w h => takencols_c (k := kd) w h hm hk
  generalize (colsS p).1 = q at *
  unfold pvl patV at *
  refine calls_wc [] [] [.tmp 6, .tmp 7] (fun _ => [.pointer none, vi 182]) Tryz.func57 rfl rfl (fun _ => rfl) Tryz.ntmps57 rfl (Own.nil w) rfl ?_
  refine gg ?_
  refine wl_op (ok_box rfl rfl rfl rfl rfl ?_); intro bp
  refine gg ?_
  refine gc3 [] (fun w hst hst1 => htk w (op.now hst)) (by exact rfl) ?_
  (repeat (first | refine gk1 ?_ | refine gk2 ?_ | refine gk3 ?_ | refine gk0 ?_ | refine gk4 ?_))
  rintro t _
  dsimp only [List.cons_append, List.nil_append]
  refine gg ?_
  refine gc1 (fun w hst => ordCheck_c (n := q.rows) w (oL.now hst) g1 g2 182 (by simp [ho])) (by exact rfl) ?_
  refine gg ?_
  exact grt () trivial
theorem ordNrows_c (w : World) (hp : RdP w x p) (hl : Rds vi w A c l) (hm : May p) (hk : kd = 3) (ho : ¬ IsOrd l (rowsS p).1.rows) :
    Calls Tryz.prog 57 [vi kd, pvl x p, .slice A l.length c].toArray w (one (.tuple #[.pointer none, vi 182]) w) := by
  have op := hp.old
  have oL := hl.old
  have g1 := (rows_facts hm).1.toHead.r0
  have g2 := (rows_facts hm).1.toHead.r1
  have htk : ∀ w, RdP w x p → _ := fun w h => takenrows_c (k := kd) w h hm hk
  generalize (rowsS p).1 = q at *
  unfold pvl patV at *
  refine calls_wc [] [] [.tmp 6, .tmp 7] (fun _ => [.pointer none, vi 182]) Tryz.func57 rfl rfl (fun _ => rfl) Tryz.ntmps57 rfl (Own.nil w) rfl ?_
  refine gg ?_
  refine wl_op (ok_box rfl rfl rfl rfl rfl ?_); intro bp
  refine gg ?_
  refine gc3 [] (fun w hst hst1 => htk w (op.now hst)) (by exact rfl) ?_
  (repeat (first | refine gk1 ?_ | refine gk2 ?_ | refine gk3 ?_ | refine gk0 ?_ | refine gk4 ?_))
  rintro t _
  dsimp only [List.cons_append, List.nil_append]
  refine gg ?_
  refine gc1 (fun w hst => ordCheck_c (n := q.rows) w (oL.now hst) g1 g2 182 (by simp [ho])) (by exact rfl) ?_
  refine gg ?_
  exact grt () trivial
open Classical in
noncomputable def boundS (kd : Int) (p : Pat) (l : List Int) : Int × Int := if thE kd p ≠ 0 then (0, thE kd p) else if ¬ IsOrd l (thN kd p) then (0, 182) else (bndTo kd (thF kd p) (thN kd p).toNat l (thN kd p).toNat, 0)
open Classical in
noncomputable def floorE (kd : Int) (p : Pat) : Int × Int := if thE kd p ≠ 0 then (0, thE kd p) else (floorS kd p, 0)
end
end Go.Proofs.YtoiiellaoikojaaGreat
