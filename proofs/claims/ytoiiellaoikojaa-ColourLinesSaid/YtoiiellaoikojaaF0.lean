/- Plain: graphs of rows and columns that meet, and of near neighbours. -/
import Derived.Test.YtoiiellaoikojaaAB
set_option linter.unusedVariables false
set_option linter.unusedSimpArgs false
set_option maxHeartbeats 4000000
namespace Go.Proofs.Ytoiiellaoikojaa
open Go.RowKit
open Classical
/-- a graph: no vertex is its own neighbour -/
def IsGr (p : Pat) : Prop := Sym p ∧ ∀ v, ¬ HasP p v v
/-- rows that meet in a column -/
noncomputable def meetB (p : Pat) (u v : Int) : Bool := decide (u ≠ v ∧ ∃ k, HasP p u k ∧ HasP p v k)
/-- columns that meet in a row -/
noncomputable def meetC (p : Pat) (u v : Int) : Bool := decide (u ≠ v ∧ ∃ k, HasP p k u ∧ HasP p k v)
noncomputable def nearB (p : Pat) (u v : Int) : Bool := decide (u ≠ v ∧ (HasP p u v ∨ ∃ k, HasP p u k ∧ HasP p k v))
noncomputable def rowsS (p : Pat) : PE := if May p then (shutP p.rows.toNat p.rows (meetB p), 0) else (zP, 180)
noncomputable def colsS (p : Pat) : PE := if May p then (shutP p.width.toNat p.width (meetC p), 0) else (zP, 180)
noncomputable def nearS (p : Pat) : PE := if May p then (if IsGr p then (shutP p.rows.toNat p.rows (nearB p), 0) else (zP, 220)) else (zP, 180)
section
variable {p : Pat}
theorem both_eq (h : May p) : prodP p (turnP p) = shutP p.rows.toNat p.rows (prodB p (turnP p)) := by
  unfold prodP
  rw [show (turnP p).width = p.rows by rfl]
theorem has_both (h : May p) {a b : Int} : HasP (prodP p (turnP p)) a b ↔ ∃ k, HasP p a k ∧ HasP p b k := by
  rw [has_prod h (may_turn h)]
  exact exists_congr fun k => by rw [has_turn h]
theorem graph_both (h : May p) : closedS (prodP p (turnP p)) false = (shutP p.rows.toNat p.rows (meetB p), 0) := by
  have hm := may_prod h (may_turn h)
  unfold closedS
  rw [if_neg (not_not_intro hm), if_neg (by rw [both_eq h]; show ¬ ((p.rows.toNat : Int) ≠ p.rows); have := h.toHead.r0; omega)]
  have e : cloB (prodP p (turnP p)) false = meetB p := by
    funext a b
    rw [Bool.eq_iff_iff]
    unfold cloB meetB
    rw [Bool.and_eq_true, Bool.or_eq_true, hasB_iff, hasB_iff, has_both h, has_both h, Bool.false_or, decide_eq_true_iff]
    simp only [Bool.not_eq_true', beq_eq_false_iff_ne]
    constructor
    · rintro ⟨h1 | ⟨k, h1, h2⟩, hne⟩
      · exact ⟨hne, h1⟩
      · exact ⟨hne, k, h2, h1⟩
    · rintro ⟨hne, h1⟩
      exact ⟨.inl h1, hne⟩
  rw [e, both_eq h]
  show (shutP (p.rows.toNat : Int).toNat p.rows (meetB p), (0 : Int)) = _
  rw [Int.toNat_natCast]
theorem meet_turn (h : May p) : meetB (turnP p) = meetC p := by
  funext a b
  rw [Bool.eq_iff_iff]
  unfold meetB meetC
  rw [decide_eq_true_iff, decide_eq_true_iff]
  refine and_congr_right fun _ => exists_congr fun k => ?_
  rw [has_turn h, has_turn h]
theorem rowsS_turn (h : May p) : rowsS (turnP p) = colsS p := by
  unfold rowsS colsS
  rw [if_pos (may_turn h), if_pos h, meet_turn h, rows_turn h]
theorem meetB_within (h : May p) : Within p.rows.toNat p.rows (meetB p) := fun r hr c hc => by
  unfold meetB at hc
  rw [decide_eq_true_iff] at hc
  obtain ⟨_, k, _, h2⟩ := hc
  exact (h2.in_ h).1
theorem meetC_within (h : May p) : Within p.width.toNat p.width (meetC p) := fun r hr c hc => by
  unfold meetC at hc
  rw [decide_eq_true_iff] at hc
  obtain ⟨_, k, _, h2⟩ := hc
  exact (h2.in_ h).2
theorem nearB_within (h : May p) (hsq : p.rows = p.width) : Within p.rows.toNat p.rows (nearB p) := fun r hr c hc => by
  unfold nearB at hc
  rw [decide_eq_true_iff] at hc
  rcases hc.2 with h2 | ⟨k, _, h2⟩
  · have := (h2.in_ h).2; omega
  · have := (h2.in_ h).2; omega
theorem graph_near (h : May p) (hg : IsGr p) : Alike [p, prodP p p] ∧ closedS (unionP [p, prodP p p]) false = (shutP p.rows.toNat p.rows (nearB p), 0) := by
  have hsq := hg.1.2.1
  have hs := hg.1.2.2
  have h0 := h.toHead.r0
  have hpm := may_prod h h
  have hpr : (prodP p p).rows = p.rows := by show (p.rows.toNat : Int) = p.rows; omega
  have hpw : (prodP p p).width = p.width := rfl
  have ha : Alike [p, prodP p p] := alike2 h hpm hpr.symm hpw.symm
  refine ⟨ha, ?_⟩
  have hm := may_union ha
  have hur : (unionP [p, prodP p p]).rows = p.rows := by show (p.rows.toNat : Int) = p.rows; omega
  have huw : (unionP [p, prodP p p]).width = p.width := rfl
  unfold closedS
  rw [if_neg (not_not_intro hm), if_neg (by rw [hur, huw]; exact not_not_intro hsq)]
  have e : cloB (unionP [p, prodP p p]) false = nearB p := by
    funext a b
    rw [Bool.eq_iff_iff]
    unfold cloB nearB
    rw [Bool.and_eq_true, Bool.or_eq_true, hasB_iff, hasB_iff, has_union ha, has_union ha, Bool.false_or, decide_eq_true_iff]
    simp only [Bool.not_eq_true', beq_eq_false_iff_ne, List.mem_cons, List.not_mem_nil, or_false, exists_eq_or_imp, exists_eq_left, has_prod h h]
    constructor
    · rintro ⟨(h1 | h1) | (h1 | ⟨k, h1, h2⟩), hne⟩
      · exact ⟨hne, .inl h1⟩
      · exact ⟨hne, .inr h1⟩
      · exact ⟨hne, .inl (hs _ _ h1)⟩
      · exact ⟨hne, .inr ⟨k, hs _ _ h2, hs _ _ h1⟩⟩
    · rintro ⟨hne, h1⟩
      exact ⟨.inl h1, hne⟩
  rw [e, hur, huw, ← hsq]
end
end Go.Proofs.Ytoiiellaoikojaa
