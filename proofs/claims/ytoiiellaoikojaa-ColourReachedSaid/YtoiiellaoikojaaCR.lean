/- The reference: Ways: which vertices are reached from which. Walks: the reference: Components. -/
import Derived.Test.YtoiiellaoikojaaCA
import Derived.Test.YtoiiellaoikojaaTF
import Derived.Test.YtoiiellaoikojaaC1
set_option linter.unusedVariables false
set_option linter.unusedSimpArgs false
set_option maxHeartbeats 8000000
namespace Go.Proofs.Ytoiiellaoikojaa
open Go.RowKit
/-- a way whose inner vertices are below k -/
inductive Via (E : Int → Int → Bool) (k : Int) : Int → Int → Prop
  | refl (a : Int) : Via E k a a
  | one {a b : Int} : E a b = true → Via E k a b
  | step {a b c : Int} : Via E k a b → 0 ≤ b → b < k → E b c = true → Via E k a c
section
variable {E : Int → Int → Bool} {k n : Int}
theorem Via.mono {a b : Int} (h : Via E k a b) : Via E (k + 1) a b := by
  induction h with
  | refl => exact .refl _
  | one h => exact .one h
  | step _ h0 h1 h ih => exact .step ih h0 (by omega) h
theorem via_next (h0 : 0 ≤ k) {a b : Int} : Via E (k + 1) a b ↔ Via E k a b ∨ (Via E k a k ∧ Via E k k b) := by
  constructor
  · intro h
    induction h with
    | refl => exact .inl (.refl _)
    | one h => exact .inl (.one h)
    | @step b c _ h2 h3 h ih =>
      by_cases e : b = k
      · subst e
        refine .inr ⟨?_, .one h⟩
        rcases ih with ih | ih
        · exact ih
        · exact ih.1
      · rcases ih with ih | ih
        · exact .inl (.step ih h2 (by omega) h)
        · exact .inr ⟨ih.1, .step ih.2 h2 (by omega) h⟩
  · rintro (h | ⟨h1, h2⟩)
    · exact h.mono
    · have h1 := h1.mono
      have : ∀ {b}, Via E k k b → Via E (k + 1) a b := by
        intro b h
        induction h with
        | refl => exact h1
        | one h => exact .step h1 h0 (by omega) h
        | step _ h2 h3 h ih => exact .step ih h2 (by omega) h
      exact this h2
theorem via_col (h0 : 0 ≤ k) {a : Int} : Via E (k + 1) a k ↔ Via E k a k := by
  rw [via_next h0]
  exact ⟨fun h => h.elim id (·.1), .inl⟩
theorem via_row (h0 : 0 ≤ k) {b : Int} : Via E (k + 1) k b ↔ Via E k k b := by
  rw [via_next h0]
  exact ⟨fun h => h.elim id (·.2), .inl⟩
theorem via_zero {a b : Int} : Via E 0 a b ↔ a = b ∨ E a b = true := by
  constructor
  · intro h
    cases h with
    | refl => exact .inl rfl
    | one h => exact .inr h
    | step _ h0 h1 _ => omega
  · rintro (rfl | h)
    · exact .refl _
    · exact .one h
theorem via_way (ho : On n E) {a b : Int} : Via E n a b ↔ Way E a b := by
  constructor
  · intro h
    induction h with
    | refl => exact .refl _
    | one h => exact Way.one h
    | step _ _ _ h ih => exact .step ih h
  · intro h
    induction h with
    | refl => exact .refl _
    | step _ h ih => exact .step ih (ho _ _ h).1 (ho _ _ h).2.1 h
end
open Classical in
noncomputable def viaB (E : Int → Int → Bool) (k a b : Int) : Bool := decide (Via E k a b)
theorem viaB_iff {E : Int → Int → Bool} {k a b : Int} : viaB E k a b = true ↔ Via E k a b := by unfold viaB; simp
/-- F up to place (r, c), G from there on -/
def mixS (F G : Int → Int → Bool) (r c : Int) (a b : Int) : Bool := if a < r ∨ a = r ∧ b < c then F a b else G a b
section
variable {on : List Bool} {rows width : Int} {F G : Int → Int → Bool}
theorem mix_zero (h : IsGrid on rows width G) : IsGrid on rows width (mixS F G 0 0) := h.congr fun a b a0 a1 b0 b1 => by
  unfold mixS; rw [if_neg (by omega)]
theorem mix_end (h : IsGrid on rows width (mixS F G rows 0)) : IsGrid on rows width F := h.congr fun a b a0 a1 b0 b1 => by
  unfold mixS; rw [if_pos (by omega)]
theorem mix_next {r : Int} (h : IsGrid on rows width (mixS F G r width)) : IsGrid on rows width (mixS F G (r + 1) 0) := h.congr fun a b a0 a1 b0 b1 => by
  unfold mixS
  by_cases e : a < r ∨ a = r ∧ b < width
  · rw [if_pos e, if_pos (by omega)]
  · rw [if_neg e, if_neg (by omega)]
theorem mix_stop {r c : Int} (h : IsGrid on rows width (mixS F G r c)) (hs : ∀ b, F r b = G r b) : IsGrid on rows width (mixS F G (r + 1) 0) := h.congr fun a b a0 a1 b0 b1 => by
  unfold mixS
  by_cases e : a < r ∨ a = r ∧ b < c
  · rw [if_pos e, if_pos (by omega)]
  · rw [if_neg e]
    by_cases e2 : a = r
    · rw [e2, if_pos (by omega), hs]
    · rw [if_neg (by omega)]
theorem mix_keep {r c : Int} (h : IsGrid on rows width (mixS F G r c)) (hs : F r c = G r c) : IsGrid on rows width (mixS F G r (c + 1)) := h.congr fun a b a0 a1 b0 b1 => by
  unfold mixS
  by_cases e2 : a = r ∧ b = c
  · rw [e2.1, e2.2, if_neg (by omega), if_pos (by omega), hs]
  · by_cases e : a < r ∨ a = r ∧ b < c
    · rw [if_pos e, if_pos (by omega)]
    · rw [if_neg e, if_neg (by omega)]
theorem mix_set {r c : Int} (h : IsGrid on rows width (mixS F G r c)) (h0 : 0 ≤ r) (h1 : r < rows) (h2 : 0 ≤ c) (h3 : c < width) {v : Bool} (hv : F r c = v) : IsGrid (on.set (r * width + c).toNat v) rows width (mixS F G r (c + 1)) := by
  refine h.set h0 h1 h2 h3 _ _ fun a b => ?_
  by_cases e2 : a = r ∧ b = c
  · rw [if_pos e2, ← hv, e2.1, e2.2]
    unfold mixS
    rw [if_pos (by omega)]
  · rw [if_neg e2]
    unfold mixS
    by_cases e : a < r ∨ a = r ∧ b < c
    · rw [if_pos e, if_pos (by omega)]
    · rw [if_neg e, if_neg (by omega)]
end
theorem atN_c {rows width r x : Int} {A : Option Addr} {c N : Nat} {on : List Bool} (w : World) (hN : on.length = N) (hA : Rds vb w A c on) (h2 : 0 ≤ width) (h3 : width ≤ 128) (hr0 : 0 ≤ r) (hr1 : r ≤ 128) (hx0 : 0 ≤ x) (hx1 : x ≤ 128) (hin : r * width + x < on.length) (b : Bool) (hb : gt on (r * width + x) = b) :
    Calls Try.prog 69 [.agg (gridC rows width A N c).toArray, vi r, vi x].toArray w (one (.bool b) w) := by
  subst hN
  exact at_c w hA h2 h3 hr0 hr1 hx0 hx1 hin b hb
structure WX where
  k : Int
  a : Int
  b : Int
  on : List Bool
theorem cnt_same {E : Int → Int → Bool} {v : Int} (h0 : 0 ≤ v) (hR : ¬ Root E v) : cnt E (v + 1).toNat = cnt E v.toNat := by
  rw [show (v + 1).toNat = v.toNat + 1 by omega]
  show cnt E v.toNat + _ = _
  rw [if_neg (by rw [show ((v.toNat : Nat) : Int) = v by omega]; exact hR)]
  rfl
structure KX where
  v : Int
  u : Int
  L : List Int
end Go.Proofs.Ytoiiellaoikojaa
