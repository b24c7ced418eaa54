/- Walks: the reference: Shut. Walks: the reference: Build, Turn. -/
import Derived.Test.YtoiiellaoikojaaGreatTE
set_option linter.unusedVariables false
set_option linter.unusedSimpArgs false
set_option maxHeartbeats 8000000
namespace Go.Proofs.YtoiiellaoikojaaGreat
open Go.RowKit
structure SX where
  r : Nat
  c : Int
  As : Option Addr
  cs : Nat
  Ac : Option Addr
  cc : Nat
theorem IsGrid.congr {on : List Bool} {rows width : Int} {S S' : Int → Int → Bool} (h : IsGrid on rows width S) (e : ∀ r c : Int, 0 ≤ r → r < rows → 0 ≤ c → c < width → S r c = S' r c) : IsGrid on rows width S' :=
  ⟨h.len, fun r c a0 a1 a2 a3 => by rw [h.at_ r c a0 a1 a2 a3, e r c a0 a1 a2 a3]⟩
/-- a grid that is filled place by place -/
def fillS (F : Int → Int → Bool) (r c : Int) (a b : Int) : Bool := decide (a < r ∨ a = r ∧ b < c) && F a b
section
variable {on : List Bool} {rows width : Int} {F : Int → Int → Bool}
theorem fill_zero (h : IsGrid on rows width (fun _ _ => false)) : IsGrid on rows width (fillS F 0 0) := h.congr fun r c h0 _ h2 _ => by
  unfold fillS
  rw [decide_eq_false (by omega), Bool.false_and]
theorem fill_step {r c : Int} (h : IsGrid on rows width (fillS F r c)) (h0 : 0 ≤ r) (h1 : r < rows) (h2 : 0 ≤ c) (h3 : c < width) : IsGrid (on.set (r * width + c).toNat (F r c)) rows width (fillS F r (c + 1)) := by
  refine h.set h0 h1 h2 h3 _ _ fun a b => ?_
  unfold fillS
  by_cases e : a = r ∧ b = c
  · rw [if_pos e, e.1, e.2, decide_eq_true (by omega), Bool.true_and]
  · rw [if_neg e]
    congr 1
    exact decide_eq_decide.2 (by omega)
theorem fill_next {r : Int} (h : IsGrid on rows width (fillS F r width)) : IsGrid on rows width (fillS F (r + 1) 0) := h.congr fun a b _ _ h2 h3 => by
  unfold fillS
  congr 1
  exact decide_eq_decide.2 (by omega)
theorem fill_end (h : IsGrid on rows width (fillS F rows 0)) : IsGrid on rows width F := h.congr fun a b _ h1 _ _ => by
  unfold fillS
  rw [decide_eq_true (by omega), Bool.true_and]
end
structure BX where
  k : Int
  c : Int
  on : List Bool
section
variable {A B : Option Addr} {c d : Nat} {rs cs : List Int} {rows width : Int}
end
section
variable {p : Pat} {x : PA}
end
end Go.Proofs.YtoiiellaoikojaaGreat
