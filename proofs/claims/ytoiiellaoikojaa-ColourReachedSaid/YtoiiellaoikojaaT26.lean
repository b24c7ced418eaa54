/- Walks: orders. -/
import Derived.Test.YtoiiellaoikojaaTE
set_option linter.unusedVariables false
set_option linter.unusedSimpArgs false
set_option maxHeartbeats 8000000
namespace Go.Proofs.Ytoiiellaoikojaa
open Go.RowKit
section
variable {A : Option Addr} {c : Nat} {l : List Int} {n : Int}
structure RX where
  A : Option Addr
  c : Nat
  xs : List Int
theorem isOrder_c (w : World) (hA : Rds vi w A c l) (h0 : 0 ≤ n) (h1 : n ≤ 128) (g : Bool) (hg : g = true ↔ IsOrd l n) :
    Calls Try.prog 43 [.slice A l.length c, vi n].toArray w (one (.bool g) w) := by
  have oA := hA.old
  have lA := hA.len
  have hno : ¬ IsOrd l n → g = false := fun h => by cases g with | false => rfl | true => exact absurd (hg.1 rfl) h
  by_cases hlen : (l.length : Int) = n
  · refine calls_wc [] [] [.tmp 4] (fun _ => [.bool g]) Try.func43 rfl rfl (fun _ => rfl) Try.ntmps43 rfl (Own.nil w) rfl ?_
    refine gg ?_
    refine gmk vb false rfl rfl rfl rfl rfl rfl rfl rfl rfl rfl rfl h0 (Int.le_refl _) (by omega) (by omega) ?_
    intro b
    refine gg ?_
    refine glp (fun x : Int × List Bool => 0 ≤ x.1 ∧ x.1 ≤ n ∧ (x.2.length : Int) = n ∧ (∀ i, 0 ≤ i → i < x.1 → 0 ≤ gt l i ∧ gt l i < n) ∧ (∀ i j, 0 ≤ i → i < x.1 → 0 ≤ j → j < x.1 → gt l i = gt l j → i = j) ∧ ∀ y, 0 ≤ y → y < n → (gt x.2 y = true ↔ ∃ i, 0 ≤ i ∧ i < x.1 ∧ gt l i = y)) (fun x => [(0, .slice A l.length c), (1, vi n), (5, .slice (some ⟨b, 0, none⟩) n.toNat n.toNat), (6, vi x.1)]) (fun x => [osl TB vb (some ⟨b, 0, none⟩) n.toNat x.2]) (fun x => (n - x.1).toNat) (0, List.replicate n.toNat false) ⟨by simp, h0, by simp; omega, fun i a a' => by dsimp only at a'; omega, fun i j a a' => by dsimp only at a'; omega, fun y y0 y1 => by
      dsimp only
      constructor
      · intro h
        exfalso
        unfold gt at h
        simp only [List.getD_eq_getElem?_getD, List.getElem?_replicate] at h
        split at h <;> cases h
      · rintro ⟨i, i0, i1, _⟩; omega⟩ ?_
    rintro ⟨k, xs⟩ ⟨hk0, hk1, hxl, hr, hi, hx⟩
    dsimp only at hk0 hk1 hxl hr hi hx ⊢
    by_cases hk : k < n
    · by_cases g1 : gt l k < 0
      · obtain rfl := hno fun h => by have := h.rng k hk0 hk; omega
        refine gg ?_
        exact grt () trivial
      · by_cases g2 : n ≤ gt l k
        · obtain rfl := hno fun h => by have := h.rng k hk0 hk; omega
          refine gg ?_
          exact grt () trivial
        · cases g3 : gt xs (gt l k) with
          | true =>
            obtain rfl := hno fun h => by
              obtain ⟨i, i0, i1, i2⟩ := (hx _ (by omega) (by omega)).1 g3
              have := h.inj i k i0 (by omega) hk0 hk i2
              omega
            refine gg ?_
            rw [g3]
            refine gg ?_
            exact grt () trivial
          | false =>
            refine gg ?_
            rw [g3]
            refine gg ?_
            exact gnx (k + 1, xs.set (gt l k).toNat true) ⟨by dsimp only; omega, by dsimp only; omega, by dsimp only; rw [List.length_set]; exact hxl, fun i i0 i1 => by
              dsimp only at i1
              by_cases e : i < k
              · exact hr i i0 e
              · obtain rfl : i = k := by omega
                exact ⟨by omega, by omega⟩, fun i j i0 i1 j0 j1 e => by
              dsimp only at i1 j1
              have hnk : ∀ i, 0 ≤ i → i < k → gt l i ≠ gt l k := fun i i0 i1 e => by
                have := (hx _ (by omega) (by omega)).2 ⟨i, i0, i1, e⟩
                rw [g3] at this
                cases this
              by_cases ei : i < k
              · by_cases ej : j < k
                · exact hi i j i0 ei j0 ej e
                · obtain rfl : j = k := by omega
                  exact absurd e (hnk i i0 ei)
              · obtain rfl : i = k := by omega
                by_cases ej : j < i
                · exact absurd e.symm (hnk j j0 ej)
                · omega, fun y y0 y1 => by
              dsimp only
              rw [gt_set (by omega) (by omega) y0]
              by_cases e : y = gt l k
              · rw [if_pos e]
                exact ⟨fun _ => ⟨k, hk0, by omega, e.symm⟩, fun _ => rfl⟩
              · rw [if_neg e, hx y y0 y1]
                constructor
                · rintro ⟨i, i0, i1, i2⟩; exact ⟨i, i0, by omega, i2⟩
                · rintro ⟨i, i0, i1, i2⟩
                  refine ⟨i, i0, ?_, i2⟩
                  by_cases ei : i = k
                  · subst ei; exact absurd i2.symm e
                  · omega⟩ (by dsimp only; omega)
    · obtain rfl : k = n := by omega
      obtain rfl : g = true := hg.2 ⟨hlen, hr, hi⟩
      refine gg ?_
      exact grt () trivial
  · obtain rfl := hno fun h => hlen h.len
    refine calls_wc [] [] [.tmp 4] (fun _ => [.bool false]) Try.func43 rfl rfl (fun _ => rfl) Try.ntmps43 rfl (Own.nil w) rfl ?_
    refine gg ?_
    exact grt () trivial
end
end Go.Proofs.Ytoiiellaoikojaa
