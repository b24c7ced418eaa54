/- Plain: how many are near. -/
import Derived.Test.YtoiiellaoikojaaK9
set_option linter.unusedVariables false
set_option linter.unusedSimpArgs false
set_option maxHeartbeats 8000000
namespace Go.Proofs.Ytoiiellaoikojaa
open Go.RowKit
theorem cntQ_congr {Q R : Int → Prop} {n : Nat} (h : ∀ u : Int, 0 ≤ u → u < n → (Q u ↔ R u)) : cntQ Q n = cntQ R n :=
  Nat.le_antisymm (cntQ_le fun u u0 u1 => (h u u0 u1).1) (cntQ_le fun u u0 u1 => (h u u0 u1).2)
theorem cntQ_ins {Q Q' : Int → Prop} {a : Int} (a0 : 0 ≤ a) (hn : ¬ Q a) (h : ∀ x, Q' x ↔ Q x ∨ x = a) : ∀ n : Nat, cntQ Q' n = cntQ Q n + (if a < n then 1 else 0)
  | 0 => by rw [if_neg (by omega)]; rfl
  | n + 1 => by
    have ih := cntQ_ins a0 hn h n
    unfold cntQ
    rw [ih]
    by_cases e : (n : Int) = a
    · rw [if_neg (by omega), if_pos ((h _).2 (.inr e)), if_neg (by rw [e]; exact hn), if_pos (by omega)]
    · by_cases hq : Q n
      · rw [if_pos ((h _).2 (.inl hq)), if_pos hq]
        by_cases hlt : a < n
        · rw [if_pos hlt, if_pos (by omega)]; try omega
        · rw [if_neg hlt, if_neg (by omega)]; try omega
      · rw [if_neg (fun h2 => ((h _).1 h2).elim hq e), if_neg hq]
        by_cases hlt : a < n
        · rw [if_pos hlt, if_pos (by omega)]; try omega
        · rw [if_neg hlt, if_neg (by omega)]; try omega
theorem cntQ_succ (Q : Int → Prop) (i : Nat) : (Q i → cntQ Q (i + 1) = cntQ Q i + 1) ∧ (¬ Q i → cntQ Q (i + 1) = cntQ Q i) := by
  constructor
  · intro hq
    show cntQ Q i + _ = _
    rw [if_pos hq]
  · intro hq
    show cntQ Q i + _ = _
    rw [if_neg hq]
    rfl
/-- x stands ahead of place j, and is near what stands there -/
def NearP (kd : Int) (g : Int → Int → Bool) (l : List Int) (j x : Int) : Prop := (∃ i : Int, 0 ≤ i ∧ i < j ∧ gt l i = x) ∧ (g (gt l j) x = true ∨ ((kd = 4 ∨ kd = 5) ∧ ∃ m : Int, 0 ≤ m ∧ m < j ∧ g (gt l j) (gt l m) = true ∧ g (gt l m) x = true))
noncomputable def nearN (kd : Int) (g : Int → Int → Bool) (n : Nat) (l : List Int) (j : Int) : Nat := cntQ (NearP kd g l j) n
noncomputable def bndTo (kd : Int) (g : Int → Int → Bool) (n : Nat) (l : List Int) : Nat → Int
  | 0 => 0
  | j + 1 => max (bndTo kd g n l j) (nearN kd g n l j + 1)
theorem bndTo_rng (kd : Int) (g : Int → Int → Bool) (n : Nat) (l : List Int) : ∀ j, 0 ≤ bndTo kd g n l j ∧ bndTo kd g n l j ≤ n + 1
  | 0 => ⟨Int.le_refl _, by show (0 : Int) ≤ _; omega⟩
  | j + 1 => by
    have h1 := bndTo_rng kd g n l j
    have h2 := cntQ_max (NearP kd g l j) n
    show 0 ≤ max (bndTo kd g n l j) ((nearN kd g n l j : Int) + 1) ∧ max (bndTo kd g n l j) ((nearN kd g n l j : Int) + 1) ≤ n + 1
    unfold nearN
    omega
theorem bndTo_next {kd : Int} {g : Int → Int → Bool} {n : Nat} {l : List Int} {j : Int} (h : 0 ≤ j) : bndTo kd g n l (j + 1).toNat = max (bndTo kd g n l j.toNat) (nearN kd g n l j + 1) := by
  rw [show (j + 1).toNat = j.toNat + 1 by omega]
  show max (bndTo kd g n l j.toNat) ((nearN kd g n l (j.toNat : Int) : Int) + 1) = _
  rw [show ((j.toNat : Nat) : Int) = j by omega]
/-- counted along the order -/
theorem near_idx {kd : Int} {g : Int → Int → Bool} {n : Nat} {l : List Int} {j : Int} (ho : IsOrd l n) (j0 : 0 ≤ j) (j1 : j < n) : ∀ i : Nat, (i : Int) ≤ j →
    cntQ (fun q => NearP kd g l j (gt l q)) i = cntQ (fun x => (∃ q : Int, 0 ≤ q ∧ q < i ∧ gt l q = x) ∧ NearP kd g l j x) n
  | 0, h => by
    have : cntQ (fun x => (∃ q : Int, 0 ≤ q ∧ q < ((0 : Nat) : Int) ∧ gt l q = x) ∧ NearP kd g l j x) n = cntQ (fun _ => False) n := cntQ_congr fun u _ _ => ⟨fun ⟨⟨q, q0, q1, _⟩, _⟩ => by omega, fun h => h.elim⟩
    rw [this]
    have z : ∀ m, cntQ (fun _ => False) m = 0 := by
      intro m
      induction m with
      | zero => rfl
      | succ m ih => unfold cntQ; rw [ih, if_neg id]
    rw [z]; rfl
  | i + 1, h => by
    have ih := near_idx (kd := kd) (g := g) (l := l) ho j0 j1 i (by omega)
    have hi := ho.rng i (by omega) (by omega)
    have hsucc := cntQ_succ (fun q => NearP kd g l j (gt l q)) i
    have hnot : ¬ ((∃ q : Int, 0 ≤ q ∧ q < (i : Int) ∧ gt l q = gt l i) ∧ NearP kd g l j (gt l i)) := fun ⟨⟨q, q0, q1, e⟩, _⟩ => by
      have := ho.inj q i q0 (by omega) (by omega) (by omega) e
      omega
    by_cases hP : NearP kd g l j (gt l i)
    · rw [hsucc.1 hP, ih]
      have := cntQ_ins (Q := fun x => (∃ q : Int, 0 ≤ q ∧ q < (i : Int) ∧ gt l q = x) ∧ NearP kd g l j x) (Q' := fun x => (∃ q : Int, 0 ≤ q ∧ q < ((i + 1 : Nat) : Int) ∧ gt l q = x) ∧ NearP kd g l j x) hi.1 hnot (fun x => by
        constructor
        · rintro ⟨⟨q, q0, q1, e⟩, hx⟩
          by_cases e2 : q = i
          · rw [e2] at e; exact .inr e.symm
          · exact .inl ⟨⟨q, q0, by omega, e⟩, hx⟩
        · rintro (⟨⟨q, q0, q1, e⟩, hx⟩ | rfl)
          · exact ⟨⟨q, q0, by omega, e⟩, hx⟩
          · exact ⟨⟨i, by omega, by omega, rfl⟩, hP⟩) n
      rw [this, if_pos (by omega)]
    · rw [hsucc.2 hP, ih]
      refine cntQ_congr fun x _ _ => ⟨fun ⟨⟨q, q0, q1, e⟩, hx⟩ => ⟨⟨q, q0, by omega, e⟩, hx⟩, fun ⟨⟨q, q0, q1, e⟩, hx⟩ => ⟨⟨q, q0, ?_, e⟩, hx⟩⟩
      by_cases e2 : q = i
      · rw [e2] at e; rw [← e] at hx; exact (hP hx).elim
      · omega
theorem near_all {kd : Int} {g : Int → Int → Bool} {n : Nat} {l : List Int} {j : Int} (ho : IsOrd l n) (j0 : 0 ≤ j) (j1 : j < n) : cntQ (fun q => NearP kd g l j (gt l q)) j.toNat = nearN kd g n l j := by
  rw [near_idx ho j0 j1 j.toNat (by omega)]
  refine cntQ_congr fun x _ _ => ⟨fun h => h.2, fun h => ⟨?_, h⟩⟩
  obtain ⟨⟨q, q0, q1, e⟩, _⟩ := h
  exact ⟨q, q0, by omega, e⟩
theorem cntQ_next (Q : Int → Prop) {k : Int} (h : 0 ≤ k) : (Q k → cntQ Q (k + 1).toNat = cntQ Q k.toNat + 1) ∧ (¬ Q k → cntQ Q (k + 1).toNat = cntQ Q k.toNat) := by
  rw [show (k + 1).toNat = k.toNat + 1 by omega]
  constructor
  · intro hq
    show cntQ Q k.toNat + _ = _
    rw [if_pos (by rw [show ((k.toNat : Nat) : Int) = k by omega]; exact hq)]
  · intro hq
    show cntQ Q k.toNat + _ = _
    rw [if_neg (by rw [show ((k.toNat : Nat) : Int) = k by omega]; exact hq)]
    rfl
end Go.Proofs.Ytoiiellaoikojaa
