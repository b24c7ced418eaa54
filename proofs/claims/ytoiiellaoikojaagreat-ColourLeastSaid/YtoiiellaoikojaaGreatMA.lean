/- Plain: how many are near. Walks: colours: Bound. Walks: colours: the reference's Bound. -/
import Derived.Test.YtoiiellaoikojaaGreatKC
set_option linter.unusedVariables false
set_option linter.unusedSimpArgs false
set_option maxHeartbeats 8000000
namespace Go.Proofs.YtoiiellaoikojaaGreat
open Go.RowKit
theorem cntQ_congr {Q R : Int → Prop} {n : Nat} (h : ∀ u : Int, 0 ≤ u → u < n → (Q u ↔ R u)) : cntQ Q n = cntQ R n :=
  Nat.le_antisymm (cntQ_le fun u u0 u1 => (h u u0 u1).1) (cntQ_le fun u u0 u1 => (h u u0 u1).2)
theorem cntQ_ins {Q Q' : Int → Prop} {a : Int} (a0 : 0 ≤ a) (hn : ¬ Q a) (h : ∀ x, Q' x ↔ Q x ∨ x = a) : ∀ n : Nat, cntQ Q' n = cntQ Q n + (if a < n then 1 else 0)
  | 0 => by rw [if_neg (by omega)]; rfl
  | n + 1 => by
    have ih := cntQ_ins a0 hn h n
    unfold cntQ
    rw [ih]
    by_cases e : (n : Int) = a
    · rw [if_neg (by omega), if_pos ((h _).2 (.inr e)), if_neg (by rw [e]; exact hn), if_pos (by omega)]
    · by_cases hq : Q n
      · rw [if_pos ((h _).2 (.inl hq)), if_pos hq]
        by_cases hlt : a < n
        · rw [if_pos hlt, if_pos (by omega)]; try omega
        · rw [if_neg hlt, if_neg (by omega)]; try omega
      · rw [if_neg (fun h2 => ((h _).1 h2).elim hq e), if_neg hq]
        by_cases hlt : a < n
        · rw [if_pos hlt, if_pos (by omega)]; try omega
        · rw [if_neg hlt, if_neg (by omega)]; try omega
theorem cntQ_succ (Q : Int → Prop) (i : Nat) : (Q i → cntQ Q (i + 1) = cntQ Q i + 1) ∧ (¬ Q i → cntQ Q (i + 1) = cntQ Q i) := by
  constructor
  · intro hq
    show cntQ Q i + _ = _
    rw [if_pos hq]
  · intro hq
    show cntQ Q i + _ = _
    rw [if_neg hq]
    rfl
/-- x stands ahead of place j, and is near what stands there -/
def NearP (kd : Int) (g : Int → Int → Bool) (l : List Int) (j x : Int) : Prop := (∃ i : Int, 0 ≤ i ∧ i < j ∧ gt l i = x) ∧ (g (gt l j) x = true ∨ ((kd = 4 ∨ kd = 5) ∧ ∃ m : Int, 0 ≤ m ∧ m < j ∧ g (gt l j) (gt l m) = true ∧ g (gt l m) x = true))
noncomputable def nearN (kd : Int) (g : Int → Int → Bool) (n : Nat) (l : List Int) (j : Int) : Nat := cntQ (NearP kd g l j) n
noncomputable def bndTo (kd : Int) (g : Int → Int → Bool) (n : Nat) (l : List Int) : Nat → Int
  | 0 => 0
  | j + 1 => max (bndTo kd g n l j) (nearN kd g n l j + 1)
theorem bndTo_rng (kd : Int) (g : Int → Int → Bool) (n : Nat) (l : List Int) : ∀ j, 0 ≤ bndTo kd g n l j ∧ bndTo kd g n l j ≤ n + 1
  | 0 => ⟨Int.le_refl _, by show (0 : Int) ≤ _; omega⟩
  | j + 1 => by
    have h1 := bndTo_rng kd g n l j
    have h2 := cntQ_max (NearP kd g l j) n
    show 0 ≤ max (bndTo kd g n l j) ((nearN kd g n l j : Int) + 1) ∧ max (bndTo kd g n l j) ((nearN kd g n l j : Int) + 1) ≤ n + 1
    unfold nearN
    omega
theorem bndTo_next {kd : Int} {g : Int → Int → Bool} {n : Nat} {l : List Int} {j : Int} (h : 0 ≤ j) : bndTo kd g n l (j + 1).toNat = max (bndTo kd g n l j.toNat) (nearN kd g n l j + 1) := by
  rw [show (j + 1).toNat = j.toNat + 1 by omega]
  show max (bndTo kd g n l j.toNat) ((nearN kd g n l (j.toNat : Int) : Int) + 1) = _
  rw [show ((j.toNat : Nat) : Int) = j by omega]
/-- counted along the order -/
theorem near_idx {kd : Int} {g : Int → Int → Bool} {n : Nat} {l : List Int} {j : Int} (ho : IsOrd l n) (j0 : 0 ≤ j) (j1 : j < n) : ∀ i : Nat, (i : Int) ≤ j →
    cntQ (fun q => NearP kd g l j (gt l q)) i = cntQ (fun x => (∃ q : Int, 0 ≤ q ∧ q < i ∧ gt l q = x) ∧ NearP kd g l j x) n
  | 0, h => by
    have : cntQ (fun x => (∃ q : Int, 0 ≤ q ∧ q < ((0 : Nat) : Int) ∧ gt l q = x) ∧ NearP kd g l j x) n = cntQ (fun _ => False) n := cntQ_congr fun u _ _ => ⟨fun ⟨⟨q, q0, q1, _⟩, _⟩ => by omega, fun h => h.elim⟩
    rw [this]
    have z : ∀ m, cntQ (fun _ => False) m = 0 := by
      intro m
      induction m with
      | zero => rfl
      | succ m ih => unfold cntQ; rw [ih, if_neg id]
    rw [z]; rfl
  | i + 1, h => by
    have ih := near_idx (kd := kd) (g := g) (l := l) ho j0 j1 i (by omega)
    have hi := ho.rng i (by omega) (by omega)
    have hsucc := cntQ_succ (fun q => NearP kd g l j (gt l q)) i
    have hnot : ¬ ((∃ q : Int, 0 ≤ q ∧ q < (i : Int) ∧ gt l q = gt l i) ∧ NearP kd g l j (gt l i)) := fun ⟨⟨q, q0, q1, e⟩, _⟩ => by
      have := ho.inj q i q0 (by omega) (by omega) (by omega) e
      omega
    by_cases hP : NearP kd g l j (gt l i)
    · rw [hsucc.1 hP, ih]
      have := cntQ_ins (Q := fun x => (∃ q : Int, 0 ≤ q ∧ q < (i : Int) ∧ gt l q = x) ∧ NearP kd g l j x) (Q' := fun x => (∃ q : Int, 0 ≤ q ∧ q < ((i + 1 : Nat) : Int) ∧ gt l q = x) ∧ NearP kd g l j x) hi.1 hnot (fun x => by
        constructor
        · rintro ⟨⟨q, q0, q1, e⟩, hx⟩
          by_cases e2 : q = i
          · rw [e2] at e; exact .inr e.symm
          · exact .inl ⟨⟨q, q0, by omega, e⟩, hx⟩
        · rintro (⟨⟨q, q0, q1, e⟩, hx⟩ | rfl)
          · exact ⟨⟨q, q0, by omega, e⟩, hx⟩
          · exact ⟨⟨i, by omega, by omega, rfl⟩, hP⟩) n
      rw [this, if_pos (by omega)]
    · rw [hsucc.2 hP, ih]
      refine cntQ_congr fun x _ _ => ⟨fun ⟨⟨q, q0, q1, e⟩, hx⟩ => ⟨⟨q, q0, by omega, e⟩, hx⟩, fun ⟨⟨q, q0, q1, e⟩, hx⟩ => ⟨⟨q, q0, ?_, e⟩, hx⟩⟩
      by_cases e2 : q = i
      · rw [e2] at e; rw [← e] at hx; exact (hP hx).elim
      · omega
theorem near_all {kd : Int} {g : Int → Int → Bool} {n : Nat} {l : List Int} {j : Int} (ho : IsOrd l n) (j0 : 0 ≤ j) (j1 : j < n) : cntQ (fun q => NearP kd g l j (gt l q)) j.toNat = nearN kd g n l j := by
  rw [near_idx ho j0 j1 j.toNat (by omega)]
  refine cntQ_congr fun x _ _ => ⟨fun h => h.2, fun h => ⟨?_, h⟩⟩
  obtain ⟨⟨q, q0, q1, e⟩, _⟩ := h
  exact ⟨q, q0, by omega, e⟩
theorem cntQ_next (Q : Int → Prop) {k : Int} (h : 0 ≤ k) : (Q k → cntQ Q (k + 1).toNat = cntQ Q k.toNat + 1) ∧ (¬ Q k → cntQ Q (k + 1).toNat = cntQ Q k.toNat) := by
  rw [show (k + 1).toNat = k.toNat + 1 by omega]
  constructor
  · intro hq
    show cntQ Q k.toNat + _ = _
    rw [if_pos (by rw [show ((k.toNat : Nat) : Int) = k by omega]; exact hq)]
  · intro hq
    show cntQ Q k.toNat + _ = _
    rw [if_neg (by rw [show ((k.toNat : Nat) : Int) = k by omega]; exact hq)]
    rfl
structure BlI (n : Nat) (L : List Bool) (S : Int → Prop) : Prop where
  len : L.length = n
  at_ : ∀ x : Int, 0 ≤ x → x < n → (gt L x = true ↔ S x)
theorem BlI.zero {n : Nat} : BlI n (List.replicate n false) (fun _ => False) := ⟨by simp, fun x x0 x1 => by rw [gt_elem x0 (by simpa using x1)]; simp⟩
theorem BlI.congr {n : Nat} {L : List Bool} {S S' : Int → Prop} (h : BlI n L S) (e : ∀ x : Int, 0 ≤ x → x < n → (S x ↔ S' x)) : BlI n L S' := ⟨h.len, fun x x0 x1 => (h.at_ x x0 x1).trans (e x x0 x1)⟩
theorem BlI.put {n : Nat} {L : List Bool} {S S' : Int → Prop} {a : Int} (h : BlI n L S) (a0 : 0 ≤ a) (a1 : a < n) (e : ∀ x : Int, 0 ≤ x → x < n → (S' x ↔ S x ∨ x = a)) : BlI n (L.set a.toNat true) S' := by
  have hl := h.len
  refine ⟨by rw [List.length_set]; exact hl, fun x x0 x1 => ?_⟩
  rw [gt_set a0 (by omega) x0, e x x0 x1]
  by_cases ex : x = a
  · rw [if_pos ex]; exact ⟨fun _ => .inr ex, fun _ => rfl⟩
  · rw [if_neg ex, h.at_ x x0 x1]; exact ⟨.inl, fun h => h.resolve_right ex⟩
/-- what the first i beside v make near -/
def nrTo (kd : Int) (g : Pat) (cah : List Bool) (v i x : Int) : Prop := ∃ q : Int, 0 ≤ q ∧ q < i ∧ gt cah (gt (rowL g v) q) = true ∧ (x = gt (rowL g v) q ∨ ((kd = 4 ∨ kd = 5) ∧ gt cah x = true ∧ hasB g (gt (rowL g v) q) x = true))
open Classical in
theorem nrTo_next {kd : Int} {g : Pat} {cah : List Bool} {v i x : Int} (h : 0 ≤ i) : nrTo kd g cah v (i + 1) x ↔ (if gt cah (gt (rowL g v) i) = true then (if kd = 4 ∨ kd = 5 then nrTo kd g cah v i x ∨ x = gt (rowL g v) i ∨ (gt cah x = true ∧ hasB g (gt (rowL g v) i) x = true) else nrTo kd g cah v i x ∨ x = gt (rowL g v) i) else nrTo kd g cah v i x) := by
  have old : nrTo kd g cah v i x → nrTo kd g cah v (i + 1) x := fun ⟨q, a, b, d⟩ => ⟨q, a, by omega, d⟩
  have cas : nrTo kd g cah v (i + 1) x → nrTo kd g cah v i x ∨ (gt cah (gt (rowL g v) i) = true ∧ (x = gt (rowL g v) i ∨ ((kd = 4 ∨ kd = 5) ∧ gt cah x = true ∧ hasB g (gt (rowL g v) i) x = true))) := fun ⟨q, a, b, d⟩ => by
    by_cases e : q = i
    · rw [e] at d; exact .inr d
    · exact .inl ⟨q, a, by omega, d⟩
  split
  · rename_i h1
    split
    · rename_i h2
      constructor
      · intro hx
        rcases cas hx with hx | ⟨_, hx | hx⟩
        · exact .inl hx
        · exact .inr (.inl hx)
        · exact .inr (.inr hx.2)
      · rintro (hx | hx | hx)
        · exact old hx
        · exact ⟨i, h, by omega, h1, .inl hx⟩
        · exact ⟨i, h, by omega, h1, .inr ⟨h2, hx⟩⟩
    · rename_i h2
      constructor
      · intro hx
        rcases cas hx with hx | ⟨_, hx | hx⟩
        · exact .inl hx
        · exact .inr hx
        · exact (h2 hx.1).elim
      · rintro (hx | hx)
        · exact old hx
        · exact ⟨i, h, by omega, h1, .inl hx⟩
  · rename_i h1
    constructor
    · intro hx
      rcases cas hx with hx | ⟨hx, _⟩
      · exact hx
      · exact (h1 hx).elim
    · exact old
structure BdX where
  k : Int
  NR : List Bool
structure BoX where
  k : Int
  most : Int
  ah : List Bool
section
variable {p g : Pat} {x : PA} {kd : Int} {A : Option Addr} {c n : Nat} {l : List Int} {R : TX → List Res} {yf : TX → PA}
end
open Classical in
noncomputable def nrB (kd : Int) (g : Int → Int → Bool) (l : List Int) (i j m : Int) : Bool := decide (g (gt l i) (gt l j) = true ∨ ((kd = 4 ∨ kd = 5) ∧ ∃ q : Int, 0 ≤ q ∧ q < m ∧ g (gt l i) (gt l q) = true ∧ g (gt l q) (gt l j) = true))
open Classical in
theorem nrB_zero (kd : Int) (g : Int → Int → Bool) (l : List Int) (i j : Int) : nrB kd g l i j 0 = g (gt l i) (gt l j) := by
  unfold nrB
  rw [Bool.eq_iff_iff, decide_eq_true_iff]
  exact ⟨fun h => h.elim id (fun ⟨_, q, a, b, _⟩ => by omega), .inl⟩
open Classical in
theorem nrB_next {kd : Int} {g : Int → Int → Bool} {l : List Int} {i j m : Int} (hk : kd = 4 ∨ kd = 5) (h : 0 ≤ m) : nrB kd g l i j (m + 1) = (nrB kd g l i j m || (g (gt l i) (gt l m) && g (gt l m) (gt l j))) := by
  rw [Bool.eq_iff_iff, Bool.or_eq_true, Bool.and_eq_true]
  unfold nrB
  rw [decide_eq_true_iff, decide_eq_true_iff]
  constructor
  · rintro (h1 | ⟨_, q, a, b, d⟩)
    · exact .inl (.inl h1)
    · by_cases e : q = m
      · rw [e] at d; exact .inr d
      · exact .inl (.inr ⟨hk, q, a, by omega, d⟩)
  · rintro ((h1 | ⟨_, q, a, b, d⟩) | d)
    · exact .inl h1
    · exact .inr ⟨hk, q, a, by omega, d⟩
    · exact .inr ⟨hk, m, h, by omega, d⟩
open Classical in
theorem nrB_not {kd : Int} {g : Int → Int → Bool} {l : List Int} {i j m : Int} (hk : ¬ (kd = 4 ∨ kd = 5)) : nrB kd g l i j m = nrB kd g l i j 0 := by
  unfold nrB
  refine decide_eq_decide.2 ?_
  exact ⟨fun h => h.elim .inl (fun h => (hk h.1).elim), fun h => h.elim .inl (fun h => (hk h.1).elim)⟩
open Classical in
theorem nrB_all {kd : Int} {g : Int → Int → Bool} {l : List Int} {i j : Int} (j0 : 0 ≤ j) (j1 : j < i) : nrB kd g l i j i = true ↔ NearP kd g l i (gt l j) := by
  unfold nrB NearP
  rw [decide_eq_true_iff]
  exact ⟨fun h => ⟨⟨j, j0, j1, rfl⟩, h⟩, fun h => h.2⟩
section
variable {p : Pat} {x : PA} {kd : Int} {A : Option Addr} {c n : Nat} {l : List Int}
end
end Go.Proofs.YtoiiellaoikojaaGreat
