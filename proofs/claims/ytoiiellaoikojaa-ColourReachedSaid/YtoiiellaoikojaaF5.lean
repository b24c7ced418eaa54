/- Plain: greedy colours. -/
import Derived.Test.YtoiiellaoikojaaCA
set_option linter.unusedVariables false
set_option linter.unusedSimpArgs false
set_option maxHeartbeats 4000000
namespace Go.Proofs.Ytoiiellaoikojaa
open Go.RowKit
def rng (n : Nat) : List Int := (List.range n).map (fun i : Nat => (i : Int))
def anyI (n : Nat) (f : Int → Bool) : Bool := (rng n).any f
theorem mem_rng {n : Nat} {x : Int} : x ∈ rng n ↔ 0 ≤ x ∧ x < n := by
  unfold rng
  simp only [List.mem_map, List.mem_range]
  constructor
  · rintro ⟨i, hi, rfl⟩; omega
  · rintro ⟨h0, h1⟩; exact ⟨x.toNat, by omega, by omega⟩
theorem anyI_iff {n : Nat} {f : Int → Bool} : anyI n f = true ↔ ∃ x : Int, (0 ≤ x ∧ x < n) ∧ f x = true := by
  unfold anyI
  rw [List.any_eq_true]
  exact exists_congr fun x => by rw [mem_rng]
/-- a neighbour's colour -/
def badN (g : Int → Int → Bool) (n : Nat) (cs : List Int) (v c : Int) : Bool := anyI n fun u => g v u && gt cs u == c
/-- beside u, w has u's colour -/
def twinB (g : Int → Int → Bool) (n : Nat) (cs : List Int) (v u : Int) : Bool := anyI n fun w => g v w && (w != u && gt cs w == gt cs u)
/-- a colour that would make a path of four -/
def badS (g : Int → Int → Bool) (n : Nat) (cs : List Int) (v c : Int) : Bool := anyI n fun u => (g v u && decide (0 ≤ gt cs u)) && anyI n fun x => (g u x && (x != v && gt cs x == c)) && (twinB g n cs v u || twinB g n cs x u)
open Classical in
/-- a colour that would close a circle -/
noncomputable def badA (g : Int → Int → Bool) (n : Nat) (cs : List Int) (v c : Int) : Bool := decide (∃ u w : Int, g v u = true ∧ g v w = true ∧ w < u ∧ 0 ≤ gt cs u ∧ gt cs u ≠ c ∧ gt cs w = gt cs u ∧ Way (fun x y => g x y && (decide (gt cs y = c) || decide (gt cs y = gt cs u))) u w)
noncomputable def badB (kind : Int) (g : Int → Int → Bool) (n : Nat) (cs : List Int) (v c : Int) : Bool := badN g n cs v c || ((decide (kind = 4) && badS g n cs v c) || (decide (kind = 5) && badA g n cs v c))
def leastC (bad : Int → Bool) : Nat → Int → Int
  | 0, c => c
  | k + 1, c => if bad c then leastC bad k (c + 1) else c
theorem leastC_spec {bad : Int → Bool} : ∀ {k : Nat} {c c0 : Int}, c ≤ c0 → c0 < c + k → bad c0 = false → c ≤ leastC bad k c ∧ leastC bad k c ≤ c0 ∧ bad (leastC bad k c) = false ∧ ∀ d, c ≤ d → d < leastC bad k c → bad d = true
  | 0, c, c0, h0, h1, h2 => by omega
  | k + 1, c, c0, h0, h1, h2 => by
    unfold leastC
    cases hb : bad c with
    | false =>
      rw [if_neg (by simp)]
      exact ⟨Int.le_refl _, h0, hb, fun d d0 d1 => by omega⟩
    | true =>
      rw [if_pos rfl]
      have hne : c ≠ c0 := fun e => by rw [e, h2] at hb; cases hb
      obtain ⟨a1, a2, a3, a4⟩ := leastC_spec (bad := bad) (k := k) (c := c + 1) (c0 := c0) (by omega) (by omega) h2
      refine ⟨by omega, a2, a3, fun d d0 d1 => ?_⟩
      by_cases e : d = c
      · rw [e]; exact hb
      · exact a4 d (by omega) d1
/-- the first that is not bad is the least -/
theorem leastC_eq {bad : Int → Bool} {k : Nat} {c0 r : Int} (h0 : 0 ≤ c0) (h1 : c0 < k) (h2 : bad c0 = false) (r0 : 0 ≤ r) (hr : bad r = false) (hl : ∀ d, 0 ≤ d → d < r → bad d = true) : leastC bad k 0 = r := by
  obtain ⟨a1, a2, a3, a4⟩ := leastC_spec (bad := bad) (k := k) (c := 0) h0 (by omega) h2
  by_cases h : leastC bad k 0 < r
  · rw [hl _ a1 h] at a3; cases a3
  · by_cases h' : r < leastC bad k 0
    · rw [a4 r r0 h'] at hr; cases hr
    · omega
def greedyL (bad : List Int → Int → Int → Bool) (n : Nat) : List Int → List Int → List Int
  | [], cs => cs
  | v :: l, cs => greedyL bad n l (cs.set v.toNat (leastC (bad cs v) (n + 1) 0))
theorem greedyL_snoc (bad : List Int → Int → Int → Bool) (n : Nat) (v : Int) : ∀ (l cs : List Int), greedyL bad n (l ++ [v]) cs = (greedyL bad n l cs).set v.toNat (leastC (bad (greedyL bad n l cs) v) (n + 1) 0)
  | [], cs => rfl
  | u :: l, cs => greedyL_snoc bad n v l _
theorem cntQ_list : ∀ (l : List Int) (m : Nat), cntQ (fun c => c ∈ l) m ≤ l.length
  | [], m => by
    have : ∀ m, cntQ (fun c => c ∈ ([] : List Int)) m = 0 := by
      intro m
      induction m with
      | zero => rfl
      | succ m ih => unfold cntQ; rw [ih, if_neg (by simp)]
    rw [this]; simp
  | a :: l, m => by
    have h1 := cntQ_list l m
    have h2 : ∀ m, cntQ (fun c => c ∈ a :: l) m ≤ cntQ (fun c => c ∈ l) m + (if 0 ≤ a ∧ a < m then 1 else 0) := by
      intro m
      induction m with
      | zero => exact Nat.zero_le _
      | succ m ih =>
        unfold cntQ
        by_cases e : (m : Int) = a
        · rw [← e] at ih ⊢
          rw [if_neg (by omega)] at ih
          rw [if_pos (c := (m : Int) ∈ (m : Int) :: l) (by simp), if_pos (c := 0 ≤ (m : Int) ∧ _) (by omega)]
          omega
        · by_cases hm : (m : Int) ∈ l
          · rw [if_pos (by simp [hm]), if_pos hm]
            split at ih <;> split <;> omega
          · rw [if_neg (by simp [hm, e]), if_neg hm]
            split at ih <;> split <;> omega
    have h3 := h2 m
    rw [List.length_cons]
    split at h3 <;> omega
/-- among the first numbers one is not in a list -/
theorem fresh (l : List Int) : ∃ c : Int, 0 ≤ c ∧ c ≤ l.length ∧ c ∉ l := by
  apply Classical.byContradiction
  intro hn
  have h1 := cntQ_list l (l.length + 1)
  have h2 : cntQ (fun _ => True) (l.length + 1) ≤ cntQ (fun c => c ∈ l) (l.length + 1) := cntQ_le fun u u0 u1 _ => Classical.byContradiction fun h => hn ⟨u, u0, by omega, h⟩
  have h3 : ∀ m, cntQ (fun _ => True) m = m := by
    intro m
    induction m with
    | zero => rfl
    | succ m ih => unfold cntQ; rw [ih, if_pos trivial]
  rw [h3] at h2
  omega
/-- the colours when the things of l have theirs -/
structure GI (g : Int → Int → Bool) (n : Nat) (l cs : List Int) : Prop where
  len : cs.length = n
  small : l.length ≤ n
  on : ∀ u : Int, 0 ≤ u → u < n → u ∈ l → 0 ≤ gt cs u ∧ gt cs u < n
  off : ∀ u : Int, 0 ≤ u → u < n → u ∉ l → gt cs u = -1
  proper : ∀ u w : Int, g u w = true → 0 ≤ gt cs u → gt cs u ≠ gt cs w
section
variable {g : Int → Int → Bool} {n : Nat} {l cs : List Int} {v c : Int}
theorem GI.zero (hon : On n g) : GI g n [] (List.replicate n (-1)) := by
  have hr : ∀ i : Int, 0 ≤ i → i < n → gt (List.replicate n (-1)) i = -1 := fun i h0 h1 => by rw [gt_elem h0 (by simpa using h1)]; simp
  refine ⟨by simp, by simp, fun u _ _ h => by simp at h, fun u u0 u1 _ => hr u u0 u1, fun u w h h0 => ?_⟩
  have := hon _ _ h
  rw [hr u this.1 this.2.1] at h0
  omega
open Classical in
theorem GI.fresh (hon : On n g) (h : GI g n l cs) : ∃ c : Int, 0 ≤ c ∧ c ≤ l.length ∧ ∀ kind v, badB kind g n cs v c = false := by
  obtain ⟨c, c0, c1, hc⟩ := _root_.Go.Proofs.Ytoiiellaoikojaa.fresh (l.map (gt cs))
  rw [List.length_map] at c1
  have no : ∀ u : Int, 0 ≤ u → u < n → gt cs u ≠ c := fun u u0 u1 e => by
    by_cases hu : u ∈ l
    · exact hc (by rw [← e]; exact List.mem_map_of_mem hu)
    · have := h.off u u0 u1 hu; omega
  refine ⟨c, c0, c1, fun kind v => ?_⟩
  have hN : badN g n cs v c = false := by
    cases hb : badN g n cs v c with
    | false => rfl
    | true =>
      obtain ⟨u, hu, he⟩ := anyI_iff.1 hb
      rw [Bool.and_eq_true, beq_iff_eq] at he
      exact (no u hu.1 hu.2 he.2).elim
  have hS : badS g n cs v c = false := by
    cases hb : badS g n cs v c with
    | false => rfl
    | true =>
      obtain ⟨u, hu, he⟩ := anyI_iff.1 hb
      rw [Bool.and_eq_true] at he
      obtain ⟨x, hx, hxe⟩ := anyI_iff.1 he.2
      simp only [Bool.and_eq_true, beq_iff_eq] at hxe
      exact (no x hx.1 hx.2 hxe.1.2.2).elim
  have hA : badA g n cs v c = false := by
    unfold badA
    refine decide_eq_false ?_
    rintro ⟨u, w, h1, h2, hlt, hu, hne, hw, hway⟩
    cases hway with
    | refl => omega
    | @step b _ hb he =>
      rw [Bool.and_eq_true] at he
      have hbr := hon _ _ he.1
      have hcb : gt cs b = gt cs u := by
        cases hb with
        | refl => rfl
        | step _ he2 =>
          simp only [Bool.and_eq_true, Bool.or_eq_true, decide_eq_true_iff] at he2
          rcases he2.2 with h3 | h3
          · exact (no b hbr.1 hbr.2.1 h3).elim
          · exact h3
      exact h.proper b w he.1 (by omega) (by omega)
  unfold badB
  rw [hN, hS, hA]
  simp
theorem GI.next (hon : On n g) (hev : Ev g) (hirr : ∀ u, g u u = false) (h : GI g n l cs) (v0 : 0 ≤ v) (v1 : v < n) (hv : v ∉ l) (hl : l.length < n) (c0 : 0 ≤ c) (c1 : c < n) (hb : badN g n cs v c = false) : GI g n (l ++ [v]) (cs.set v.toNat c) := by
  have hlen := h.len
  have gs : ∀ u : Int, 0 ≤ u → gt (cs.set v.toNat c) u = if u = v then c else gt cs u := fun u u0 => gt_setI v0 (by omega) u0
  have nb : ∀ u : Int, g v u = true → gt cs u ≠ c := fun u hu e => by
    have hr := hon _ _ hu
    have : badN g n cs v c = true := anyI_iff.2 ⟨u, hr.2.2, by rw [hu, e]; simp⟩
    rw [hb] at this; cases this
  refine ⟨by rw [List.length_set]; exact hlen, by simp; omega, fun u u0 u1 hu => ?_, fun u u0 u1 hu => ?_, fun u w he hu => ?_⟩
  · rw [gs u u0]
    by_cases e : u = v
    · rw [if_pos e]; omega
    · rw [if_neg e]
      exact h.on u u0 u1 (by simpa [e] using hu)
  · have hne : u ≠ v := fun e => hu (by simp [e])
    rw [gs u u0, if_neg hne]
    exact h.off u u0 u1 (fun hm => hu (by simp [hm]))
  · obtain ⟨u0, u1, w0, w1⟩ := hon _ _ he
    rw [gs u u0] at hu ⊢
    rw [gs w w0]
    by_cases e : u = v
    · rw [if_pos e]
      by_cases e2 : w = v
      · rw [e, e2, hirr] at he; cases he
      · rw [if_neg e2]
        rw [e] at he
        exact fun h => nb w he h.symm
    · rw [if_neg e] at hu ⊢
      by_cases e2 : w = v
      · rw [if_pos e2]
        rw [e2] at he
        exact nb u (hev _ _ he)
      · rw [if_neg e2]
        exact h.proper u w he hu
end
end Go.Proofs.Ytoiiellaoikojaa
