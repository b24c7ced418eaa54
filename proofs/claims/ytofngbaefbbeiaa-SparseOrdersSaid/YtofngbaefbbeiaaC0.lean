/- Plain: what hangs together; numbers of components. -/
import Derived.Test.YtofngbaefbbeiaaAl
set_option linter.unusedVariables false
set_option linter.unusedSimpArgs false
set_option maxHeartbeats 4000000
namespace Go.Proofs.Ytofngbaefbbeiaa
open Go.RowKit
inductive Way (E : Int → Int → Bool) : Int → Int → Prop
  | refl (a : Int) : Way E a a
  | step {a b c : Int} : Way E a b → E b c = true → Way E a c
section
variable {E : Int → Int → Bool} {n : Int}
theorem Way.one {a b : Int} (h : E a b = true) : Way E a b := .step (.refl a) h
theorem Way.trans {a b c : Int} (h1 : Way E a b) (h2 : Way E b c) : Way E a c := by
  induction h2 with
  | refl => exact h1
  | step _ h ih => exact .step ih h
/-- a relation on 0 .. n-1 -/
def On (n : Int) (E : Int → Int → Bool) : Prop := ∀ a b, E a b = true → 0 ≤ a ∧ a < n ∧ 0 ≤ b ∧ b < n
def Ev (E : Int → Int → Bool) : Prop := ∀ a b, E a b = true → E b a = true
theorem Way.symm (hs : Ev E) {a b : Int} (h : Way E a b) : Way E b a := by
  induction h with
  | refl => exact .refl _
  | step _ h ih => exact (Way.one (hs _ _ h)).trans ih
theorem Way.in_ (ho : On n E) {a b : Int} (h : Way E a b) (ha : 0 ≤ a ∧ a < n) : 0 ≤ b ∧ b < n := by
  induction h with
  | refl => exact ha
  | step _ h ih => have := ho _ _ h; omega
/-- none ahead of v hangs together with it -/
def Root (E : Int → Int → Bool) (v : Int) : Prop := ∀ u, 0 ≤ u → u < v → ¬ Way E u v
open Classical in
noncomputable def cnt (E : Int → Int → Bool) : Nat → Nat
  | 0 => 0
  | v + 1 => cnt E v + if Root E v then 1 else 0
theorem cnt_le (E : Int → Int → Bool) : ∀ v, cnt E v ≤ v
  | 0 => Nat.le_refl _
  | v + 1 => by
    have := cnt_le E v
    unfold cnt
    split <;> omega
theorem root_ex (E : Int → Int → Bool) : ∀ (m : Nat) (u : Int), 0 ≤ u → u ≤ m → ∃ r, 0 ≤ r ∧ r ≤ u ∧ Way E r u ∧ Root E r
  | 0, u, h0, h1 => by
    obtain rfl : u = 0 := by omega
    exact ⟨0, by omega, by omega, .refl _, fun v hv hv' => by omega⟩
  | m + 1, u, h0, h1 => by
    by_cases hr : Root E u
    · exact ⟨u, h0, by omega, .refl _, hr⟩
    · have : ∃ v, 0 ≤ v ∧ v < u ∧ Way E v u := by
        apply Classical.byContradiction
        intro hn
        exact hr fun v hv hv' hw => hn ⟨v, hv, hv', hw⟩
      obtain ⟨v, hv, hv', hw⟩ := this
      obtain ⟨r, h2, h3, h4, h5⟩ := root_ex E m v hv (by omega)
      exact ⟨r, h2, by omega, h4.trans hw, h5⟩
open Classical in
noncomputable def root (E : Int → Int → Bool) (u : Int) : Int := if h : ∃ r, 0 ≤ r ∧ r ≤ u ∧ Way E r u ∧ Root E r then h.choose else 0
theorem root_spec (E : Int → Int → Bool) {u : Int} (h0 : 0 ≤ u) : 0 ≤ root E u ∧ root E u ≤ u ∧ Way E (root E u) u ∧ Root E (root E u) := by
  have h := root_ex E u.toNat u h0 (by omega)
  unfold root
  rw [dif_pos h]
  exact h.choose_spec
theorem root_uniq (hs : Ev E) {u r : Int} (h0 : 0 ≤ u) (hr : 0 ≤ r) (hw : Way E r u) (hR : Root E r) : root E u = r := by
  obtain ⟨h1, h2, h3, h4⟩ := root_spec E h0
  have hc : Way E (root E u) r := h3.trans (hw.symm hs)
  by_cases e : root E u = r
  · exact e
  · by_cases hlt : root E u < r
    · exact (hR _ h1 hlt hc).elim
    · exact (h4 r hr (by omega) (hc.symm hs)).elim
theorem root_eq (hs : Ev E) {u v : Int} (h0 : 0 ≤ u) (h1 : 0 ≤ v) (hw : Way E u v) : root E u = root E v := by
  obtain ⟨a1, a2, a3, a4⟩ := root_spec E h0
  exact (root_uniq hs h1 a1 (a3.trans hw) a4).symm
noncomputable def lab (E : Int → Int → Bool) (u : Int) : Int := cnt E (root E u).toNat
theorem lab_nonneg (E : Int → Int → Bool) (u : Int) : 0 ≤ lab E u := by unfold lab; omega
theorem cnt_mono (E : Int → Int → Bool) {a : Nat} : ∀ {b : Nat}, a ≤ b → cnt E a ≤ cnt E b
  | 0, h => by rw [Nat.le_zero.1 h]; exact Nat.le_refl _
  | b + 1, h => by
    by_cases e : a = b + 1
    · rw [e]; exact Nat.le_refl _
    · have := cnt_mono E (show a ≤ b by omega)
      show cnt E a ≤ cnt E b + _
      omega
theorem cnt_lt {a b : Nat} (h : a < b) (hr : Root E a) : cnt E a < cnt E b := by
  have h1 := cnt_mono E (show a + 1 ≤ b from h)
  have : cnt E (a + 1) = cnt E a + 1 := by
    show cnt E a + _ = _
    rw [if_pos hr]
  omega
theorem lab_eq (hs : Ev E) {u v : Int} (h0 : 0 ≤ u) (h1 : 0 ≤ v) : lab E u = lab E v ↔ Way E u v := by
  obtain ⟨a1, a2, a3, a4⟩ := root_spec E h0
  obtain ⟨b1, b2, b3, b4⟩ := root_spec E h1
  constructor
  · intro h
    unfold lab at h
    have e : root E u = root E v := by
      by_cases e : root E u = root E v
      · exact e
      · have h4 : Root E ((root E u).toNat : Int) := by rw [show ((root E u).toNat : Int) = root E u by omega]; exact a4
        have h5 : Root E ((root E v).toNat : Int) := by rw [show ((root E v).toNat : Int) = root E v by omega]; exact b4
        by_cases hlt : root E u < root E v
        · have := cnt_lt (E := E) (show (root E u).toNat < (root E v).toNat by omega) h4; omega
        · have := cnt_lt (E := E) (show (root E v).toNat < (root E u).toNat by omega) h5; omega
    rw [e] at a3
    exact (a3.symm hs).trans b3
  · intro h
    unfold lab
    rw [root_eq hs h0 h1 h]
theorem lab_root {v : Int} (h0 : 0 ≤ v) (hs : Ev E) (hr : Root E v) : lab E v = cnt E v.toNat := by
  unfold lab
  rw [root_uniq hs h0 h0 (.refl v) hr]
/-- what is numbered when all ahead of v have been -/
noncomputable def labU (E : Int → Int → Bool) (v u : Int) : Int := if root E u < v then lab E u else -1
noncomputable def labL (E : Int → Int → Bool) (n : Nat) (v : Int) : List Int := (List.range n).map fun (u : Nat) => labU E v (u : Int)
noncomputable def compL (E : Int → Int → Bool) (n : Nat) : List Int := (List.range n).map fun (u : Nat) => lab E (u : Int)
theorem labL_len (n : Nat) (v : Int) : (labL E n v).length = n := by simp [labL]
theorem gt_range {f : Nat → Int} {n : Nat} {i : Int} (h0 : 0 ≤ i) (h1 : i < n) : gt ((List.range n).map f) i = f i.toNat := by
  rw [gt_elem h0 (by simpa using h1)]
  simp
theorem labL_at {n : Nat} {v i : Int} (h0 : 0 ≤ i) (h1 : i < n) : gt (labL E n v) i = labU E v i := by
  unfold labL
  rw [gt_range h0 h1, show ((i.toNat : Nat) : Int) = i by omega]
theorem compL_at {n : Nat} {i : Int} (h0 : 0 ≤ i) (h1 : i < n) : gt (compL E n) i = lab E i := by
  unfold compL
  rw [gt_range h0 h1, show ((i.toNat : Nat) : Int) = i by omega]
theorem ext_gt {xs ys : List Int} (hl : xs.length = ys.length) (h : ∀ i : Int, 0 ≤ i → i < xs.length → gt xs i = gt ys i) : xs = ys := by
  apply List.ext_getElem hl
  intro i h1 h2
  have := h i (by omega) (by omega)
  rw [gt_elem (by omega) (by omega), gt_elem (by omega) (by omega)] at this
  simpa using this
theorem labL_end {n : Nat} : labL E n n = compL E n := by
  refine ext_gt (by simp [labL, compL]) fun i h0 h1 => ?_
  rw [labL_len] at h1
  rw [labL_at h0 h1, compL_at h0 h1]
  unfold labU
  have := (root_spec E h0).2.1
  rw [if_pos (by omega)]
theorem labL_zero {n : Nat} : labL E n 0 = List.replicate n (-1) := by
  refine ext_gt (by simp [labL]) fun i h0 h1 => ?_
  rw [labL_len] at h1
  rw [labL_at h0 h1]
  unfold labU
  have := (root_spec E h0).1
  rw [if_neg (by omega), gt_elem h0 (by simpa using h1)]
  simp
/-- v is numbered already -/
theorem labL_skip (hs : Ev E) {n : Nat} {v : Int} (h0 : 0 ≤ v) (h1 : v < n) (h : 0 ≤ gt (labL E n v) v) : labL E n v = labL E n (v + 1) ∧ cnt E v.toNat = cnt E (v + 1).toNat := by
  rw [labL_at h0 h1] at h
  unfold labU at h
  have hr : ¬ Root E v := by
    intro hR
    rw [root_uniq hs h0 h0 (.refl v) hR, if_neg (by omega)] at h
    omega
  constructor
  · refine ext_gt (by simp [labL]) fun i i0 i1 => ?_
    rw [labL_len] at i1
    rw [labL_at i0 i1, labL_at i0 i1]
    unfold labU
    have hi := (root_spec E i0).2.2.2
    by_cases e : root E i = v
    · rw [e] at hi; exact (hr hi).elim
    · by_cases hlt : root E i < v
      · rw [if_pos hlt, if_pos (by omega)]
      · rw [if_neg hlt, if_neg (by omega)]
  · rw [show (v + 1).toNat = v.toNat + 1 by omega]
    show _ = cnt E v.toNat + _
    rw [if_neg (by rw [show ((v.toNat : Nat) : Int) = v by omega]; exact hr)]
    rfl
theorem gt_setZ {xs : List Int} {i j x : Int} (h0 : 0 ≤ i) (h1 : i < xs.length) (hj0 : 0 ≤ j) : gt (xs.set i.toNat x) j = if j = i then x else gt xs j := by
  unfold gt
  simp only [List.getD_eq_getElem?_getD, List.getElem?_set]
  by_cases h : j = i
  · subst h; rw [if_pos rfl, if_pos rfl, if_pos (by omega)]; rfl
  · rw [if_neg (by omega), if_neg h]
/-- how many are not numbered -/
def negs (l : List Int) : Nat := l.countP (fun x => decide (x < 0))
theorem negs_set {l : List Int} {i : Nat} {x : Int} (h : i < l.length) (h1 : l[i] < 0) (h2 : 0 ≤ x) : negs (l.set i x) + 1 = negs l := by
  have e : l.set i x = l.take i ++ (x :: l.drop (i + 1)) := List.set_eq_take_append_cons_drop.trans (if_pos h)
  have e2 : l = l.take i ++ (l[i] :: l.drop (i + 1)) := by simp
  have h3 : negs l = negs (l.take i) + (1 + negs (l.drop (i + 1))) := by
    conv => lhs; rw [e2]
    unfold negs
    rw [List.countP_append, List.countP_cons, if_pos (by simpa using h1)]
    omega
  rw [e, h3]
  unfold negs
  rw [List.countP_append, List.countP_cons, if_neg (by simp; omega)]
  omega
theorem negs_le (l : List Int) : negs l ≤ l.length := List.countP_le_length
/-- the flood from v: numbers L, still to be looked at S -/
structure Flood (E : Int → Int → Bool) (n : Nat) (v : Int) (L S : List Int) (skip : Int → Prop) : Prop where
  len : L.length = n
  val : ∀ u : Int, 0 ≤ u → u < n → gt L u = labU E v u ∨ (Way E v u ∧ gt L u = cnt E v.toNat)
  start : gt L v = cnt E v.toNat
  stk : ∀ s ∈ S, 0 ≤ s ∧ s < n ∧ Way E v s
  nb : ∀ u : Int, 0 ≤ u → u < n → Way E v u → 0 ≤ gt L u → u ∈ S ∨ skip u ∨ ∀ x, E u x = true → 0 ≤ gt L x
  small : S.length + negs L ≤ n
theorem Flood.begin_ {n : Nat} {v : Int} (hs : Ev E) (h0 : 0 ≤ v) (h1 : v < n) (h : ¬ 0 ≤ gt (labL E n v) v) : Root E v ∧ Flood E n v ((labL E n v).set v.toNat (cnt E v.toNat)) [v] (fun _ => False) := by
  have hg := labL_at (E := E) (v := v) h0 h1
  have hR : Root E v := by
    obtain ⟨a1, a2, a3, a4⟩ := root_spec E h0
    by_cases e : root E v = v
    · rw [e] at a4; exact a4
    · rw [hg] at h
      unfold labU at h
      rw [if_pos (by omega)] at h
      exact absurd (lab_nonneg E v) h
  have hll := labL_len (E := E) n v
  refine ⟨hR, ⟨by rw [List.length_set]; exact hll, fun u u0 u1 => ?_, ?_, fun s hs => ?_, fun u u0 u1 hw hg => ?_, ?_⟩⟩
  · rw [gt_setZ h0 (by omega) u0]
    by_cases e : u = v
    · rw [if_pos e, e]; exact .inr ⟨.refl v, rfl⟩
    · rw [if_neg e, labL_at u0 u1]; exact .inl rfl
  · rw [gt_setZ h0 (by omega) h0, if_pos rfl]
  · obtain rfl := List.mem_singleton.1 hs
    exact ⟨h0, h1, .refl _⟩
  · rw [gt_setZ h0 (by omega) u0] at hg
    by_cases e : u = v
    · exact .inl (by simp [e])
    · rw [if_neg e, labL_at u0 u1] at hg
      unfold labU at hg
      rw [root_uniq hs u0 h0 hw hR, if_neg (by omega)] at hg
      omega
  · have hlt : v.toNat < (labL E n v).length := by omega
    have := negs_set (x := cnt E v.toNat) hlt (by rw [gt_elem h0 (by omega)] at h; omega) (by omega)
    have h2 := negs_le (labL E n v)
    simp only [List.length_singleton]
    omega
theorem Flood.pop {n : Nat} {v a : Int} {L S : List Int} (h : Flood E n v L (S ++ [a]) (fun _ => False)) : Flood E n v L S (fun u => u = a) ∧ 0 ≤ a ∧ a < n ∧ Way E v a := by
  have hst := h.stk a (by simp)
  refine ⟨⟨h.len, h.val, h.start, fun s hs => h.stk s (by simp [hs]), fun u u0 u1 hw hg => ?_, by have := h.small; simp only [List.length_append, List.length_singleton] at this; omega⟩, hst⟩
  rcases h.nb u u0 u1 hw hg with hm | hm | hm
  · rcases List.mem_append.1 hm with hm | hm
    · exact .inl hm
    · exact .inr (.inl (List.mem_singleton.1 hm))
  · exact hm.elim
  · exact .inr (.inr hm)
theorem Flood.mark {n : Nat} {v a x : Int} {L S : List Int} {sk : Int → Prop} (h : Flood E n v L S sk) (hs : Ev E) (ho : On n E) (h0 : 0 ≤ v) (h1 : v < n) (ha : Way E v a) (hx : E a x = true) (hn : gt L x < 0) : Flood E n v (L.set x.toNat (cnt E v.toNat)) (S ++ [x]) sk := by
  obtain ⟨_, _, x0, x1⟩ := ho _ _ hx
  have hl := h.len
  have hne : x ≠ v := fun e => by rw [e, h.start] at hn; omega
  have mono : ∀ u, 0 ≤ u → 0 ≤ gt L u → 0 ≤ gt (L.set x.toNat (cnt E v.toNat : Int)) u := fun u u0 hu => by
    rw [gt_setZ x0 (by omega) u0]
    split
    · omega
    · exact hu
  refine ⟨by rw [List.length_set]; exact hl, fun u u0 u1 => ?_, ?_, fun s hs => ?_, fun u u0 u1 hw hg => ?_, ?_⟩
  · rw [gt_setZ x0 (by omega) u0]
    by_cases e : u = x
    · rw [if_pos e, e]; exact .inr ⟨.step ha hx, rfl⟩
    · rw [if_neg e]; exact h.val u u0 u1
  · rw [gt_setZ x0 (by omega) h0, if_neg (fun e => hne e.symm)]
    exact h.start
  · rcases List.mem_append.1 hs with hs | hs
    · exact h.stk s hs
    · obtain rfl := List.mem_singleton.1 hs
      exact ⟨x0, x1, .step ha hx⟩
  · by_cases e : u = x
    · exact .inl (by simp [e])
    · rw [gt_setZ x0 (by omega) u0, if_neg e] at hg
      rcases h.nb u u0 u1 hw hg with hm | hm | hm
      · exact .inl (by simp [hm])
      · exact .inr (.inl hm)
      · exact .inr (.inr fun y hy => mono y (ho _ _ hy).2.2.1 (hm y hy))
  · have hlt : x.toNat < L.length := by omega
    have := negs_set (x := cnt E v.toNat) hlt (by rw [gt_elem x0 (by omega)] at hn; exact hn) (by omega)
    have h2 := h.small
    simp only [List.length_append, List.length_singleton]
    omega
theorem Flood.mono_ {n : Nat} {v : Int} {L S : List Int} {sk sk' : Int → Prop} (h : Flood E n v L S sk) (hk : ∀ u, sk u → sk' u ∨ ∀ x, E u x = true → 0 ≤ gt L x) : Flood E n v L S sk' := by
  refine ⟨h.len, h.val, h.start, h.stk, fun u u0 u1 hw hg => ?_, h.small⟩
  rcases h.nb u u0 u1 hw hg with hm | hm | hm
  · exact .inl hm
  · rcases hk u hm with hm | hm
    · exact .inr (.inl hm)
    · exact .inr (.inr hm)
  · exact .inr (.inr hm)
theorem Flood.end_ {n : Nat} {v : Int} {L : List Int} (h : Flood E n v L [] (fun _ => False)) (hs : Ev E) (ho : On n E) (h0 : 0 ≤ v) (h1 : v < n) (hR : Root E v) : L = labL E n (v + 1) := by
  have all : ∀ u, Way E v u → 0 ≤ gt L u := fun u hw => by
    induction hw with
    | refl => rw [h.start]; omega
    | step hw he ih =>
      have hb := hw.in_ ho ⟨h0, h1⟩
      rcases h.nb _ hb.1 hb.2 hw ih with hm | hm | hm
      · simp at hm
      · exact hm.elim
      · exact hm _ he
  refine ext_gt (by rw [h.len, labL_len]) fun u u0 u1 => ?_
  rw [h.len] at u1
  rw [labL_at u0 u1]
  by_cases hw : Way E v u
  · have hr := root_uniq hs u0 h0 hw hR
    have hl : labU E (v + 1) u = cnt E v.toNat := by
      unfold labU lab
      rw [hr, if_pos (by omega)]
    rw [hl]
    rcases h.val u u0 u1 with hv | hv
    · have := all u hw
      rw [hv] at this
      unfold labU at this
      rw [hr, if_neg (by omega)] at this
      omega
    · exact hv.2
  · have hne : root E u ≠ v := fun e => hw (by rw [← e]; exact (root_spec E u0).2.2.1)
    rcases h.val u u0 u1 with hv | hv
    · rw [hv]
      unfold labU
      by_cases hlt : root E u < v
      · rw [if_pos hlt, if_pos (by omega)]
      · rw [if_neg hlt, if_neg (by omega)]
    · exact (hw hv.1).elim
theorem cnt_root {v : Int} (h0 : 0 ≤ v) (hR : Root E v) : cnt E (v + 1).toNat = cnt E v.toNat + 1 := by
  rw [show (v + 1).toNat = v.toNat + 1 by omega]
  show cnt E v.toNat + _ = _
  rw [if_pos (by rw [show ((v.toNat : Nat) : Int) = v by omega]; exact hR)]
end
end Go.Proofs.Ytofngbaefbbeiaa
