/- Plain: what hangs together; numbers of components. Plain: how blocks are numbered. Plain: patterns permuted, permuted back; their components. Plain: how many places lead out of a block to one without a number. -/
import Derived.Test.YtoiiellaoikojaaAB
set_option linter.unusedVariables false
set_option linter.unusedSimpArgs false
set_option maxHeartbeats 8000000
namespace Go.Proofs.Ytoiiellaoikojaa
open Go.RowKit
inductive Way (E : Int → Int → Bool) : Int → Int → Prop
  | refl (a : Int) : Way E a a
  | step {a b c : Int} : Way E a b → E b c = true → Way E a c
section
variable {E : Int → Int → Bool} {n : Int}
theorem Way.one {a b : Int} (h : E a b = true) : Way E a b := .step (.refl a) h
theorem Way.trans {a b c : Int} (h1 : Way E a b) (h2 : Way E b c) : Way E a c := by
  induction h2 with
  | refl => exact h1
  | step _ h ih => exact .step ih h
/-- a relation on 0 .. n-1 -/
def On (n : Int) (E : Int → Int → Bool) : Prop := ∀ a b, E a b = true → 0 ≤ a ∧ a < n ∧ 0 ≤ b ∧ b < n
def Ev (E : Int → Int → Bool) : Prop := ∀ a b, E a b = true → E b a = true
theorem Way.symm (hs : Ev E) {a b : Int} (h : Way E a b) : Way E b a := by
  induction h with
  | refl => exact .refl _
  | step _ h ih => exact (Way.one (hs _ _ h)).trans ih
theorem Way.in_ (ho : On n E) {a b : Int} (h : Way E a b) (ha : 0 ≤ a ∧ a < n) : 0 ≤ b ∧ b < n := by
  induction h with
  | refl => exact ha
  | step _ h ih => have := ho _ _ h; omega
/-- none ahead of v hangs together with it -/
def Root (E : Int → Int → Bool) (v : Int) : Prop := ∀ u, 0 ≤ u → u < v → ¬ Way E u v
open Classical in
noncomputable def cnt (E : Int → Int → Bool) : Nat → Nat
  | 0 => 0
  | v + 1 => cnt E v + if Root E v then 1 else 0
theorem cnt_le (E : Int → Int → Bool) : ∀ v, cnt E v ≤ v
  | 0 => Nat.le_refl _
  | v + 1 => by
    have := cnt_le E v
    unfold cnt
    split <;> omega
theorem root_ex (E : Int → Int → Bool) : ∀ (m : Nat) (u : Int), 0 ≤ u → u ≤ m → ∃ r, 0 ≤ r ∧ r ≤ u ∧ Way E r u ∧ Root E r
  | 0, u, h0, h1 => by
    obtain rfl : u = 0 := by omega
    exact ⟨0, by omega, by omega, .refl _, fun v hv hv' => by omega⟩
  | m + 1, u, h0, h1 => by
    by_cases hr : Root E u
    · exact ⟨u, h0, by omega, .refl _, hr⟩
    · have : ∃ v, 0 ≤ v ∧ v < u ∧ Way E v u := by
        apply Classical.byContradiction
        intro hn
        exact hr fun v hv hv' hw => hn ⟨v, hv, hv', hw⟩
      obtain ⟨v, hv, hv', hw⟩ := this
      obtain ⟨r, h2, h3, h4, h5⟩ := root_ex E m v hv (by omega)
      exact ⟨r, h2, by omega, h4.trans hw, h5⟩
open Classical in
noncomputable def root (E : Int → Int → Bool) (u : Int) : Int := if h : ∃ r, 0 ≤ r ∧ r ≤ u ∧ Way E r u ∧ Root E r then h.choose else 0
theorem root_spec (E : Int → Int → Bool) {u : Int} (h0 : 0 ≤ u) : 0 ≤ root E u ∧ root E u ≤ u ∧ Way E (root E u) u ∧ Root E (root E u) := by
  have h := root_ex E u.toNat u h0 (by omega)
  unfold root
  rw [dif_pos h]
  exact h.choose_spec
theorem root_uniq (hs : Ev E) {u r : Int} (h0 : 0 ≤ u) (hr : 0 ≤ r) (hw : Way E r u) (hR : Root E r) : root E u = r := by
  obtain ⟨h1, h2, h3, h4⟩ := root_spec E h0
  have hc : Way E (root E u) r := h3.trans (hw.symm hs)
  by_cases e : root E u = r
  · exact e
  · by_cases hlt : root E u < r
    · exact (hR _ h1 hlt hc).elim
    · exact (h4 r hr (by omega) (hc.symm hs)).elim
theorem root_eq (hs : Ev E) {u v : Int} (h0 : 0 ≤ u) (h1 : 0 ≤ v) (hw : Way E u v) : root E u = root E v := by
  obtain ⟨a1, a2, a3, a4⟩ := root_spec E h0
  exact (root_uniq hs h1 a1 (a3.trans hw) a4).symm
noncomputable def lab (E : Int → Int → Bool) (u : Int) : Int := cnt E (root E u).toNat
theorem lab_nonneg (E : Int → Int → Bool) (u : Int) : 0 ≤ lab E u := by unfold lab; omega
theorem cnt_mono (E : Int → Int → Bool) {a : Nat} : ∀ {b : Nat}, a ≤ b → cnt E a ≤ cnt E b
  | 0, h => by rw [Nat.le_zero.1 h]; exact Nat.le_refl _
  | b + 1, h => by
    by_cases e : a = b + 1
    · rw [e]; exact Nat.le_refl _
    · have := cnt_mono E (show a ≤ b by omega)
      show cnt E a ≤ cnt E b + _
      omega
theorem cnt_lt {a b : Nat} (h : a < b) (hr : Root E a) : cnt E a < cnt E b := by
  have h1 := cnt_mono E (show a + 1 ≤ b from h)
  have : cnt E (a + 1) = cnt E a + 1 := by
    show cnt E a + _ = _
    rw [if_pos hr]
  omega
theorem lab_eq (hs : Ev E) {u v : Int} (h0 : 0 ≤ u) (h1 : 0 ≤ v) : lab E u = lab E v ↔ Way E u v := by
  obtain ⟨a1, a2, a3, a4⟩ := root_spec E h0
  obtain ⟨b1, b2, b3, b4⟩ := root_spec E h1
  constructor
  · intro h
    unfold lab at h
    have e : root E u = root E v := by
      by_cases e : root E u = root E v
      · exact e
      · have h4 : Root E ((root E u).toNat : Int) := by rw [show ((root E u).toNat : Int) = root E u by omega]; exact a4
        have h5 : Root E ((root E v).toNat : Int) := by rw [show ((root E v).toNat : Int) = root E v by omega]; exact b4
        by_cases hlt : root E u < root E v
        · have := cnt_lt (E := E) (show (root E u).toNat < (root E v).toNat by omega) h4; omega
        · have := cnt_lt (E := E) (show (root E v).toNat < (root E u).toNat by omega) h5; omega
    rw [e] at a3
    exact (a3.symm hs).trans b3
  · intro h
    unfold lab
    rw [root_eq hs h0 h1 h]
theorem lab_root {v : Int} (h0 : 0 ≤ v) (hs : Ev E) (hr : Root E v) : lab E v = cnt E v.toNat := by
  unfold lab
  rw [root_uniq hs h0 h0 (.refl v) hr]
/-- what is numbered when all ahead of v have been -/
noncomputable def labU (E : Int → Int → Bool) (v u : Int) : Int := if root E u < v then lab E u else -1
noncomputable def labL (E : Int → Int → Bool) (n : Nat) (v : Int) : List Int := (List.range n).map fun (u : Nat) => labU E v (u : Int)
noncomputable def compL (E : Int → Int → Bool) (n : Nat) : List Int := (List.range n).map fun (u : Nat) => lab E (u : Int)
theorem labL_len (n : Nat) (v : Int) : (labL E n v).length = n := by simp [labL]
theorem gt_range {f : Nat → Int} {n : Nat} {i : Int} (h0 : 0 ≤ i) (h1 : i < n) : gt ((List.range n).map f) i = f i.toNat := by
  rw [gt_elem h0 (by simpa using h1)]
  simp
theorem labL_at {n : Nat} {v i : Int} (h0 : 0 ≤ i) (h1 : i < n) : gt (labL E n v) i = labU E v i := by
  unfold labL
  rw [gt_range h0 h1, show ((i.toNat : Nat) : Int) = i by omega]
theorem compL_at {n : Nat} {i : Int} (h0 : 0 ≤ i) (h1 : i < n) : gt (compL E n) i = lab E i := by
  unfold compL
  rw [gt_range h0 h1, show ((i.toNat : Nat) : Int) = i by omega]
theorem ext_gt {xs ys : List Int} (hl : xs.length = ys.length) (h : ∀ i : Int, 0 ≤ i → i < xs.length → gt xs i = gt ys i) : xs = ys := by
  apply List.ext_getElem hl
  intro i h1 h2
  have := h i (by omega) (by omega)
  rw [gt_elem (by omega) (by omega), gt_elem (by omega) (by omega)] at this
  simpa using this
theorem labL_end {n : Nat} : labL E n n = compL E n := by
  refine ext_gt (by simp [labL, compL]) fun i h0 h1 => ?_
  rw [labL_len] at h1
  rw [labL_at h0 h1, compL_at h0 h1]
  unfold labU
  have := (root_spec E h0).2.1
  rw [if_pos (by omega)]
theorem labL_zero {n : Nat} : labL E n 0 = List.replicate n (-1) := by
  refine ext_gt (by simp [labL]) fun i h0 h1 => ?_
  rw [labL_len] at h1
  rw [labL_at h0 h1]
  unfold labU
  have := (root_spec E h0).1
  rw [if_neg (by omega), gt_elem h0 (by simpa using h1)]
  simp
/-- v is numbered already -/
theorem labL_skip (hs : Ev E) {n : Nat} {v : Int} (h0 : 0 ≤ v) (h1 : v < n) (h : 0 ≤ gt (labL E n v) v) : labL E n v = labL E n (v + 1) ∧ cnt E v.toNat = cnt E (v + 1).toNat := by
  rw [labL_at h0 h1] at h
  unfold labU at h
  have hr : ¬ Root E v := by
    intro hR
    rw [root_uniq hs h0 h0 (.refl v) hR, if_neg (by omega)] at h
    omega
  constructor
  · refine ext_gt (by simp [labL]) fun i i0 i1 => ?_
    rw [labL_len] at i1
    rw [labL_at i0 i1, labL_at i0 i1]
    unfold labU
    have hi := (root_spec E i0).2.2.2
    by_cases e : root E i = v
    · rw [e] at hi; exact (hr hi).elim
    · by_cases hlt : root E i < v
      · rw [if_pos hlt, if_pos (by omega)]
      · rw [if_neg hlt, if_neg (by omega)]
  · rw [show (v + 1).toNat = v.toNat + 1 by omega]
    show _ = cnt E v.toNat + _
    rw [if_neg (by rw [show ((v.toNat : Nat) : Int) = v by omega]; exact hr)]
    rfl
theorem gt_setZ {xs : List Int} {i j x : Int} (h0 : 0 ≤ i) (h1 : i < xs.length) (hj0 : 0 ≤ j) : gt (xs.set i.toNat x) j = if j = i then x else gt xs j := by
  unfold gt
  simp only [List.getD_eq_getElem?_getD, List.getElem?_set]
  by_cases h : j = i
  · subst h; rw [if_pos rfl, if_pos rfl, if_pos (by omega)]; rfl
  · rw [if_neg (by omega), if_neg h]
/-- how many are not numbered -/
def negs (l : List Int) : Nat := l.countP (fun x => decide (x < 0))
theorem negs_set {l : List Int} {i : Nat} {x : Int} (h : i < l.length) (h1 : l[i] < 0) (h2 : 0 ≤ x) : negs (l.set i x) + 1 = negs l := by
  have e : l.set i x = l.take i ++ (x :: l.drop (i + 1)) := List.set_eq_take_append_cons_drop.trans (if_pos h)
  have e2 : l = l.take i ++ (l[i] :: l.drop (i + 1)) := by simp
  have h3 : negs l = negs (l.take i) + (1 + negs (l.drop (i + 1))) := by
    conv => lhs; rw [e2]
    unfold negs
    rw [List.countP_append, List.countP_cons, if_pos (by simpa using h1)]
    omega
  rw [e, h3]
  unfold negs
  rw [List.countP_append, List.countP_cons, if_neg (by simp; omega)]
  omega
theorem negs_le (l : List Int) : negs l ≤ l.length := List.countP_le_length
/-- the flood from v: numbers L, still to be looked at S -/
structure Flood (E : Int → Int → Bool) (n : Nat) (v : Int) (L S : List Int) (skip : Int → Prop) : Prop where
  len : L.length = n
  val : ∀ u : Int, 0 ≤ u → u < n → gt L u = labU E v u ∨ (Way E v u ∧ gt L u = cnt E v.toNat)
  start : gt L v = cnt E v.toNat
  stk : ∀ s ∈ S, 0 ≤ s ∧ s < n ∧ Way E v s
  nb : ∀ u : Int, 0 ≤ u → u < n → Way E v u → 0 ≤ gt L u → u ∈ S ∨ skip u ∨ ∀ x, E u x = true → 0 ≤ gt L x
  small : S.length + negs L ≤ n
theorem Flood.begin_ {n : Nat} {v : Int} (hs : Ev E) (h0 : 0 ≤ v) (h1 : v < n) (h : ¬ 0 ≤ gt (labL E n v) v) : Root E v ∧ Flood E n v ((labL E n v).set v.toNat (cnt E v.toNat)) [v] (fun _ => False) := by
  have hg := labL_at (E := E) (v := v) h0 h1
  have hR : Root E v := by
    obtain ⟨a1, a2, a3, a4⟩ := root_spec E h0
    by_cases e : root E v = v
    · rw [e] at a4; exact a4
    · rw [hg] at h
      unfold labU at h
      rw [if_pos (by omega)] at h
      exact absurd (lab_nonneg E v) h
  have hll := labL_len (E := E) n v
  refine ⟨hR, ⟨by rw [List.length_set]; exact hll, fun u u0 u1 => ?_, ?_, fun s hs => ?_, fun u u0 u1 hw hg => ?_, ?_⟩⟩
  · rw [gt_setZ h0 (by omega) u0]
    by_cases e : u = v
    · rw [if_pos e, e]; exact .inr ⟨.refl v, rfl⟩
    · rw [if_neg e, labL_at u0 u1]; exact .inl rfl
  · rw [gt_setZ h0 (by omega) h0, if_pos rfl]
  · obtain rfl := List.mem_singleton.1 hs
    exact ⟨h0, h1, .refl _⟩
  · rw [gt_setZ h0 (by omega) u0] at hg
    by_cases e : u = v
    · exact .inl (by simp [e])
    · rw [if_neg e, labL_at u0 u1] at hg
      unfold labU at hg
      rw [root_uniq hs u0 h0 hw hR, if_neg (by omega)] at hg
      omega
  · have hlt : v.toNat < (labL E n v).length := by omega
    have := negs_set (x := cnt E v.toNat) hlt (by rw [gt_elem h0 (by omega)] at h; omega) (by omega)
    have h2 := negs_le (labL E n v)
    simp only [List.length_singleton]
    omega
theorem Flood.pop {n : Nat} {v a : Int} {L S : List Int} (h : Flood E n v L (S ++ [a]) (fun _ => False)) : Flood E n v L S (fun u => u = a) ∧ 0 ≤ a ∧ a < n ∧ Way E v a := by
  have hst := h.stk a (by simp)
  refine ⟨⟨h.len, h.val, h.start, fun s hs => h.stk s (by simp [hs]), fun u u0 u1 hw hg => ?_, by have := h.small; simp only [List.length_append, List.length_singleton] at this; omega⟩, hst⟩
  rcases h.nb u u0 u1 hw hg with hm | hm | hm
  · rcases List.mem_append.1 hm with hm | hm
    · exact .inl hm
    · exact .inr (.inl (List.mem_singleton.1 hm))
  · exact hm.elim
  · exact .inr (.inr hm)
theorem Flood.mark {n : Nat} {v a x : Int} {L S : List Int} {sk : Int → Prop} (h : Flood E n v L S sk) (hs : Ev E) (ho : On n E) (h0 : 0 ≤ v) (h1 : v < n) (ha : Way E v a) (hx : E a x = true) (hn : gt L x < 0) : Flood E n v (L.set x.toNat (cnt E v.toNat)) (S ++ [x]) sk := by
  obtain ⟨_, _, x0, x1⟩ := ho _ _ hx
  have hl := h.len
  have hne : x ≠ v := fun e => by rw [e, h.start] at hn; omega
  have mono : ∀ u, 0 ≤ u → 0 ≤ gt L u → 0 ≤ gt (L.set x.toNat (cnt E v.toNat : Int)) u := fun u u0 hu => by
    rw [gt_setZ x0 (by omega) u0]
    split
    · omega
    · exact hu
  refine ⟨by rw [List.length_set]; exact hl, fun u u0 u1 => ?_, ?_, fun s hs => ?_, fun u u0 u1 hw hg => ?_, ?_⟩
  · rw [gt_setZ x0 (by omega) u0]
    by_cases e : u = x
    · rw [if_pos e, e]; exact .inr ⟨.step ha hx, rfl⟩
    · rw [if_neg e]; exact h.val u u0 u1
  · rw [gt_setZ x0 (by omega) h0, if_neg (fun e => hne e.symm)]
    exact h.start
  · rcases List.mem_append.1 hs with hs | hs
    · exact h.stk s hs
    · obtain rfl := List.mem_singleton.1 hs
      exact ⟨x0, x1, .step ha hx⟩
  · by_cases e : u = x
    · exact .inl (by simp [e])
    · rw [gt_setZ x0 (by omega) u0, if_neg e] at hg
      rcases h.nb u u0 u1 hw hg with hm | hm | hm
      · exact .inl (by simp [hm])
      · exact .inr (.inl hm)
      · exact .inr (.inr fun y hy => mono y (ho _ _ hy).2.2.1 (hm y hy))
  · have hlt : x.toNat < L.length := by omega
    have := negs_set (x := cnt E v.toNat) hlt (by rw [gt_elem x0 (by omega)] at hn; exact hn) (by omega)
    have h2 := h.small
    simp only [List.length_append, List.length_singleton]
    omega
theorem Flood.mono_ {n : Nat} {v : Int} {L S : List Int} {sk sk' : Int → Prop} (h : Flood E n v L S sk) (hk : ∀ u, sk u → sk' u ∨ ∀ x, E u x = true → 0 ≤ gt L x) : Flood E n v L S sk' := by
  refine ⟨h.len, h.val, h.start, h.stk, fun u u0 u1 hw hg => ?_, h.small⟩
  rcases h.nb u u0 u1 hw hg with hm | hm | hm
  · exact .inl hm
  · rcases hk u hm with hm | hm
    · exact .inr (.inl hm)
    · exact .inr (.inr hm)
  · exact .inr (.inr hm)
theorem Flood.end_ {n : Nat} {v : Int} {L : List Int} (h : Flood E n v L [] (fun _ => False)) (hs : Ev E) (ho : On n E) (h0 : 0 ≤ v) (h1 : v < n) (hR : Root E v) : L = labL E n (v + 1) := by
  have all : ∀ u, Way E v u → 0 ≤ gt L u := fun u hw => by
    induction hw with
    | refl => rw [h.start]; omega
    | step hw he ih =>
      have hb := hw.in_ ho ⟨h0, h1⟩
      rcases h.nb _ hb.1 hb.2 hw ih with hm | hm | hm
      · simp at hm
      · exact hm.elim
      · exact hm _ he
  refine ext_gt (by rw [h.len, labL_len]) fun u u0 u1 => ?_
  rw [h.len] at u1
  rw [labL_at u0 u1]
  by_cases hw : Way E v u
  · have hr := root_uniq hs u0 h0 hw hR
    have hl : labU E (v + 1) u = cnt E v.toNat := by
      unfold labU lab
      rw [hr, if_pos (by omega)]
    rw [hl]
    rcases h.val u u0 u1 with hv | hv
    · have := all u hw
      rw [hv] at this
      unfold labU at this
      rw [hr, if_neg (by omega)] at this
      omega
    · exact hv.2
  · have hne : root E u ≠ v := fun e => hw (by rw [← e]; exact (root_spec E u0).2.2.1)
    rcases h.val u u0 u1 with hv | hv
    · rw [hv]
      unfold labU
      by_cases hlt : root E u < v
      · rw [if_pos hlt, if_pos (by omega)]
      · rw [if_neg hlt, if_neg (by omega)]
    · exact (hw hv.1).elim
theorem cnt_root {v : Int} (h0 : 0 ≤ v) (hR : Root E v) : cnt E (v + 1).toNat = cnt E v.toNat + 1 := by
  rw [show (v + 1).toNat = v.toNat + 1 by omega]
  show cnt E v.toNat + _ = _
  rw [if_pos (by rw [show ((v.toNat : Nat) : Int) = v by omega]; exact hR)]
end
open Classical in
noncomputable def cntQ (Q : Int → Prop) : Nat → Nat
  | 0 => 0
  | v + 1 => cntQ Q v + if Q v then 1 else 0
theorem cntQ_max (Q : Int → Prop) : ∀ v, cntQ Q v ≤ v
  | 0 => Nat.le_refl _
  | v + 1 => by
    have := cntQ_max Q v
    unfold cntQ
    split <;> omega
theorem cntQ_le {Q R : Int → Prop} : ∀ {v : Nat}, (∀ u : Int, 0 ≤ u → u < v → Q u → R u) → cntQ Q v ≤ cntQ R v
  | 0, h => Nat.le_refl _
  | v + 1, h => by
    have h1 := cntQ_le (v := v) (fun u u0 u1 => h u u0 (by omega))
    have h2 := h v (by omega) (by omega)
    unfold cntQ
    by_cases hq : Q v
    · rw [if_pos hq, if_pos (h2 hq)]; omega
    · rw [if_neg hq]; omega
theorem cntQ_lt {Q R : Int → Prop} : ∀ {v : Nat}, (∀ u : Int, 0 ≤ u → u < v → Q u → R u) → ∀ {a : Int}, 0 ≤ a → a < v → ¬ Q a → R a → cntQ Q v < cntQ R v
  | 0, h, a, a0, a1, _, _ => by omega
  | v + 1, h, a, a0, a1, hq, hr => by
    have h2 := h v (by omega) (by omega)
    by_cases e : a = v
    · have h1 := cntQ_le (v := v) (fun u u0 u1 => h u u0 (by omega))
      unfold cntQ
      rw [← e, if_neg hq, if_pos hr]
      omega
    · have h1 := cntQ_lt (v := v) (fun u u0 u1 => h u u0 (by omega)) a0 (by omega) hq hr
      unfold cntQ
      by_cases hq : Q v
      · rw [if_pos hq, if_pos (h2 hq)]; omega
      · rw [if_neg hq]; omega
theorem cntQ_full {Q : Int → Prop} : ∀ {v : Nat}, v ≤ cntQ Q v → ∀ u : Int, 0 ≤ u → u < v → Q u
  | 0, h, u, u0, u1 => by omega
  | v + 1, h, u, u0, u1 => by
    have h1 := cntQ_max Q v
    unfold cntQ at h
    by_cases hq : Q v
    · rw [if_pos hq] at h
      by_cases e : u = v
      · rw [e]; exact hq
      · exact cntQ_full (v := v) (by omega) u u0 (by omega)
    · rw [if_neg hq] at h; omega
theorem least_of {P : Int → Prop} : ∀ (m : Nat) (u : Int), 0 ≤ u → u ≤ m → P u → ∃ v, 0 ≤ v ∧ v ≤ u ∧ P v ∧ ∀ w, 0 ≤ w → w < v → ¬ P w
  | 0, u, u0, u1, h => ⟨u, u0, by omega, h, fun w w0 w1 => by omega⟩
  | m + 1, u, u0, u1, h => by
    by_cases hx : ∃ w, 0 ≤ w ∧ w < u ∧ P w
    · obtain ⟨w, w0, w1, hw⟩ := hx
      obtain ⟨v, v0, v1, hv, hl⟩ := least_of m w w0 (by omega) hw
      exact ⟨v, v0, by omega, hv, hl⟩
    · exact ⟨u, u0, by omega, h, fun w w0 w1 hw => hx ⟨w, w0, w1, hw⟩⟩
/-- ways both ways -/
def Same (E : Int → Int → Bool) (u v : Int) : Prop := Way E u v ∧ Way E v u
section
variable {E : Int → Int → Bool} {n : Nat} {f g : Int → Int} {k k' : Nat} {u v w : Int}
theorem Same.refl (E : Int → Int → Bool) (u : Int) : Same E u u := ⟨.refl _, .refl _⟩
theorem Same.symm (h : Same E u v) : Same E v u := ⟨h.2, h.1⟩
theorem Same.trans (h : Same E u v) (h2 : Same E v w) : Same E u w := ⟨h.1.trans h2.1, h2.2.trans h.2⟩
/-- v's block may come next: f the numbers so far -/
def Ready (E : Int → Int → Bool) (f : Int → Int) (v : Int) : Prop := ∀ r c : Int, Same E v r → E r c = true → f c < 0 → Same E v c
structure Pick (E : Int → Int → Bool) (n : Nat) (f : Int → Int) (v : Int) : Prop where
  lo : 0 ≤ v
  hi : v < n
  neg : f v < 0
  rdy : Ready E f v
  least : ∀ u : Int, 0 ≤ u → u < v → ¬ (f u < 0 ∧ Ready E f u)
inductive Nums (E : Int → Int → Bool) (n : Nat) : Nat → (Int → Int) → Prop
  | zero {f : Int → Int} (h : ∀ u : Int, 0 ≤ u → u < n → f u = -1) : Nums E n 0 f
  | next {k : Nat} {f g : Int → Int} {v : Int} (h : Nums E n k f) (hp : Pick E n f v) (hg : ∀ u : Int, 0 ≤ u → u < n → (Same E v u → g u = k) ∧ (¬ Same E v u → g u = f u)) : Nums E n (k + 1) g
def AlikeN (n : Nat) (f g : Int → Int) : Prop := ∀ u : Int, 0 ≤ u → u < n → f u = g u
def AllN (n : Nat) (f : Int → Int) : Prop := ∀ u : Int, 0 ≤ u → u < n → 0 ≤ f u
theorem Ready.alike (ho : On n E) (ha : AlikeN n f g) (h : Ready E f v) : Ready E g v := fun r c hs he hc => h r c hs he (by
  have := ho r c he
  rw [ha c this.2.2.1 this.2.2.2]; exact hc)
theorem AlikeN.symm (h : AlikeN n f g) : AlikeN n g f := fun u u0 u1 => (h u u0 u1).symm
theorem Pick.uniq (ho : On n E) (ha : AlikeN n f g) (h : Pick E n f v) (h2 : Pick E n g w) : v = w := by
  by_cases h3 : v < w
  · exact (h2.least v h.lo h3 ⟨by rw [← ha v h.lo h.hi]; exact h.neg, h.rdy.alike ho ha⟩).elim
  · by_cases h4 : w < v
    · exact (h.least w h2.lo h4 ⟨by rw [ha w h2.lo h2.hi]; exact h2.neg, h2.rdy.alike ho ha.symm⟩).elim
    · omega
theorem Nums.uniq (ho : On n E) : ∀ {k : Nat} {f g : Int → Int}, Nums E n k f → Nums E n k g → AlikeN n f g
  | 0, f, g, .zero h, .zero h2 => fun u u0 u1 => by rw [h u u0 u1, h2 u u0 u1]
  | k + 1, f, g, .next (f := f1) (v := v) h hp hg, .next (f := f2) (v := w) h2 hp2 hg2 => by
    have ha := Nums.uniq ho h h2
    obtain rfl := hp.uniq ho ha hp2
    intro u u0 u1
    by_cases hs : Same E v u
    · rw [(hg u u0 u1).1 hs, (hg2 u u0 u1).1 hs]
    · rw [(hg u u0 u1).2 hs, (hg2 u u0 u1).2 hs, ha u u0 u1]
theorem Nums.stop (ho : On n E) (h : Nums E n k f) (hd : AllN n f) : ∀ {k' : Nat} {g : Int → Int}, Nums E n k' g → k ≤ k' → k = k' ∧ AlikeN n f g
  | k', g, h2, hle => by
    by_cases e : k = k'
    · subst e; exact ⟨rfl, h.uniq ho h2⟩
    · cases h2 with
      | zero h3 => omega
      | next h3 hp hg =>
        obtain ⟨e, ha⟩ := Nums.stop ho h hd h3 (by omega)
        have h4 := hd _ hp.lo hp.hi
        rw [ha _ hp.lo hp.hi] at h4
        have := hp.neg
        omega
theorem Nums.same (ho : On n E) (h : Nums E n k f) (hd : AllN n f) (h2 : Nums E n k' g) (hd2 : AllN n g) : AlikeN n f g := by
  by_cases hle : k ≤ k'
  · exact (h.stop ho hd h2 hle).2
  · exact ((h2.stop ho hd2 h (by omega)).2).symm
structure NI (E : Int → Int → Bool) (n : Nat) (k : Nat) (f : Int → Int) : Prop where
  rng : ∀ u : Int, 0 ≤ u → u < n → -1 ≤ f u ∧ f u < k
  same : ∀ u v : Int, 0 ≤ u → u < n → 0 ≤ v → v < n → Same E u v → f u = f v
  eq : ∀ u v : Int, 0 ≤ u → u < n → 0 ≤ v → v < n → 0 ≤ f u → f u = f v → Same E u v
  used : ∀ j : Int, 0 ≤ j → j < k → ∃ u : Int, 0 ≤ u ∧ u < n ∧ f u = j
  out : ∀ r c : Int, E r c = true → 0 ≤ f r → 0 ≤ f c ∧ f c ≤ f r
  cnt : k ≤ cntQ (fun u => 0 ≤ f u) n
theorem Nums.ni (ho : On n E) : ∀ {k : Nat} {f : Int → Int}, Nums E n k f → NI E n k f
  | 0, f, .zero h => by
    refine ⟨fun u u0 u1 => by rw [h u u0 u1]; omega, fun u v u0 u1 v0 v1 _ => by rw [h u u0 u1, h v v0 v1], fun u v u0 u1 v0 v1 h3 => by rw [h u u0 u1] at h3; omega, fun j j0 j1 => by omega, fun r c he h3 => ?_, by omega⟩
    have := ho r c he
    rw [h r this.1 this.2.1] at h3
    omega
  | k + 1, g, .next (f := f) (v := v) h hp hg => by
    have hi := Nums.ni ho h
    have v0 := hp.lo
    have v1 := hp.hi
    have hneg := hp.neg
    have pos : ∀ u : Int, 0 ≤ u → u < n → 0 ≤ f u → ¬ Same E v u := fun u u0 u1 hu hs => by
      have := hi.same v u v0 v1 u0 u1 hs; omega
    refine ⟨fun u u0 u1 => ?_, fun u w u0 u1 w0 w1 hs => ?_, fun u w u0 u1 w0 w1 hu he => ?_, fun j j0 j1 => ?_, fun r c he hr => ?_, ?_⟩
    · have := hi.rng u u0 u1
      by_cases hs : Same E v u
      · rw [(hg u u0 u1).1 hs]; omega
      · rw [(hg u u0 u1).2 hs]; omega
    · by_cases hv : Same E v u
      · rw [(hg u u0 u1).1 hv, (hg w w0 w1).1 (hv.trans hs)]
      · rw [(hg u u0 u1).2 hv, (hg w w0 w1).2 (fun h => hv (h.trans hs.symm))]
        exact hi.same u w u0 u1 w0 w1 hs
    · have hu2 := hi.rng u u0 u1
      have hw2 := hi.rng w w0 w1
      by_cases hv : Same E v u
      · by_cases hw : Same E v w
        · exact hv.symm.trans hw
        · rw [(hg u u0 u1).1 hv, (hg w w0 w1).2 hw] at he; omega
      · by_cases hw : Same E v w
        · rw [(hg u u0 u1).2 hv, (hg w w0 w1).1 hw] at he; omega
        · rw [(hg u u0 u1).2 hv, (hg w w0 w1).2 hw] at he
          rw [(hg u u0 u1).2 hv] at hu
          exact hi.eq u w u0 u1 w0 w1 hu he
    · by_cases e : j = k
      · exact ⟨v, v0, v1, by rw [(hg v v0 v1).1 (.refl E v), e]⟩
      · obtain ⟨u, u0, u1, hu⟩ := hi.used j j0 (by omega)
        exact ⟨u, u0, u1, by rw [(hg u u0 u1).2 (pos u u0 u1 (by omega)), hu]⟩
    · obtain ⟨r0, r1, c0, c1⟩ := ho r c he
      by_cases hs : Same E v r
      · rw [(hg r r0 r1).1 hs]
        by_cases hc : f c < 0
        · rw [(hg c c0 c1).1 (hp.rdy r c hs he hc)]; omega
        · rw [(hg c c0 c1).2 (pos c c0 c1 (by omega))]
          have := hi.rng c c0 c1
          omega
      · rw [(hg r r0 r1).2 hs] at hr ⊢
        have := hi.out r c he hr
        rw [(hg c c0 c1).2 (pos c c0 c1 this.1)]
        exact this
    · have h1 := hi.cnt
      have h2 := cntQ_lt (Q := fun u => 0 ≤ f u) (R := fun u => 0 ≤ g u) (v := n) (fun u u0 u1 hu => by
        show 0 ≤ g u
        rw [(hg u u0 u1).2 (pos u u0 u1 hu)]; exact hu) v0 v1 (by show ¬ 0 ≤ f v; omega) (by show 0 ≤ g v; rw [(hg v v0 v1).1 (.refl E v)]; omega)
      omega
theorem ready_ex (ho : On n E) (hsame : ∀ u v : Int, 0 ≤ u → u < n → 0 ≤ v → v < n → Same E u v → f u = f v) : ∀ (m : Nat) (v : Int), 0 ≤ v → v < n → f v < 0 → cntQ (fun x => Way E v x) n ≤ m → ∃ u : Int, 0 ≤ u ∧ u < n ∧ f u < 0 ∧ Ready E f u
  | 0, v, v0, v1, hv, hm => by
    have := cntQ_lt (Q := fun _ => False) (R := fun x => Way E v x) (v := n) (fun _ _ _ h => h.elim) v0 v1 id (.refl v)
    omega
  | m + 1, v, v0, v1, hv, hm => by
    by_cases hr : Ready E f v
    · exact ⟨v, v0, v1, hv, hr⟩
    · have : ∃ r c : Int, Same E v r ∧ E r c = true ∧ f c < 0 ∧ ¬ Same E v c := by
        apply Classical.byContradiction
        intro hn
        exact hr fun r c h1 h2 h3 => Classical.byContradiction fun h4 => hn ⟨r, c, h1, h2, h3, h4⟩
      obtain ⟨r, c, h1, h2, h3, h4⟩ := this
      obtain ⟨r0, r1, c0, c1⟩ := ho r c h2
      have hvc : Way E v c := .step h1.1 h2
      have := cntQ_lt (Q := fun x => Way E c x) (R := fun x => Way E v x) (v := n) (fun u u0 u1 hu => hvc.trans hu) v0 v1 (fun hcv => h4 ⟨hvc, hcv⟩) (.refl v)
      exact ready_ex ho hsame m c c0 c1 h3 (by omega)
theorem Nums.pick (ho : On n E) (h : Nums E n k f) (v0 : 0 ≤ v) (v1 : v < n) (hv : f v < 0) : ∃ u, Pick E n f u := by
  obtain ⟨u, u0, u1, hu, hr⟩ := ready_ex ho (h.ni ho).same _ v v0 v1 hv (Nat.le_refl _)
  obtain ⟨x, x0, x1, hx, hl⟩ := least_of (P := fun u => f u < 0 ∧ Ready E f u) u.toNat u u0 (by omega) ⟨hu, hr⟩
  exact ⟨x, x0, by omega, hx.1, hx.2, hl⟩
theorem Nums.full (ho : On n E) (h : Nums E n n f) : AllN n f := cntQ_full (h.ni ho).cnt
theorem Nums.le (ho : On n E) (h : Nums E n k f) : k ≤ n := Nat.le_trans (h.ni ho).cnt (cntQ_max _ _)
theorem Nums.alike (ha : AlikeN n f g) (h : Nums E n k f) : Nums E n k g := by
  cases h with
  | zero h => exact .zero fun u u0 u1 => by rw [← ha u u0 u1]; exact h u u0 u1
  | next h hp hg => exact .next h hp fun u u0 u1 => by rw [← ha u u0 u1]; exact hg u u0 u1
end
noncomputable def permP (p : Pat) (rows cols : List Int) : Pat := shutP p.rows.toNat p.width (permB p rows cols)
section
variable {p : Pat} {rows cols br bc : List Int}
theorem permuteS_ok (h : May p) (h1 : IsOrd rows p.rows) (h2 : IsOrd cols p.width) : permuteS p rows cols = (permP p rows cols, 0) := by
  unfold permuteS
  rw [if_neg (not_not_intro h), if_neg (not_not_intro ⟨h1, h2⟩)]
  rfl
theorem rows_perm (h : May p) : (permP p rows cols).rows = p.rows := by
  have := h.toHead.r0
  show ((p.rows.toNat : Nat) : Int) = p.rows
  omega
theorem may_perm (h : May p) : May (permP p rows cols) := by
  have := h.toHead.r1
  exact shut_may (by omega) h.toHead.w0 h.toHead.w1 (permB_within p rows cols)
open Classical in
theorem has_perm (h : May p) {a b : Int} : HasP (permP p rows cols) a b ↔ (0 ≤ a ∧ a < p.rows) ∧ (0 ≤ b ∧ b < p.width) ∧ HasP p (gt rows a) (gt cols b) := by
  unfold permP
  rw [has_shut h.toHead.w1 (permB_within p rows cols)]
  unfold permB
  rw [decide_eq_true_iff]
  have := h.toHead.r0
  constructor
  · rintro ⟨_, hh⟩; exact hh
  · intro hh
    exact ⟨⟨hh.1.1, by omega⟩, hh⟩
theorem perm_back (h : May p) (hr : (rows.length : Int) = p.rows) (hc : (cols.length : Int) = p.width) (h1 : BackTo rows br p.rows p.rows) (h2 : BackTo cols bc p.width p.width) : permP (permP p rows cols) br bc = p := by
  have hq := may_perm (rows := rows) (cols := cols) h
  refine May.ext (may_perm hq) h (by rw [rows_perm hq, rows_perm h]) rfl fun a b => ?_
  rw [has_perm hq, has_perm h, rows_perm h]
  show (0 ≤ a ∧ a < p.rows) ∧ (0 ≤ b ∧ b < p.width) ∧ _ ↔ _
  constructor
  · rintro ⟨⟨a0, a1⟩, ⟨b0, b1⟩, _, _, hh⟩
    have e1 := h1.at_ hr a0 a1
    have e2 := h2.at_ hc b0 b1
    rwa [e1.2.2, e2.2.2] at hh
  · intro hh
    have hin := hh.in_ h
    have e1 := h1.at_ hr hin.1.1 hin.1.2
    have e2 := h2.at_ hc hin.2.1 hin.2.2
    refine ⟨hin.1, hin.2, ⟨e1.1, e1.2.1⟩, ⟨e2.1, e2.2.1⟩, ?_⟩
    rw [e1.2.2, e2.2.2]
    exact hh
theorem BackTo.ordB {l b : List Int} {n : Int} (hl : (l.length : Int) = n) (h : BackTo l b n n) : IsOrd b n := by
  refine ⟨h.len, fun i h0 h1 => ?_, fun i j i0 i1 j0 j1 e => ?_⟩
  · have := h.at_ hl h0 h1
    exact ⟨this.1, this.2.1⟩
  · have e1 := (h.at_ hl i0 i1).2.2
    have e2 := (h.at_ hl j0 j1).2.2
    rw [← e1, ← e2, e]
/-- the row of a place -/
theorem row_of (h : May p) {k : Int} (h0 : 0 ≤ k) (h1 : k < p.cols.length) : ∃ r, 0 ≤ r ∧ r < p.rows ∧ gt p.start r ≤ k ∧ k < gt p.start (r + 1) := by
  have HD := h.toHead
  have key : ∀ m : Nat, (m : Int) ≤ p.rows → k < gt p.start m → ∃ r, 0 ≤ r ∧ r < (m : Int) ∧ gt p.start r ≤ k ∧ k < gt p.start (r + 1) := by
    intro m
    induction m with
    | zero => intro _ hk; rw [show ((0 : Nat) : Int) = 0 by rfl, HD.z] at hk; omega
    | succ m ih =>
      intro hm hk
      by_cases hlt : k < gt p.start m
      · obtain ⟨r, a, b, c, d⟩ := ih (by omega) hlt
        exact ⟨r, a, by omega, c, d⟩
      · exact ⟨m, by omega, by omega, by omega, by rw [show (m : Int) + 1 = ((m + 1 : Nat) : Int) by omega]; exact hk⟩
  have hr := HD.r0
  obtain ⟨r, a, b, c, d⟩ := key p.rows.toNat (by omega) (by rw [show ((p.rows.toNat : Nat) : Int) = p.rows by omega, HD.e]; omega)
  exact ⟨r, a, by omega, c, d⟩
theorem row_uniq (h : May p) {k r s : Int} (r0 : 0 ≤ r) (r1 : r < p.rows) (s0 : 0 ≤ s) (s1 : s < p.rows) (h1 : gt p.start r ≤ k) (h2 : k < gt p.start (r + 1)) (h3 : gt p.start s ≤ k) (h4 : k < gt p.start (s + 1)) : r = s := by
  have hs := h.toHead.s
  have hl := h.toHead.len
  by_cases h5 : r < s
  · have := hs.mono (i := r + 1) (j := s) (by omega) (by omega) (by omega); omega
  · by_cases h6 : s < r
    · have := hs.mono (i := s + 1) (j := r) (by omega) (by omega) (by omega); omega
    · omega
theorem col_mono (h : May p) {r i : Int} (r0 : 0 ≤ r) (r1 : r < p.rows) (h1 : gt p.start r ≤ i) : ∀ (d : Nat), i + d < gt p.start (r + 1) → 0 < d → gt p.cols i < gt p.cols (i + d)
  | 0, _, h0 => by omega
  | d + 1, hd, _ => by
    have hstep := (h.row r r0 r1 (i + ((d + 1 : Nat) : Int)) (by omega) hd).2.2 (by omega)
    rw [show i + ((d + 1 : Nat) : Int) - 1 = i + d by omega] at hstep
    by_cases e : d = 0
    · subst e
      simpa using hstep
    · have := col_mono h r0 r1 h1 d (by omega) (by omega)
      omega
theorem col_inj (h : May p) {r i j : Int} (r0 : 0 ≤ r) (r1 : r < p.rows) (h1 : gt p.start r ≤ i) (h2 : i < gt p.start (r + 1)) (h3 : gt p.start r ≤ j) (h4 : j < gt p.start (r + 1)) (e : gt p.cols i = gt p.cols j) : i = j := by
  by_cases h5 : i < j
  · have := col_mono h r0 r1 h1 (j - i).toNat (by omega) (by omega)
    rw [show i + (((j - i).toNat : Nat) : Int) = j by omega] at this
    omega
  · by_cases h6 : j < i
    · have := col_mono h r0 r1 h3 (i - j).toNat (by omega) (by omega)
      rw [show j + (((i - j).toNat : Nat) : Int) = i by omega] at this
      omega
    · omega
theorem perm_le (h : May p) (h1 : IsOrd rows p.rows) (h2 : IsOrd cols p.width) : (permP p rows cols).cols.length ≤ p.cols.length := by
  have hq := may_perm (rows := rows) (cols := cols) h
  have hqr : (permP p rows cols).rows = p.rows := rows_perm h
  have each : ∀ k : Nat, k < (permP p rows cols).cols.length → ∃ f a b : Int, (0 ≤ a ∧ a < p.rows) ∧ (0 ≤ b ∧ b < p.width) ∧ (gt (permP p rows cols).start a ≤ k ∧ (k : Int) < gt (permP p rows cols).start (a + 1) ∧ gt (permP p rows cols).cols k = b) ∧ gt p.start (gt rows a) ≤ f ∧ f < gt p.start (gt rows a + 1) ∧ gt p.cols f = gt cols b := by
    intro k hk
    obtain ⟨a, a0, a1, k0, k1⟩ := row_of hq (k := k) (by omega) (by omega)
    have hh : HasP (permP p rows cols) a (gt (permP p rows cols).cols k) := ⟨a0, a1, k, k0, k1, rfl⟩
    obtain ⟨ha, hb, hr⟩ := (has_perm h).1 hh
    obtain ⟨_, _, f, f0, f1, f2⟩ := hr
    exact ⟨f, a, _, ha, hb, ⟨k0, k1, rfl⟩, f0, f1, f2⟩
  have : ∃ f : Nat → Int, ∀ k, k < (permP p rows cols).cols.length → ∃ a b : Int, (0 ≤ a ∧ a < p.rows) ∧ (0 ≤ b ∧ b < p.width) ∧ (gt (permP p rows cols).start a ≤ k ∧ (k : Int) < gt (permP p rows cols).start (a + 1) ∧ gt (permP p rows cols).cols k = b) ∧ gt p.start (gt rows a) ≤ f k ∧ f k < gt p.start (gt rows a + 1) ∧ gt p.cols (f k) = gt cols b := by
    classical
    exact ⟨fun k => if hk : k < (permP p rows cols).cols.length then (each k hk).choose else 0, fun k hk => by simp only [dif_pos hk]; exact (each k hk).choose_spec⟩
  obtain ⟨f, hf⟩ := this
  have hnd : ((List.range (permP p rows cols).cols.length).map f).Nodup := by
    refine List.pairwise_map.2 ?_
    refine List.Pairwise.imp_of_mem ?_ (List.nodup_range (n := (permP p rows cols).cols.length))
    intro k m hk hm hne e
    obtain ⟨a, b, ha, hb, ⟨k0, k1, k2⟩, f0, f1, f2⟩ := hf k (List.mem_range.1 hk)
    obtain ⟨a', b', ha', hb', ⟨m0, m1, m2⟩, g0, g1, g2⟩ := hf m (List.mem_range.1 hm)
    rw [← e] at g0 g1 g2
    have hra := h1.rng a ha.1 ha.2
    have hra' := h1.rng a' ha'.1 ha'.2
    have e1 := row_uniq h hra.1 hra.2 hra'.1 hra'.2 f0 f1 g0 g1
    have e2 := h1.inj a a' ha.1 ha.2 ha'.1 ha'.2 e1
    have e3 := h2.inj b b' hb.1 hb.2 hb'.1 hb'.2 (by rw [← f2, ← g2])
    subst e2
    have := col_inj hq (i := (k : Int)) (j := (m : Int)) ha.1 (by rw [hqr]; exact ha.2) k0 k1 m0 m1 (by rw [k2, m2, e3])
    exact hne (by omega)
  have := nodup_le p.cols.length _ hnd fun x hx => by
    obtain ⟨k, hk, rfl⟩ := List.mem_map.1 hx
    obtain ⟨a, b, ha, hb, _, f0, f1, f2⟩ := hf k (List.mem_range.1 hk)
    have hra := h1.rng a ha.1 ha.2
    have l1 := h.toHead.lo (r := gt rows a) hra.1 (by omega)
    have l2 := h.toHead.hi (r := gt rows a + 1) (by omega) (by omega)
    omega
  simpa using this
theorem perm_count (h : May p) (h1 : IsOrd rows p.rows) (h2 : IsOrd cols p.width) (b1 : BackTo rows br p.rows p.rows) (b2 : BackTo cols bc p.width p.width) : (permP p rows cols).cols.length = p.cols.length := by
  have hq := may_perm (rows := rows) (cols := cols) h
  have e1 := perm_le h h1 h2
  have e2 := perm_le (rows := br) (cols := bc) hq (by rw [rows_perm h]; exact b1.ordB h1.len) (b2.ordB h2.len)
  rw [perm_back h h1.len h2.len b1 b2] at e2
  omega
end
/-! ### components of what is renamed -/
section
variable {E F : Int → Int → Bool} {n : Int} {l : List Int}
theorem way_ren (ho : On n F) (hn : IsOrd l n) (hE : On n E) (hF : ∀ a b, 0 ≤ a → a < n → 0 ≤ b → b < n → (F a b = true ↔ E (gt l a) (gt l b) = true)) {i k : Int} (i0 : 0 ≤ i) (i1 : i < n) (k0 : 0 ≤ k) (k1 : k < n) : Way F i k ↔ Way E (gt l i) (gt l k) := by
  constructor
  · intro h
    have : ∀ {k}, Way F i k → (0 ≤ k ∧ k < n) ∧ Way E (gt l i) (gt l k) := by
      intro k h
      induction h with
      | refl => exact ⟨⟨i0, i1⟩, .refl _⟩
      | step _ h ih =>
        have hr := ho _ _ h
        exact ⟨hr.2.2, .step ih.2 ((hF _ _ hr.1 hr.2.1 hr.2.2.1 hr.2.2.2).1 h)⟩
    exact (this h).2
  · intro h
    have : ∀ {y}, Way E (gt l i) y → ∃ k, 0 ≤ k ∧ k < n ∧ gt l k = y ∧ Way F i k := by
      intro y h
      induction h with
      | refl => exact ⟨i, i0, i1, rfl, .refl _⟩
      | step _ h ih =>
        obtain ⟨k, k0, k1, rfl, hw⟩ := ih
        have hr := hE _ _ h
        obtain ⟨m, m0, m1, e⟩ := hn.surj hr.2.2.1 hr.2.2.2
        subst e
        exact ⟨m, m0, m1, rfl, .step hw ((hF _ _ k0 k1 m0 m1).2 h)⟩
    obtain ⟨m, m0, m1, e, hw⟩ := this h
    rw [hn.inj k m k0 k1 m0 m1 e.symm]
    exact hw
end
open Classical in
noncomputable def posRow (p : Pat) (k : Int) : Int := if h : ∃ r, 0 ≤ r ∧ r < p.rows ∧ gt p.start r ≤ k ∧ k < gt p.start (r + 1) then h.choose else 0
noncomputable def wsum (p : Pat) (f : Int → Int → Int) : Nat → Int
  | 0 => 0
  | j + 1 => wsum p f j + f (posRow p j) (gt p.cols j)
section
variable {p : Pat}
theorem posRow_eq (h : May p) {r k : Int} (r0 : 0 ≤ r) (r1 : r < p.rows) (h1 : gt p.start r ≤ k) (h2 : k < gt p.start (r + 1)) : posRow p k = r := by
  have hx : ∃ r, 0 ≤ r ∧ r < p.rows ∧ gt p.start r ≤ k ∧ k < gt p.start (r + 1) := ⟨r, r0, r1, h1, h2⟩
  unfold posRow
  rw [dif_pos hx]
  obtain ⟨a1, a2, a3, a4⟩ := hx.choose_spec
  exact row_uniq h a1 a2 r0 r1 a3 a4 h1 h2
theorem posRow_in (h : May p) {k : Int} (h0 : 0 ≤ k) (h1 : k < p.cols.length) : hasB p (posRow p k) (gt p.cols k) = true := by
  obtain ⟨r, r0, r1, h2, h3⟩ := row_of h h0 h1
  rw [posRow_eq h r0 r1 h2 h3, hasB_iff]
  exact ⟨r0, r1, k, h2, h3, rfl⟩
theorem wsum_step (h : May p) (f : Int → Int → Int) {r k : Int} (r0 : 0 ≤ r) (r1 : r < p.rows) (h1 : gt p.start r ≤ k) (h2 : k < gt p.start (r + 1)) : wsum p f (k + 1).toNat = wsum p f k.toNat + f r (gt p.cols k) := by
  have hk := h.toHead.lo r0 (by omega)
  rw [show (k + 1).toNat = k.toNat + 1 by omega]
  show wsum p f k.toNat + f (posRow p (k.toNat : Int)) (gt p.cols (k.toNat : Int)) = _
  rw [show ((k.toNat : Nat) : Int) = k by omega, posRow_eq h r0 r1 h1 h2]
theorem wsum_add {f g e : Int → Int → Int} : ∀ {m : Nat}, (∀ j : Nat, j < m → f (posRow p j) (gt p.cols j) = g (posRow p j) (gt p.cols j) + e (posRow p j) (gt p.cols j)) → wsum p f m = wsum p g m + wsum p e m
  | 0, h => rfl
  | m + 1, h => by
    have h1 := wsum_add (m := m) (fun j hj => h j (by omega))
    have h2 := h m (by omega)
    show wsum p f m + _ = (wsum p g m + _) + (wsum p e m + _)
    rw [h1, h2]
    omega
theorem wsum_nonneg {f : Int → Int → Int} (h : ∀ a b, 0 ≤ f a b) : ∀ m, 0 ≤ wsum p f m
  | 0 => Int.le_refl _
  | m + 1 => by
    have h1 := wsum_nonneg h m
    have h2 := h (posRow p m) (gt p.cols m)
    show 0 ≤ wsum p f m + _
    omega
theorem wsum_le {f : Int → Int → Int} (h : ∀ a b, f a b ≤ 1) : ∀ m : Nat, wsum p f m ≤ m
  | 0 => Int.le_refl _
  | m + 1 => by
    have h1 := wsum_le h m
    have h2 := h (posRow p m) (gt p.cols m)
    show wsum p f m + _ ≤ _
    omega
theorem wsum_zero {f : Int → Int → Int} (h : ∀ a b, 0 ≤ f a b) : ∀ {m : Nat}, wsum p f m ≤ 0 ↔ ∀ j : Nat, j < m → f (posRow p j) (gt p.cols j) = 0
  | 0 => ⟨fun _ j hj => by omega, fun _ => Int.le_refl _⟩
  | m + 1 => by
    have h1 := wsum_nonneg (p := p) h m
    have h2 := h (posRow p m) (gt p.cols m)
    have ih := wsum_zero h (m := m)
    constructor
    · intro hs j hj
      have hs' : wsum p f m + f (posRow p m) (gt p.cols m) ≤ 0 := hs
      by_cases e : j = m
      · subst e; omega
      · exact ih.1 (by omega) j (by omega)
    · intro hs
      have h3 := ih.2 (fun j hj => hs j (by omega))
      have h4 := hs m (by omega)
      show wsum p f m + f (posRow p m) (gt p.cols m) ≤ 0
      omega
/-- a place out of block b -/
def F1 (B : List Int) (b r c : Int) : Int := if gt B r = b ∧ gt B c ≠ b then 1 else 0
/-- a place out of block b into block a -/
def F2 (B : List Int) (a b r c : Int) : Int := if gt B r = b ∧ gt B c = a ∧ b ≠ a then 1 else 0
/-- a place out of block b into one without a number -/
def F3 (B num : List Int) (b r c : Int) : Int := if gt B r = b ∧ gt B c ≠ b ∧ gt num (gt B c) < 0 then 1 else 0
/-- the blocks as the walk leaves them -/
structure BkI (p : Pat) (n : Nat) (B : List Int) (m : Nat) : Prop where
  len : B.length = n
  rng : ∀ u : Int, 0 ≤ u → u < n → 0 ≤ gt B u ∧ gt B u < m
  eq : ∀ u v : Int, 0 ≤ u → u < n → 0 ≤ v → v < n → (gt B u = gt B v ↔ Same (hasB p) u v)
  used : ∀ b : Int, 0 ≤ b → b < m → ∃ u : Int, 0 ≤ u ∧ u < n ∧ gt B u = b
variable {n m : Nat} {B num W W' : List Int} {a b v k : Int}
/-- the numbers in place j, and what waits -/
structure Wt (p : Pat) (B num W : List Int) (m : Nat) : Prop where
  len : W.length = m
  nl : num.length = m
  at_ : ∀ b : Int, 0 ≤ b → b < m → gt W b = wsum p (F3 B num b) p.cols.length
theorem Wt.ready (hm : May p) (hn : p.rows = n) (hon : On n (hasB p)) (hB : BkI p n B m) (h : Wt p B num W m) (v0 : 0 ≤ v) (v1 : v < n) : gt W (gt B v) ≤ 0 ↔ Ready (hasB p) (fun u => gt num (gt B u)) v := by
  have hb := hB.rng v v0 v1
  rw [h.at_ _ hb.1 hb.2, wsum_zero (fun r c => by unfold F3; split <;> omega)]
  constructor
  · intro hz r c hs he hc
    obtain ⟨r0, r1, c0, c1⟩ := hon _ _ he
    obtain ⟨_, _, k, k0, k1, e⟩ := hasB_iff.1 he
    have g1 := hm.toHead.lo r0 (by omega)
    have g2 := hm.toHead.hi (r := r + 1) (by omega) (by omega)
    have := hz k.toNat (by omega)
    rw [show ((k.toNat : Nat) : Int) = k by omega, posRow_eq hm r0 (by omega) k0 k1, e] at this
    unfold F3 at this
    by_cases hcb : gt B c = gt B v
    · exact (hB.eq v c v0 v1 c0 c1).1 hcb.symm
    · rw [if_pos ⟨((hB.eq v r v0 v1 r0 r1).2 hs).symm, hcb, hc⟩] at this
      omega
  · intro hr j hj
    have he := posRow_in hm (k := j) (by omega) (by omega)
    obtain ⟨r0, r1, c0, c1⟩ := hon _ _ he
    unfold F3
    refine if_neg fun hx => ?_
    have h1 := hr _ _ ((hB.eq v _ v0 v1 r0 r1).1 hx.1.symm) he hx.2.2
    exact hx.2.1 ((hB.eq v _ v0 v1 c0 c1).2 h1).symm
theorem Wt.next (hm : May p) (hon : On n (hasB p)) (hB : BkI p n B m) (h : Wt p B num W m) (a0 : 0 ≤ a) (a1 : a < m) (ha : gt num a < 0) (k0 : 0 ≤ k) (hl : W'.length = m)
    (hW : ∀ b : Int, 0 ≤ b → b < m → gt W' b = gt W b - wsum p (F2 B a b) p.cols.length) : Wt p B (num.set a.toNat k) W' m := by
  have hnl := h.nl
  refine ⟨hl, by rw [List.length_set]; exact hnl, fun b b0 b1 => ?_⟩
  rw [hW b b0 b1, h.at_ b b0 b1]
  have : wsum p (F3 B num b) p.cols.length = wsum p (F2 B a b) p.cols.length + wsum p (F3 B (num.set a.toNat k) b) p.cols.length := by
    refine wsum_add fun j hj => ?_
    have he := posRow_in hm (k := j) (by omega) (by omega)
    obtain ⟨r0, r1, c0, c1⟩ := hon _ _ he
    have hc := hB.rng _ c0 c1
    generalize posRow p j = r at *
    generalize gt p.cols (j : Int) = c at *
    unfold F3 F2
    rw [gt_setI a0 (by omega) hc.1]
    by_cases hr : gt B r = b
    · by_cases hcb : gt B c = b
      · rw [if_neg (fun h => h.2.1 hcb), if_neg (fun h => h.2.2 (by rw [← hcb]; exact h.2.1)), if_neg (fun h => h.2.1 hcb)]; rfl
      · by_cases hca : gt B c = a
        · rw [if_pos ⟨hr, hcb, by rw [hca]; exact ha⟩, if_pos ⟨hr, hca, fun e => hcb (by rw [e]; exact hca)⟩, if_pos hca, if_neg (fun h => by have := h.2.2; omega)]; rfl
        · rw [if_neg (c := gt B r = b ∧ gt B c = a ∧ b ≠ a) (fun h => hca h.2.1), if_neg hca]; omega
    · rw [if_neg (fun h => hr h.1), if_neg (fun h => hr h.1), if_neg (fun h => hr h.1)]; rfl
  omega
theorem Wt.zero (hB : BkI p n B m) (hl : W.length = m) (hm : May p) (hon : On n (hasB p)) (hW : ∀ b : Int, 0 ≤ b → b < m → gt W b = wsum p (F1 B b) p.cols.length) : Wt p B (List.replicate m (-1)) W m := by
  refine ⟨hl, by simp, fun b b0 b1 => ?_⟩
  rw [hW b b0 b1]
  have h0 : wsum p (fun _ _ => 0) p.cols.length = 0 := by
    generalize p.cols.length = q
    induction q with
    | zero => rfl
    | succ q ih => show wsum p _ q + 0 = 0; rw [ih]; rfl
  have : wsum p (F1 B b) p.cols.length = wsum p (F3 B (List.replicate m (-1)) b) p.cols.length + wsum p (fun _ _ => 0) p.cols.length := by
    refine wsum_add fun j hj => ?_
    have he := posRow_in hm (k := j) (by omega) (by omega)
    obtain ⟨r0, r1, c0, c1⟩ := hon _ _ he
    have hc := hB.rng _ c0 c1
    unfold F1 F3
    rw [show gt (List.replicate m (-1)) (gt B (gt p.cols (j : Int))) = -1 by rw [gt_elem hc.1 (by simpa using hc.2)]; simp]
    split
    · rename_i h; rw [if_pos ⟨h.1, h.2, by omega⟩]; rfl
    · rename_i h; rw [if_neg (fun hx => h ⟨hx.1, hx.2.1⟩)]; rfl
  omega
/-- the least block that waits for none comes next -/
theorem Wt.nums (hn : p.rows = n) (hm : May p) (hon : On n (hasB p)) (hB : BkI p n B m) (h : Wt p B num W m) {j : Nat} (hN : Nums (hasB p) n j (fun u => gt num (gt B u))) (v0 : 0 ≤ v) (v1 : v < n) (hv : gt num (gt B v) < 0) (hw : gt W (gt B v) ≤ 0)
    (hl : ∀ u : Int, 0 ≤ u → u < v → 0 ≤ gt num (gt B u) ∨ 0 < gt W (gt B u)) : Nums (hasB p) n (j + 1) (fun u => gt (num.set (gt B v).toNat j) (gt B u)) := by
  have hb := hB.rng v v0 v1
  have hnl := h.nl
  refine .next hN (v := v) ⟨v0, v1, hv, (h.ready hm hn hon hB v0 v1).1 hw, fun u u0 u1 hx => ?_⟩ fun u u0 u1 => ?_
  · have := (h.ready hm hn hon hB u0 (by omega)).2 hx.2
    rcases hl u u0 u1 with h1 | h1
    · have := hx.1; omega
    · omega
  · have hbu := hB.rng u u0 u1
    rw [gt_setI hb.1 (by omega) hbu.1]
    constructor
    · intro hs
      rw [if_pos ((hB.eq v u v0 v1 u0 u1).2 hs).symm]
    · intro hs
      rw [if_neg (fun e => hs ((hB.eq v u v0 v1 u0 u1).1 e.symm))]
/-- there is always one -/
theorem Wt.some_ (hn : p.rows = n) (hm : May p) (hon : On n (hasB p)) (hB : BkI p n B m) (h : Wt p B num W m) {j : Nat} (hN : Nums (hasB p) n j (fun u => gt num (gt B u))) (hj : negs num + j = m) (hjm : j < m) : ∃ v : Int, 0 ≤ v ∧ v < n ∧ gt num (gt B v) < 0 ∧ gt W (gt B v) ≤ 0 := by
  have hnl := h.nl
  have key : ∃ b : Int, 0 ≤ b ∧ b < m ∧ gt num b < 0 := by
    apply Classical.byContradiction
    intro hx
    have : negs num = 0 := by
      unfold negs
      rw [List.countP_eq_zero]
      intro z hz
      obtain ⟨i, i0, i1, e⟩ := mem_gt hz
      have : ¬ z < 0 := fun hzz => hx ⟨i, i0, by omega, by rw [e]; exact hzz⟩
      simpa using this
    omega
  obtain ⟨b, b0, b1, hb⟩ := key
  obtain ⟨u, u0, u1, hu⟩ := hB.used b b0 b1
  obtain ⟨v, hp⟩ := hN.pick hon u0 u1 (by rw [hu]; exact hb)
  exact ⟨v, hp.lo, hp.hi, hp.neg, (h.ready hm hn hon hB hp.lo hp.hi).2 hp.rdy⟩
end
end Go.Proofs.Ytoiiellaoikojaa
