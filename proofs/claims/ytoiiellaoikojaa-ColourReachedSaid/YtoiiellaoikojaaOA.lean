/- Plain: acyclic colourings: ways of two colours, cores. Walks: colours: leads, closes. Walks: colours: Greedy of acyclic ones. -/
import Derived.Test.YtoiiellaoikojaaNA
set_option linter.unusedVariables false
set_option linter.unusedSimpArgs false
set_option maxHeartbeats 8000000
namespace Go.Proofs.Ytoiiellaoikojaa
open Go.RowKit Classical
/-! ### truths counted -/
def cntB (b : Bool) (l : List Bool) : Nat := l.countP (fun x => x == b)
theorem cntB_set {b : Bool} {l : List Bool} {i : Nat} (h : i < l.length) (h1 : l[i] = b) : cntB b (l.set i (!b)) + 1 = cntB b l := by
  have h3 : cntB b l = cntB b (l.take i) + (1 + cntB b (l.drop (i + 1))) := by
    conv => lhs; rw [← List.take_append_drop i l]
    unfold cntB
    rw [List.countP_append, List.drop_eq_getElem_cons h, List.countP_cons, h1]
    simp; omega
  rw [h3, List.set_eq_take_append_cons_drop, if_pos h]
  unfold cntB
  rw [List.countP_append, List.countP_cons]
  cases b <;> simp <;> omega
theorem cntB_le (b : Bool) (l : List Bool) : cntB b l ≤ l.length := List.countP_le_length
theorem cntB_zero {b : Bool} {l : List Bool} : cntB b l = 0 ↔ ∀ x ∈ l, x ≠ b := by
  unfold cntB
  rw [List.countP_eq_zero]
  exact forall_congr' fun x => forall_congr' fun _ => by cases x <;> cases b <;> decide
/-! ### a way sought with a stack -/
structure Fld (E : Int → Int → Bool) (n : Nat) (u w : Int) (L : List Bool) (S : List Int) (sk : Int → Prop) : Prop where
  len : L.length = n
  way : ∀ x : Int, 0 ≤ x → x < n → gt L x = true → Way E u x
  start : gt L u = true
  stk : ∀ s ∈ S, 0 ≤ s ∧ s < n ∧ gt L s = true
  nb : ∀ x : Int, 0 ≤ x → x < n → gt L x = true → x ∈ S ∨ (x ≠ w ∧ (sk x ∨ ∀ y, E x y = true → gt L y = true))
  small : S.length + cntB false L ≤ n
section
variable {E : Int → Int → Bool} {n : Nat} {u w : Int}
theorem Fld.begin_ (u0 : 0 ≤ u) (u1 : u < n) : Fld E n u w ((List.replicate n false).set u.toNat true) [u] (fun _ => False) := by
  have hr : ∀ x : Int, 0 ≤ x → x < n → gt (List.replicate n false) x = false := fun x x0 x1 => by rw [gt_elem x0 (by simpa using x1)]; simp
  have hg : ∀ x : Int, 0 ≤ x → x < n → (gt ((List.replicate n false).set u.toNat true) x = true ↔ x = u) := fun x x0 x1 => by
    rw [gt_set u0 (by simpa using u1) x0]
    by_cases e : x = u
    · rw [if_pos e]; simp [e]
    · rw [if_neg e, hr x x0 x1]; simp [e]
  refine ⟨by simp, fun x x0 x1 h => ?_, (hg u u0 u1).2 rfl, fun s hs => ?_, fun x x0 x1 h => ?_, ?_⟩
  · rw [(hg x x0 x1).1 h]; exact .refl _
  · obtain rfl : s = u := by simpa using hs
    exact ⟨u0, u1, (hg s u0 u1).2 rfl⟩
  · exact .inl (by simp [(hg x x0 x1).1 h])
  · have := cntB_set (b := false) (l := List.replicate n false) (i := u.toNat) (by simp; omega) (by simp)
    have h2 := cntB_le false (List.replicate n false)
    simp only [List.length_replicate, Bool.not_false] at this h2
    simp only [List.length_singleton]
    omega
theorem Fld.pop {a : Int} {L : List Bool} {S : List Int} (h : Fld E n u w L (S ++ [a]) (fun _ => False)) (hw : a ≠ w) : Fld E n u w L S (fun x => x = a) := by
  refine ⟨h.len, h.way, h.start, fun s hs => h.stk s (by simp [hs]), fun x x0 x1 hx => ?_, ?_⟩
  · rcases h.nb x x0 x1 hx with h1 | ⟨h1, h2 | h2⟩
    · rcases List.mem_append.1 h1 with h1 | h1
      · exact .inl h1
      · obtain rfl : x = a := by simpa using h1
        exact .inr ⟨hw, .inl rfl⟩
    · exact h2.elim
    · exact .inr ⟨h1, .inr h2⟩
  · have := h.small
    simp only [List.length_append, List.length_singleton] at this
    omega
theorem Fld.top {a : Int} {L : List Bool} {S : List Int} {sk : Int → Prop} (h : Fld E n u w L (S ++ [a]) sk) : 0 ≤ a ∧ a < n ∧ Way E u a := by
  obtain ⟨a0, a1, h1⟩ := h.stk a (by simp)
  exact ⟨a0, a1, h.way a a0 a1 h1⟩
theorem Fld.mark {a x : Int} {L : List Bool} {S : List Int} {sk : Int → Prop} (h : Fld E n u w L S sk) (ho : On n E) (u0 : 0 ≤ u) (ha : Way E u a) (hx : E a x = true) (x0 : 0 ≤ x) (x1 : x < n) (hn : gt L x = false) : Fld E n u w (L.set x.toNat true) (S ++ [x]) sk := by
  have hl := h.len
  have hg : ∀ y : Int, 0 ≤ y → gt (L.set x.toNat true) y = if y = x then true else gt L y := fun y y0 => gt_set x0 (by omega) y0
  have mono : ∀ y : Int, 0 ≤ y → gt L y = true → gt (L.set x.toNat true) y = true := fun y y0 hy => by
    rw [hg y y0]
    split
    · rfl
    · exact hy
  refine ⟨by rw [List.length_set]; exact hl, fun y y0 y1 hy => ?_, ?_, fun s hs => ?_, fun y y0 y1 hy => ?_, ?_⟩
  · rw [hg y y0] at hy
    by_cases e : y = x
    · rw [e]; exact .step ha hx
    · rw [if_neg e] at hy; exact h.way y y0 y1 hy
  · exact mono u u0 h.start
  · rcases List.mem_append.1 hs with hs | hs
    · obtain ⟨a, b, c⟩ := h.stk s hs
      exact ⟨a, b, mono s a c⟩
    · obtain rfl : s = x := by simpa using hs
      exact ⟨x0, x1, by rw [hg s x0, if_pos rfl]⟩
  · rw [hg y y0] at hy
    by_cases e : y = x
    · exact .inl (by simp [e])
    · rw [if_neg e] at hy
      rcases h.nb y y0 y1 hy with h1 | ⟨h1, h2 | h2⟩
      · exact .inl (by simp [h1])
      · exact .inr ⟨h1, .inl h2⟩
      · refine .inr ⟨h1, .inr fun z hz => ?_⟩
        exact mono z (ho _ _ hz).2.2.1 (h2 z hz)
  · have hg2 : L[x.toNat] = false := by rw [gt_elem x0 (by omega)] at hn; exact hn
    have := cntB_set (b := false) (l := L) (i := x.toNat) (by omega) hg2
    have h2 := h.small
    simp only [Bool.not_false] at this
    simp only [List.length_append, List.length_singleton]
    omega
theorem Fld.done {L : List Bool} {S : List Int} {sk sk' : Int → Prop} (h : Fld E n u w L S sk) (hk : ∀ x, sk x → sk' x ∨ ∀ y, E x y = true → gt L y = true) : Fld E n u w L S sk' :=
  ⟨h.len, h.way, h.start, h.stk, fun x x0 x1 hx => by
    rcases h.nb x x0 x1 hx with h1 | ⟨h1, h2 | h2⟩
    · exact .inl h1
    · exact .inr ⟨h1, hk x h2⟩
    · exact .inr ⟨h1, .inr h2⟩, h.small⟩
theorem Fld.end_ {L : List Bool} (h : Fld E n u w L [] (fun _ => False)) (ho : On n E) (u0 : 0 ≤ u) (u1 : u < n) : ¬ Way E u w := fun hw => by
  have : ∀ x, Way E u x → (0 ≤ x ∧ x < n) ∧ gt L x = true := fun x hx => by
    induction hx with
    | refl => exact ⟨⟨u0, u1⟩, h.start⟩
    | step _ he ih =>
      have := ho _ _ he
      refine ⟨⟨this.2.2.1, this.2.2.2⟩, ?_⟩
      rcases h.nb _ ih.1.1 ih.1.2 ih.2 with h1 | ⟨_, h2 | h2⟩
      · simp at h1
      · exact h2.elim
      · exact h2 _ he
  obtain ⟨⟨w0, w1⟩, hg⟩ := this w hw
  rcases h.nb w w0 w1 hg with h1 | ⟨h1, _⟩
  · simp at h1
  · exact h1 rfl
end
/-! ### cores: sets in which each has two neighbours -/
section
variable {g : Int → Int → Bool}
def Two (g : Int → Int → Bool) (S : Int → Prop) (x : Int) : Prop := ∃ a b : Int, a ≠ b ∧ S a ∧ S b ∧ g x a = true ∧ g x b = true
def Core (g : Int → Int → Bool) (S : Int → Prop) : Prop := ∀ x, S x → Two g S x
theorem Two.mono {S S' : Int → Prop} {x : Int} (h : Two g S x) (hs : ∀ y, S y → S' y) : Two g S' x := by
  obtain ⟨a, b, h1, h2, h3, h4, h5⟩ := h
  exact ⟨a, b, h1, hs a h2, hs b h3, h4, h5⟩
theorem cntQ_del {n : Nat} {S : Int → Prop} {x : Int} (x0 : 0 ≤ x) (x1 : x < n) (hx : S x) : cntQ (fun y => S y ∧ y ≠ x) n + 1 = cntQ S n := by
  have := cntQ_ins (Q := fun y => S y ∧ y ≠ x) (Q' := S) (a := x) x0 (fun h => h.2 rfl) (fun y => ⟨fun h => by
    by_cases e : y = x
    · exact .inr e
    · exact .inl ⟨h, e⟩, fun h => by
    rcases h with h | rfl
    · exact h.1
    · exact hx⟩) n
  rw [if_pos x1] at this
  omega
/-- all but one have two neighbours, that one has one: there is a core -/
theorem core_near {n : Nat} : ∀ (m : Nat) (S : Int → Prop) (u : Int), cntQ S n ≤ m → (∀ x, S x → 0 ≤ x ∧ x < n) → (∀ x y, g x y = true → g y x = true) → (∀ x, g x x = false) → S u → (∃ a, S a ∧ g u a = true) → (∀ x, S x → x ≠ u → Two g S x) → ∃ T : Int → Prop, (∃ x, T x) ∧ (∀ x, T x → S x) ∧ Core g T
  | 0, S, u, hm, hS, hev, hirr, hu, ha, h2 => by
    have := cntQ_del (n := n) (hS u hu).1 (hS u hu).2 hu
    omega
  | m + 1, S, u, hm, hS, hev, hirr, hu, ⟨a, ha, hua⟩, h2 => by
    by_cases ht : Two g S u
    · exact ⟨S, ⟨u, hu⟩, fun x h => h, fun x hx => by
        by_cases e : x = u
        · rw [e]; exact ht
        · exact h2 x hx e⟩
    · have hc := cntQ_del (n := n) (hS u hu).1 (hS u hu).2 hu
      have hne : ∀ b, S b → g u b = true → b = a := fun b hb hub => by
        apply Classical.byContradiction
        intro hn
        exact ht ⟨b, a, hn, hb, ha, hub, hua⟩
      have hau : a ≠ u := fun e => by rw [e, hirr] at hua; cases hua
      have keep : ∀ x b, S x → S b → x ≠ u → x ≠ a → g x b = true → b ≠ u := fun x b hx hb e1 e2 hxb e => by
        rw [e] at hxb
        exact e2 (hne x hx (hev _ _ hxb))
      obtain ⟨T, h3, h4, h5⟩ := core_near m (fun y => S y ∧ y ≠ u) a (by omega) (fun x hx => hS x hx.1) hev hirr ⟨ha, hau⟩ (by
        obtain ⟨p, q, e1, e2, e3, e4, e5⟩ := h2 a ha hau
        by_cases e : p = u
        · exact ⟨q, ⟨e3, fun h => e1 (by rw [e, h])⟩, e5⟩
        · exact ⟨p, ⟨e2, e⟩, e4⟩) (fun x hx hxa => by
        obtain ⟨p, q, e1, e2, e3, e4, e5⟩ := h2 x hx.1 hx.2
        exact ⟨p, q, e1, ⟨e2, keep x p hx.1 e2 hx.2 hxa e4⟩, ⟨e3, keep x q hx.1 e3 hx.2 hxa e5⟩, e4, e5⟩)
      exact ⟨T, h3, fun x hx => (h4 x hx).1, h5⟩
/-- ways that stay within a set -/
noncomputable def Wi (g : Int → Int → Bool) (S : Int → Prop) (x y : Int) : Bool := g x y && (decide (S x) && decide (S y))
theorem wi_iff {S : Int → Prop} {x y : Int} : Wi g S x y = true ↔ g x y = true ∧ S x ∧ S y := by unfold Wi; simp
/-- one with no two neighbours within is not needed -/
theorem way_cut {S : Int → Prop} {u x : Int} (hev : ∀ x y, g x y = true → g y x = true) (hux : u ≠ x) (ht : ¬ Two g S x) {z : Int} (h : Way (Wi g S) u z) : (z ≠ x → Way (Wi g (fun y => S y ∧ y ≠ x)) u z) ∧ (z = x → ∃ y, Way (Wi g (fun y => S y ∧ y ≠ x)) u y ∧ g x y = true ∧ S y) := by
  induction h with
  | refl => exact ⟨fun _ => .refl _, fun e => (hux e).elim⟩
  | @step b c _ he ih =>
    obtain ⟨h1, h2, h3⟩ := wi_iff.1 he
    by_cases e : c = x
    · refine ⟨fun h => (h e).elim, fun _ => ?_⟩
      by_cases e2 : b = x
      · exact ih.2 e2
      · exact ⟨b, ih.1 e2, hev _ _ (by rw [← e]; exact h1), h2⟩
    · refine ⟨fun _ => ?_, fun h => (e h).elim⟩
      by_cases e2 : b = x
      · obtain ⟨y, h4, h5, h6⟩ := ih.2 e2
        by_cases e3 : y = c
        · rw [← e3]; exact h4
        · exact (ht ⟨y, c, e3, h6, h3, h5, by rw [← e2]; exact h1⟩).elim
      · exact .step (ih.1 e2) (wi_iff.2 ⟨h1, ⟨h2, e2⟩, h3, e⟩)
theorem way_first {E : Int → Int → Bool} {u w : Int} (h : Way E u w) (hn : u ≠ w) : ∃ y, E u y = true := by
  have : ∀ z, Way E u z → z = u ∨ ∃ y, E u y = true := fun z hz => by
    induction hz with
    | refl => exact .inl rfl
    | step _ he ih =>
      rcases ih with e | h
      · exact .inr ⟨_, by rw [← e]; exact he⟩
      · exact .inr h
  rcases this w h with e | h
  · exact (hn e.symm).elim
  · exact h
/-- two neighbours of v that hang together without v: there is a core -/
theorem core_way {n : Nat} {v u w : Int} (hev : ∀ x y, g x y = true → g y x = true) (hvu : g v u = true) (hvw : g v w = true) (huw : u ≠ w) : ∀ (m : Nat) (S : Int → Prop), cntQ S n ≤ m → (∀ x, S x → 0 ≤ x ∧ x < n) → ¬ S v → S u → S w → Way (Wi g S) u w → ∃ T : Int → Prop, (∃ x, T x) ∧ (∀ x, T x → S x ∨ x = v) ∧ Core g T := by
  intro m
  induction m with
  | zero =>
    intro S hm hS hv hu hw hway
    have := cntQ_del (n := n) (hS u hu).1 (hS u hu).2 hu
    omega
  | succ m ih =>
    intro S hm hS hv hu hw hway
    by_cases hc : Core g (fun x => S x ∨ x = v)
    · exact ⟨_, ⟨v, .inr rfl⟩, fun x h => h, hc⟩
    · have : ∃ x, (S x ∨ x = v) ∧ ¬ Two g (fun x => S x ∨ x = v) x := by
        apply Classical.byContradiction
        intro hn
        exact hc fun x hx => Classical.byContradiction fun h => hn ⟨x, hx, h⟩
      obtain ⟨x, hx, ht⟩ := this
      have hxv : x ≠ v := fun e => ht (by rw [e]; exact ⟨u, w, huw, .inl hu, .inl hw, hvu, hvw⟩)
      have hxS : S x := hx.resolve_right hxv
      have hxu : x ≠ u := fun e => by
        obtain ⟨y, hy⟩ := way_first hway huw
        obtain ⟨h1, _, h3⟩ := wi_iff.1 hy
        exact ht (by rw [e]; exact ⟨y, v, fun h => hv (by rw [← h]; exact h3), .inl h3, .inr rfl, h1, hev _ _ hvu⟩)
      have hxw : x ≠ w := fun e => by
        obtain ⟨y, hy⟩ := way_first (Way.symm (E := Wi g S) (fun a b h => by rw [wi_iff] at h ⊢; exact ⟨hev _ _ h.1, h.2.2, h.2.1⟩) hway) huw.symm
        obtain ⟨h1, _, h3⟩ := wi_iff.1 hy
        exact ht (by rw [e]; exact ⟨y, v, fun h => hv (by rw [← h]; exact h3), .inl h3, .inr rfl, h1, hev _ _ hvw⟩)
      have hcut := (way_cut hev hxu.symm (fun h => ht (h.mono fun y hy => .inl hy)) hway).1 hxw.symm
      have hd := cntQ_del (n := n) (hS x hxS).1 (hS x hxS).2 hxS
      obtain ⟨T, h1, h2, h3⟩ := ih (fun y => S y ∧ y ≠ x) (by omega) (fun y hy => hS y hy.1) (fun h => hv h.1) ⟨hu, hxu.symm⟩ ⟨hw, hxw.symm⟩ hcut
      exact ⟨T, h1, fun y hy => (h2 y hy).imp_left And.left, h3⟩
/-- a core in which v stands, and no core without v: two neighbours of v hang together without v -/
theorem way_core {n : Nat} {v : Int} {T : Int → Prop} (hev : ∀ x y, g x y = true → g y x = true) (hirr : ∀ x, g x x = false) (hT : ∀ x, T x → 0 ≤ x ∧ x < n) (hc : Core g T) (hv : T v) (hno : ¬ ∃ U : Int → Prop, (∃ x, U x) ∧ (∀ x, U x → T x ∧ x ≠ v) ∧ Core g U) :
    ∃ u w : Int, u ≠ w ∧ T u ∧ T w ∧ g v u = true ∧ g v w = true ∧ Way (Wi g (fun y => T y ∧ y ≠ v)) u w := by
  obtain ⟨u, w, h1, h2, h3, h4, h5⟩ := hc v hv
  apply Classical.byContradiction
  intro hn
  have huv : u ≠ v := fun e => by rw [e, hirr] at h4; cases h4
  have hK : ∀ x, Way (Wi g (fun y => T y ∧ y ≠ v)) u x → T x ∧ x ≠ v := fun x hx => by
    cases hx with
    | refl => exact ⟨h2, huv⟩
    | step _ he => exact (wi_iff.1 he).2.2
  have hone : ∀ x, Way (Wi g (fun y => T y ∧ y ≠ v)) u x → x ≠ u → g x v = false := fun x hx hxu => by
    cases hg : g x v with
    | false => rfl
    | true => exact (hn ⟨u, x, hxu.symm, h2, (hK x hx).1, h4, hev _ _ hg, hx⟩).elim
  have stay : ∀ x b, Way (Wi g (fun y => T y ∧ y ≠ v)) u x → T b → b ≠ v → g x b = true → Way (Wi g (fun y => T y ∧ y ≠ v)) u b := fun x b hx hb hbv hxb => .step hx (wi_iff.2 ⟨hxb, hK x hx, hb, hbv⟩)
  obtain ⟨U, k1, k2, k3⟩ := core_near (n := n) (g := g) (cntQ (fun x => Way (Wi g (fun y => T y ∧ y ≠ v)) u x) n) (fun x => Way (Wi g (fun y => T y ∧ y ≠ v)) u x) u (Nat.le_refl _) (fun x hx => hT x (hK x hx).1) hev hirr (.refl _) (by
    obtain ⟨p, q, e1, e2, e3, e4, e5⟩ := hc u h2
    by_cases e : p = v
    · exact ⟨q, stay u q (.refl _) e3 (fun h => e1 (by rw [e, h])) e5, e5⟩
    · exact ⟨p, stay u p (.refl _) e2 e e4, e4⟩) (fun x hx hxu => by
    obtain ⟨p, q, e1, e2, e3, e4, e5⟩ := hc x (hK x hx).1
    have hnv := hone x hx hxu
    exact ⟨p, q, e1, stay x p hx e2 (fun e => by rw [e, hnv] at e4; cases e4) e4, stay x q hx e3 (fun e => by rw [e, hnv] at e5; cases e5) e5, e4, e5⟩)
  exact hno ⟨U, k1, fun x hx => hK x (k2 x hx), k3⟩
end
/-- a call that takes pieces, in a region that draws -/
theorem gc30 {n : Nat} {w0 : World} {D : List Nat} {ops : Array Oper} {o : Oper} {Γ : Tm} {σ : List Res} {K : Tm → List Res → Prop} {α : Type} (σ1 : List Res) {dd : Nat} {f : FuncId} {vs : List Value} {vf : α → Value} {ρ : α → List Res} {φ : α → Prop} (hc : ∀ w, St w0 D σ w → St w0 D σ1 w → Calls Try.prog f vs.toArray w (Ret σ1 vf ρ φ w)) (h : caS n ops Γ o = some (dd, f, vs))
    (k : SubK σ1 σ (fun σ2 => ∀ x, φ x → K ((dd, vf x) :: Γ) (ρ x ++ σ2))) : OpOK Try.prog n w0 D ops o K Γ σ := by
  obtain ⟨args, tys, hop, hg, hd, hb, ha, hbod⟩ := caS_spec h
  obtain ⟨σ2, hp, k⟩ := k
  exact ok_call σ1 σ2 hop ha hbod hg hd hb hp (fun w hst => hc w hst (St.keep (hst.perm hp))) k
noncomputable abbrev EA (g : Pat) (cs : List Int) (c d : Int) : Int → Int → Bool := fun x y => hasB g x y && (decide (gt cs y = c) || decide (gt cs y = d))
structure LdX where
  L : List Bool
  S : List Int
  A : Option Addr
  c : Nat
  k : Int
section
variable {z : GyX} {n : Nat} {kd : Int} {y : PA} {g : Pat} {R : List Res} {cs M : List Int} {ct v u t c : Int}
theorem rowL_mono (hm : May g) (v0 : 0 ≤ v) (v1 : v < g.rows) {i j : Int} (i0 : 0 ≤ i) (ij : i < j) (j1 : j < (rowL g v).length) : gt (rowL g v) i < gt (rowL g v) j := by
  have HG := hm.toHead
  have e1 := HG.lo v0 (by omega)
  have e2 := HG.hi (r := v + 1) (by omega) (by omega)
  have e3 := HG.step v0 v1
  have hsl := sub_length g.cols e1 e3 e2
  have g1 : gt (rowL g v) i = gt g.cols (gt g.start v + i) := gt_sub e1 e3 e2 i0 (by unfold rowL at j1; omega)
  have g2 : gt (rowL g v) j = gt g.cols (gt g.start v + j) := gt_sub e1 e3 e2 (by omega) j1
  unfold rowL at j1
  rw [hsl] at j1
  rw [g1, g2]
  have := col_mono hm v0 v1 (i := gt g.start v + i) (by omega) (j - i).toNat (by omega) (by omega)
  rwa [show gt g.start v + i + ((j - i).toNat : Nat) = gt g.start v + j by omega] at this
theorem leads_c (w : World) (hm : May g) (hn : g.rows = n) (hsq : g.rows = g.width) (hcs : CsOK n cs) (u0 : 0 ≤ u) (u1 : u < n) (hu : 0 ≤ gt cs u) (c0 : 0 ≤ c) (b : Bool) (hb : b = true ↔ Way (EA g cs c (gt cs u)) u t) (hrd : RdB w ((GrI z n kd y g R cs M ct).flatMap Res.fp) R y g) (hw : Own (GrI z n kd y g R cs M ct) w) :
    Calls Try.prog 97 [.pointer (some ⟨z.gb, 0, none⟩), vi u, vi t, vi c].toArray w (Ret (GrI z n kd y g R cs M ct) (fun _ : Unit => .bool b) (fun _ => GrI z n kd y g R cs M ct) (fun _ => True) w) := by
  have HG := hm.toHead
  have hn2 := HG.r1
  have hcl := hcs.len
  have hnl := nearTo_len y g (k := g.rows) HG.r0
  have hon : On n (hasB g) := by rw [← hn]; exact hasB_on hm hsq
  have hoE : On n (EA g cs c (gt cs u)) := fun a b h => hon a b (Bool.and_eq_true_iff.1 h).1
  refine calls_wc ((GrI z n kd y g R cs M ct).flatMap Res.fp) (GrI z n kd y g R cs M ct) [.tmp 8] (fun _ => [.bool b]) Try.func97 rfl rfl (fun _ => rfl) Try.ntmps97 rfl hw rfl ?_
  have rowR : ∀ {a : Int}, 0 ≤ a → a < n → ∀ {w' : World} {σ : List Res}, St w ((GrI z n kd y g R cs M ct).flatMap Res.fp) σ w' → HasR σ (bun R) → Rds vi w' (rowB y g a) (rowL g a).length (rowL g a) := fun a0 a1 _ _ hst hb => rowL_rd HG a0 (by omega) (hrd.now hst hb)
  have rowN : ∀ {a : Int}, 0 ≤ a → a < n → ∀ j : Int, 0 ≤ j → j < (rowL g a).length → 0 ≤ gt (rowL g a) j ∧ gt (rowL g a) j < n := fun a0 a1 j j0 j1 => by
    have hb := (rowL_mem hm a0 (by omega)).2 ⟨j, j0, j1, rfl⟩
    have := ((hasB_iff.1 hb).in_ hm).2
    omega
  dsimp only [GrI]
  refine gg ?_
  refine gmk vb false rfl rfl rfl rfl rfl rfl rfl rfl rfl rfl rfl HG.r0 (Int.le_refl _) (by omega) (by omega) ?_
  intro sb
  rw [show g.rows.toNat = n by omega]
  refine gg ?_
  refine gbi (by exact rfl) ?_
  intro tb
  have hrl : (List.replicate n false).length = n := by simp
  refine gg ?_
  generalize hd : gt cs u = d at hb hoE hu ⊢
  refine glp (fun s : LdX => Fld (EA g cs c d) n u t s.L s.S (fun _ => False)) (fun s => [(0, .pointer (some ⟨z.gb, 0, none⟩)), (2, vi t), (3, vi c), (9, vi d), (10, .slice (some ⟨sb, 0, none⟩) n n), (11, .slice s.A s.S.length s.c)])
    (fun s => osl TI vi s.A s.c s.S :: osl TB vb (some ⟨sb, 0, none⟩) n s.L :: GrI z n kd y g R cs M ct) (fun s => s.S.length + cntB false s.L) ⟨(List.replicate n false).set u.toNat true, [u], some ⟨tb, 0, none⟩, 1, 0⟩ (Fld.begin_ u0 u1) ?_
  rintro ⟨L, S, SA, Sc, _⟩ hF
  dsimp only [GrI] at hF ⊢
  have hLl := hF.len
  have hsm := hF.small
  rcases List.eq_nil_or_concat S with rfl | ⟨S', a, rfl⟩
  · obtain rfl : b = false := by
      cases b with
      | false => rfl
      | true => exact (hF.end_ hoE u0 u1 (hb.1 rfl)).elim
    dsimp only [List.length_nil]
    refine gg ?_
    exact grt () trivial
  · simp only [List.concat_eq_append] at hF hsm ⊢
    obtain ⟨a0, a1, hwa⟩ := hF.top
    have hSl : (S' ++ [a]).length = S'.length + 1 := by simp
    have hga : gt (S' ++ [a]) (((S' ++ [a]).length : Int) - 1) = a := by
      rw [gt_elem (by omega) (by omega)]
      have : (((S' ++ [a]).length : Int) - 1).toNat = S'.length := by omega
      simp only [this]
      simp
    refine gg ?_
    rw [hga]
    refine wl_v rfl rfl rfl (val_pre rfl rfl rfl (fun w hst => grd hst) (el_of rfl) (sz_of rfl) (by omega) (by omega)) ?_
    rw [show (((S' ++ [a]).length : Int) - 1).toNat = S'.length by omega]
    refine wl_short (e := TI) (f := vi) (A := SA) (c := Sc) S' [a] ?_
    (repeat (first | refine gk1 ?_ | refine gk2 ?_ | refine gk3 ?_ | refine gk0 ?_ | refine gk4 ?_))
    by_cases hat : a = t
    · obtain rfl : b = true := hb.2 (by rw [← hat]; exact hwa)
      refine gg ?_
      exact grt () trivial
    · have hP := hF.pop hat
      have hsx := rowL_small (v := a) hm a0 (by omega)
      refine gg ?_
      rw [nearTo_at y g a0 (by omega), rowV_eq HG a0 (by omega)]
      dsimp only [sv]
      refine glp (fun s : LdX => 0 ≤ s.k ∧ s.k ≤ (rowL g a).length ∧ Fld (EA g cs c d) n u t s.L s.S (fun x => x = a) ∧ (∀ i : Int, 0 ≤ i → i < s.k → (gt cs (gt (rowL g a) i) = c ∨ gt cs (gt (rowL g a) i) = d) → gt s.L (gt (rowL g a) i) = true) ∧ s.S.length + cntB false s.L ≤ S'.length + cntB false L) (fun s => [(0, .pointer (some ⟨z.gb, 0, none⟩)), (2, vi t), (3, vi c), (9, vi d), (10, .slice (some ⟨sb, 0, none⟩) n n), (11, .slice s.A s.S.length s.c), (61, .slice (rowB y g a) (rowL g a).length (rowL g a).length), (62, vi (rowL g a).length), (63, vi s.k)])
        (fun s => osl TI vi s.A s.c s.S :: osl TB vb (some ⟨sb, 0, none⟩) n s.L :: GrI z n kd y g R cs M ct) (fun s => ((rowL g a).length - s.k).toNat) ⟨L, S', SA, Sc, 0⟩ ⟨by simp, by simp, hP, fun i i0 i1 => by dsimp only at i1; omega, by dsimp only; omega⟩ ?_
      rintro ⟨L', S2, SA', Sc', k⟩ ⟨hk0, hk1, hF', hmk, hms⟩
      dsimp only [GrI] at hk0 hk1 hF' hmk hms ⊢
      have hL2 := hF'.len
      have hsm2 := hF'.small
      by_cases hkn : k < (rowL g a).length
      · have hx := rowN a0 a1 k hk0 hkn
        have hcx := hcs.rng _ hx.1 hx.2
        have hgx := (rowL_mem hm a0 (by omega)).2 ⟨k, hk0, hkn, rfl⟩
        refine wc_know (φ := ∃ ad, rowB y g a = some ad) (fun w hst => (rowR a0 a1 hst (by (repeat (first | exact .here | refine .there ?_)))).ad_ (by omega)) ?_
        rintro ⟨sa, hsa⟩
        rw [hsa]
        refine gg ?_
        refine wl_v rfl rfl rfl (val_load rfl rfl (ag_of rfl) (fun w hst => by rw [← hsa]; exact (rowR a0 a1 hst (by (repeat (first | exact .here | refine .there ?_)))).cell hk0 hkn)) ?_
        generalize hxg : gt (rowL g a) k = x at hx hcx hgx
        have skip : (gt L' x = true ∨ ¬ (gt cs x = c ∨ gt cs x = d)) → ∀ i : Int, 0 ≤ i → i < k + 1 → (gt cs (gt (rowL g a) i) = c ∨ gt cs (gt (rowL g a) i) = d) → gt L' (gt (rowL g a) i) = true := fun h i i0 i1 hh => by
          by_cases e : i = k
          · rw [e, hxg] at hh ⊢
            rcases h with h | h
            · exact h
            · exact (h hh).elim
          · exact hmk i i0 (by omega) hh
        by_cases h1 : gt L' x = true
        · refine gg ?_
          rw [h1]
          refine gg ?_
          exact gnx (⟨L', S2, SA', Sc', k + 1⟩ : LdX) ⟨by dsimp only; omega, by dsimp only; omega, hF', skip (.inl h1), hms⟩ (by dsimp only; omega)
        have h1' : gt L' x = false := by simpa using h1
        refine gg ?_
        rw [h1']
        by_cases h2 : gt cs x = -1
        · refine gg ?_
          exact gnx (⟨L', S2, SA', Sc', k + 1⟩ : LdX) ⟨by dsimp only; omega, by dsimp only; omega, hF', skip (.inr (by omega)), hms⟩ (by dsimp only; omega)
        by_cases h3 : gt cs x = c
        · have hE : EA g cs c d a x = true := by show (_ && _) = true; rw [hgx]; simp [h3]
          have hM := hF'.mark hoE u0 hwa hE hx.1 hx.2 h1'
          have hng := cntB_set (b := false) (l := L') (i := x.toNat) (by omega) (by rw [gt_elem hx.1 (by omega)] at h1'; exact h1')
          simp only [Bool.not_false] at hng
          refine gg ?_
          refine gpush (by exact rfl) (fun _ => by exact rfl) ?_ (hl := by omega)
          intro _ A' c'
          refine gg ?_
          exact gnx (⟨L'.set x.toNat true, S2 ++ [x], A', c', k + 1⟩ : LdX) ⟨by dsimp only; omega, by dsimp only; omega, hM, fun i i0 i1 hh => by
            dsimp only at i1 ⊢
            have hyi := (rowN a0 a1 i i0 (by omega)).1
            rw [gt_set hx.1 (by omega) hyi]
            by_cases e : gt (rowL g a) i = x
            · rw [if_pos e]
            · rw [if_neg e]
              refine hmk i i0 ?_ hh
              by_cases e2 : i = k
              · rw [e2] at e; exact (e hxg).elim
              · omega, by
            dsimp only
            simp only [List.length_append, List.length_singleton]
            omega⟩ (by dsimp only; omega)
        by_cases h4 : gt cs x = d
        · have hE : EA g cs c d a x = true := by show (_ && _) = true; rw [hgx]; simp [h4]
          have hM := hF'.mark hoE u0 hwa hE hx.1 hx.2 h1'
          have hng := cntB_set (b := false) (l := L') (i := x.toNat) (by omega) (by rw [gt_elem hx.1 (by omega)] at h1'; exact h1')
          simp only [Bool.not_false] at hng
          refine gg ?_
          refine gpush (by exact rfl) (fun _ => by exact rfl) ?_ (hl := by omega)
          intro _ A' c'
          refine gg ?_
          exact gnx (⟨L'.set x.toNat true, S2 ++ [x], A', c', k + 1⟩ : LdX) ⟨by dsimp only; omega, by dsimp only; omega, hM, fun i i0 i1 hh => by
            dsimp only at i1 ⊢
            have hyi := (rowN a0 a1 i i0 (by omega)).1
            rw [gt_set hx.1 (by omega) hyi]
            by_cases e : gt (rowL g a) i = x
            · rw [if_pos e]
            · rw [if_neg e]
              refine hmk i i0 ?_ hh
              by_cases e2 : i = k
              · rw [e2] at e; exact (e hxg).elim
              · omega, by
            dsimp only
            simp only [List.length_append, List.length_singleton]
            omega⟩ (by dsimp only; omega)
        · refine gg ?_
          exact gnx (⟨L', S2, SA', Sc', k + 1⟩ : LdX) ⟨by dsimp only; omega, by dsimp only; omega, hF', skip (.inr (by omega)), hms⟩ (by dsimp only; omega)
      · obtain rfl : k = (rowL g a).length := by omega
        refine gg ?_
        exact gnx (⟨L', S2, SA', Sc', 0⟩ : LdX) (hF'.done fun u hu => .inr fun q hq => by
          subst hu
          have hq := Bool.and_eq_true_iff.1 hq
          obtain ⟨i, i0, i1, e⟩ := (rowL_mem hm a0 (by omega)).1 hq.1
          have := hmk i i0 i1
          rw [e] at this
          exact this (by simpa using hq.2)) (by dsimp only; omega)
/-- the neighbour at place q closes a circle -/
def Hit (g : Pat) (cs : List Int) (v c q : Int) : Prop := 0 ≤ gt cs (gt (rowL g v) q) ∧ gt cs (gt (rowL g v) q) ≠ c ∧ ∃ j : Int, 0 ≤ j ∧ j < q ∧ gt cs (gt (rowL g v) j) = gt cs (gt (rowL g v) q) ∧ Way (EA g cs c (gt cs (gt (rowL g v) q))) (gt (rowL g v) q) (gt (rowL g v) j)
theorem badA_hit (hm : May g) (v0 : 0 ≤ v) (v1 : v < g.rows) : badA (hasB g) n cs v c = true ↔ ∃ q : Int, 0 ≤ q ∧ q < (rowL g v).length ∧ Hit g cs v c q := by
  unfold badA
  rw [decide_eq_true_iff]
  constructor
  · rintro ⟨u, w, h1, h2, h3, h4, h5, h6, h7⟩
    obtain ⟨q, q0, q1, e⟩ := (rowL_mem hm v0 v1).1 h1
    obtain ⟨j, j0, j1, e2⟩ := (rowL_mem hm v0 v1).1 h2
    refine ⟨q, q0, q1, ?_⟩
    unfold Hit
    rw [e]
    refine ⟨h4, h5, j, j0, ?_, ?_, ?_⟩
    · apply Classical.byContradiction
      intro hn
      by_cases e3 : j = q
      · rw [e3, e] at e2; omega
      · have := rowL_mono hm v0 v1 q0 (j := j) (by omega) j1
        omega
    · rw [e2]; exact h6
    · rw [e2]; exact h7
  · rintro ⟨q, q0, q1, h1, h2, j, j0, j1, h3, h4⟩
    exact ⟨_, _, (rowL_mem hm v0 v1).2 ⟨q, q0, q1, rfl⟩, (rowL_mem hm v0 v1).2 ⟨j, j0, by omega, rfl⟩, rowL_mono hm v0 v1 j0 j1 q1, h1, h2, h3, h4⟩
theorem closes_c (w : World) (hm : May g) (hn : g.rows = n) (hsq : g.rows = g.width) (hcs : CsOK n cs) (v0 : 0 ≤ v) (v1 : v < n) (c0 : 0 ≤ c) (b : Bool) (hb : badA (hasB g) n cs v c = b) (hrd : RdB w ((GrI z n kd y g R cs M ct).flatMap Res.fp) R y g) (hw : Own (GrI z n kd y g R cs M ct) w) :
    Calls Try.prog 62 [.pointer (some ⟨z.gb, 0, none⟩), vi v, vi c].toArray w (Ret (GrI z n kd y g R cs M ct) (fun _ : Unit => .bool b) (fun _ => GrI z n kd y g R cs M ct) (fun _ => True) w) := by
  have HG := hm.toHead
  have hn2 := HG.r1
  have hcl := hcs.len
  have hnl := nearTo_len y g (k := g.rows) HG.r0
  have hsv := rowL_small (v := v) hm v0 (by omega)
  have hbad := badA_hit (n := n) (cs := cs) (c := c) hm v0 (by omega)
  rw [hb] at hbad
  refine calls_wc ((GrI z n kd y g R cs M ct).flatMap Res.fp) (GrI z n kd y g R cs M ct) [.tmp 6] (fun _ => [.bool b]) Try.func62 rfl rfl (fun _ => rfl) Try.ntmps62 rfl hw rfl ?_
  have rowR : ∀ {a : Int}, 0 ≤ a → a < n → ∀ {w' : World} {σ : List Res}, St w ((GrI z n kd y g R cs M ct).flatMap Res.fp) σ w' → HasR σ (bun R) → Rds vi w' (rowB y g a) (rowL g a).length (rowL g a) := fun a0 a1 _ _ hst hb => rowL_rd HG a0 (by omega) (hrd.now hst hb)
  have rowN : ∀ {a : Int}, 0 ≤ a → a < n → ∀ j : Int, 0 ≤ j → j < (rowL g a).length → 0 ≤ gt (rowL g a) j ∧ gt (rowL g a) j < n := fun a0 a1 j j0 j1 => by
    have hb := (rowL_mem hm a0 (by omega)).2 ⟨j, j0, j1, rfl⟩
    have := ((hasB_iff.1 hb).in_ hm).2
    omega
  dsimp only [GrI]
  refine gg ?_
  rw [nearTo_at y g v0 (by omega), rowV_eq HG v0 (by omega)]
  dsimp only [sv]
  refine glp (fun k : Int => 0 ≤ k ∧ k ≤ (rowL g v).length ∧ ∀ q : Int, 0 ≤ q → q < k → ¬ Hit g cs v c q) (fun k => [(0, .pointer (some ⟨z.gb, 0, none⟩)), (1, vi v), (2, vi c), (20, .slice (rowB y g v) (rowL g v).length (rowL g v).length), (21, vi (rowL g v).length), (22, vi k)])
    (fun _ => GrI z n kd y g R cs M ct) (fun k => ((rowL g v).length - k).toNat) 0 ⟨by omega, by omega, fun q q0 q1 => by omega⟩ ?_
  rintro k ⟨hk0, hk1, hno⟩
  dsimp only [GrI]
  by_cases hk : k < (rowL g v).length
  · have hx := rowN v0 v1 k hk0 hk
    have hcx := hcs.rng _ hx.1 hx.2
    have nxt : ¬ Hit g cs v c k → ∀ q : Int, 0 ≤ q → q < k + 1 → ¬ Hit g cs v c q := fun h q q0 q1 => by
      by_cases e : q = k
      · rw [e]; exact h
      · exact hno q q0 (by omega)
    refine wc_know (φ := ∃ ad, rowB y g v = some ad) (fun w hst => (rowR v0 v1 hst (by (repeat (first | exact .here | refine .there ?_)))).ad_ (by omega)) ?_
    rintro ⟨sa, hsa⟩
    rw [hsa]
    refine gg ?_
    refine wl_v rfl rfl rfl (val_load rfl rfl (ag_of rfl) (fun w hst => by rw [← hsa]; exact (rowR v0 v1 hst (by (repeat (first | exact .here | refine .there ?_)))).cell hk0 hk)) ?_
    by_cases h1 : gt cs (gt (rowL g v) k) = -1
    · refine gg ?_
      exact gnx (k + 1) ⟨by omega, by omega, nxt fun h => by have := h.1; omega⟩ (by omega)
    by_cases h2 : gt cs (gt (rowL g v) k) = c
    · refine gg ?_
      exact gnx (k + 1) ⟨by omega, by omega, nxt fun h => h.2.1 h2⟩ (by omega)
    refine gg ?_
    rw [nearTo_at y g v0 (by omega), rowV_eq HG v0 (by omega)]
    dsimp only [sv]
    refine wl_v rfl rfl rfl (val_pre (f := vi) (xs := rowL g v) rfl rfl rfl (fun w hst => rowR v0 v1 hst (by (repeat (first | exact .here | refine .there ?_)))) (el_of rfl) (sz_of rfl) hk0 (by omega)) ?_
    rw [hsa]
    refine gg ?_
    refine glp (fun j : Int => 0 ≤ j ∧ j ≤ k ∧ ∀ q : Int, 0 ≤ q → q < j → ¬ (gt cs (gt (rowL g v) q) = gt cs (gt (rowL g v) k) ∧ Way (EA g cs c (gt cs (gt (rowL g v) k))) (gt (rowL g v) k) (gt (rowL g v) q))) (fun j => [(0, .pointer (some ⟨z.gb, 0, none⟩)), (1, vi v), (2, vi c), (8, vi (gt (rowL g v) k)), (20, .slice (some sa) (rowL g v).length (rowL g v).length), (21, vi (rowL g v).length), (22, vi k), (57, .slice (some sa) k.toNat (rowL g v).length), (58, vi (k.toNat : Int)), (59, vi j)])
      (fun _ => GrI z n kd y g R cs M ct) (fun j => (k - j).toNat) 0 ⟨by omega, by omega, fun q q0 q1 => by omega⟩ ?_
    rintro j ⟨hj0, hj1, hnj⟩
    dsimp only [GrI]
    by_cases hj : j < k
    · have hy := rowN v0 v1 j hj0 (by omega)
      have hcy := hcs.rng _ hy.1 hy.2
      have nxj : ¬ (gt cs (gt (rowL g v) j) = gt cs (gt (rowL g v) k) ∧ Way (EA g cs c (gt cs (gt (rowL g v) k))) (gt (rowL g v) k) (gt (rowL g v) j)) → ∀ q : Int, 0 ≤ q → q < j + 1 → ¬ (gt cs (gt (rowL g v) q) = gt cs (gt (rowL g v) k) ∧ Way (EA g cs c (gt cs (gt (rowL g v) k))) (gt (rowL g v) k) (gt (rowL g v) q)) := fun h q q0 q1 => by
        by_cases e : q = j
        · rw [e]; exact h
        · exact hnj q q0 (by omega)
      refine gg ?_
      refine wl_v rfl rfl rfl (val_load rfl rfl (ag_of rfl) (fun w hst => by rw [← hsa]; exact (rowR v0 v1 hst (by (repeat (first | exact .here | refine .there ?_)))).cell hj0 (by omega))) ?_
      by_cases h3 : gt cs (gt (rowL g v) j) = gt cs (gt (rowL g v) k)
      · have hle : ∀ (b' : Bool), (b' = true ↔ Way (EA g cs c (gt cs (gt (rowL g v) k))) (gt (rowL g v) k) (gt (rowL g v) j)) → ∀ w', St w ((GrI z n kd y g R cs M ct).flatMap Res.fp) (GrI z n kd y g R cs M ct) w' → _ := fun b' hb' w' hst1 => leads_c (z := z) (n := n) (kd := kd) (y := y) (g := g) (R := R) (cs := cs) (M := M) (ct := ct) w' hm hn hsq hcs hx.1 hx.2 (by omega) c0 b' hb' (hrd.later hst1) hst1.own
        by_cases h4 : Way (EA g cs c (gt cs (gt (rowL g v) k))) (gt (rowL g v) k) (gt (rowL g v) j)
        · obtain rfl : b = true := hbad.2 ⟨k, hk0, hk, by omega, h2, j, hj0, hj, h3, h4⟩
          have hl2 := hle true (by simp [h4])
          refine gg ?_
          refine gwa [] ?_
          (repeat (first | refine gk1 ?_ | refine gk2 ?_ | refine gk3 ?_ | refine gk0 ?_ | refine gk4 ?_))
          dsimp only [List.nil_append]
          (first | refine ga1 0 (by exact rfl) (by exact rfl) ?_ | refine ga2 0 (by exact rfl) (by exact rfl) ?_ | refine ga3 0 (by exact rfl) (by exact rfl) ?_ | refine ga4 0 (by exact rfl) (by exact rfl) ?_)
          (first | refine ga1 1 (by exact rfl) (by exact rfl) ?_ | refine ga2 1 (by exact rfl) (by exact rfl) ?_ | refine ga3 1 (by exact rfl) (by exact rfl) ?_ | refine ga4 1 (by exact rfl) (by exact rfl) ?_)
          (first | refine ga1 2 (by exact rfl) (by exact rfl) ?_ | refine ga2 2 (by exact rfl) (by exact rfl) ?_ | refine ga3 2 (by exact rfl) (by exact rfl) ?_ | refine ga4 2 (by exact rfl) (by exact rfl) ?_)
          (first | refine ga1 3 (by exact rfl) (by exact rfl) ?_ | refine ga2 3 (by exact rfl) (by exact rfl) ?_ | refine ga3 3 (by exact rfl) (by exact rfl) ?_ | refine ga4 3 (by exact rfl) (by exact rfl) ?_)
          (first | refine ga1 4 (by exact rfl) (by exact rfl) ?_ | refine ga2 4 (by exact rfl) (by exact rfl) ?_ | refine ga3 4 (by exact rfl) (by exact rfl) ?_ | refine ga4 4 (by exact rfl) (by exact rfl) ?_)
          (first | refine ga1 5 (by exact rfl) (by exact rfl) ?_ | refine ga2 5 (by exact rfl) (by exact rfl) ?_ | refine ga3 5 (by exact rfl) (by exact rfl) ?_ | refine ga4 5 (by exact rfl) (by exact rfl) ?_)
          (first | refine ga1 6 (by exact rfl) (by exact rfl) ?_ | refine ga2 6 (by exact rfl) (by exact rfl) ?_ | refine ga3 6 (by exact rfl) (by exact rfl) ?_ | refine ga4 6 (by exact rfl) (by exact rfl) ?_)
          (first | refine ga1 7 (by exact rfl) (by exact rfl) ?_ | refine ga2 7 (by exact rfl) (by exact rfl) ?_ | refine ga3 7 (by exact rfl) (by exact rfl) ?_ | refine ga4 7 (by exact rfl) (by exact rfl) ?_)
          (first | refine ga1 8 (by exact rfl) (by exact rfl) ?_ | refine ga2 8 (by exact rfl) (by exact rfl) ?_ | refine ga3 8 (by exact rfl) (by exact rfl) ?_ | refine ga4 8 (by exact rfl) (by exact rfl) ?_)
          (first | refine ga1 9 (by exact rfl) (by exact rfl) ?_ | refine ga2 9 (by exact rfl) (by exact rfl) ?_ | refine ga3 9 (by exact rfl) (by exact rfl) ?_ | refine ga4 9 (by exact rfl) (by exact rfl) ?_)
          (first | refine ga1 10 (by exact rfl) (by exact rfl) ?_ | refine ga2 10 (by exact rfl) (by exact rfl) ?_ | refine ga3 10 (by exact rfl) (by exact rfl) ?_ | refine ga4 10 (by exact rfl) (by exact rfl) ?_)
          (first | refine ga1 11 (by exact rfl) (by exact rfl) ?_ | refine ga2 11 (by exact rfl) (by exact rfl) ?_ | refine ga3 11 (by exact rfl) (by exact rfl) ?_ | refine ga4 11 (by exact rfl) (by exact rfl) ?_)
          (first | refine ga1 12 (by exact rfl) (by exact rfl) ?_ | refine ga2 12 (by exact rfl) (by exact rfl) ?_ | refine ga3 12 (by exact rfl) (by exact rfl) ?_ | refine ga4 12 (by exact rfl) (by exact rfl) ?_)
          (first | refine ga1 13 (by exact rfl) (by exact rfl) ?_ | refine ga2 13 (by exact rfl) (by exact rfl) ?_ | refine ga3 13 (by exact rfl) (by exact rfl) ?_ | refine ga4 13 (by exact rfl) (by exact rfl) ?_)
          (first | refine ga1 14 (by exact rfl) (by exact rfl) ?_ | refine ga2 14 (by exact rfl) (by exact rfl) ?_ | refine ga3 14 (by exact rfl) (by exact rfl) ?_ | refine ga4 14 (by exact rfl) (by exact rfl) ?_)
          (first | refine ga1 15 (by exact rfl) (by exact rfl) ?_ | refine ga2 15 (by exact rfl) (by exact rfl) ?_ | refine ga3 15 (by exact rfl) (by exact rfl) ?_ | refine ga4 15 (by exact rfl) (by exact rfl) ?_)
          (first | refine ga1 16 (by exact rfl) (by exact rfl) ?_ | refine ga2 16 (by exact rfl) (by exact rfl) ?_ | refine ga3 16 (by exact rfl) (by exact rfl) ?_ | refine ga4 16 (by exact rfl) (by exact rfl) ?_)
          (first | refine ga1 17 (by exact rfl) (by exact rfl) ?_ | refine ga2 17 (by exact rfl) (by exact rfl) ?_ | refine ga3 17 (by exact rfl) (by exact rfl) ?_ | refine ga4 17 (by exact rfl) (by exact rfl) ?_)
          (first | refine ga1 18 (by exact rfl) (by exact rfl) ?_ | refine ga2 18 (by exact rfl) (by exact rfl) ?_ | refine ga3 18 (by exact rfl) (by exact rfl) ?_ | refine ga4 18 (by exact rfl) (by exact rfl) ?_)
          (first | refine ga1 19 (by exact rfl) (by exact rfl) ?_ | refine ga2 19 (by exact rfl) (by exact rfl) ?_ | refine ga3 19 (by exact rfl) (by exact rfl) ?_ | refine ga4 19 (by exact rfl) (by exact rfl) ?_)
          refine gaOne 20 rfl ?_
          refine gc30 (GrI z n kd y g R cs M ct) (fun w hst hst1 => hl2 w hst1) (by exact rfl) ?_
          dsimp only [GrI]
          (repeat (first | refine gk1 ?_ | refine gk2 ?_ | refine gk3 ?_ | refine gk0 ?_ | refine gk4 ?_))
          rintro _ _
          dsimp only [List.cons_append, List.nil_append]
          refine ⟨by (repeat (first | exact Suf.refl | exact Suf.nil | exact Suf.app _ _ | apply Suf.cons)), ?_⟩
          (first | refine ga1 21 (by exact rfl) (by exact rfl) ?_ | refine ga2 21 (by exact rfl) (by exact rfl) ?_ | refine ga3 21 (by exact rfl) (by exact rfl) ?_ | refine ga4 21 (by exact rfl) (by exact rfl) ?_)
          refine gaDone ?_
          refine gg ?_
          exact grt () trivial
        · have hl2 := hle false (by simp [h4])
          refine gg ?_
          refine gwa [] ?_
          (repeat (first | refine gk1 ?_ | refine gk2 ?_ | refine gk3 ?_ | refine gk0 ?_ | refine gk4 ?_))
          dsimp only [List.nil_append]
          (first | refine ga1 0 (by exact rfl) (by exact rfl) ?_ | refine ga2 0 (by exact rfl) (by exact rfl) ?_ | refine ga3 0 (by exact rfl) (by exact rfl) ?_ | refine ga4 0 (by exact rfl) (by exact rfl) ?_)
          (first | refine ga1 1 (by exact rfl) (by exact rfl) ?_ | refine ga2 1 (by exact rfl) (by exact rfl) ?_ | refine ga3 1 (by exact rfl) (by exact rfl) ?_ | refine ga4 1 (by exact rfl) (by exact rfl) ?_)
          (first | refine ga1 2 (by exact rfl) (by exact rfl) ?_ | refine ga2 2 (by exact rfl) (by exact rfl) ?_ | refine ga3 2 (by exact rfl) (by exact rfl) ?_ | refine ga4 2 (by exact rfl) (by exact rfl) ?_)
          (first | refine ga1 3 (by exact rfl) (by exact rfl) ?_ | refine ga2 3 (by exact rfl) (by exact rfl) ?_ | refine ga3 3 (by exact rfl) (by exact rfl) ?_ | refine ga4 3 (by exact rfl) (by exact rfl) ?_)
          (first | refine ga1 4 (by exact rfl) (by exact rfl) ?_ | refine ga2 4 (by exact rfl) (by exact rfl) ?_ | refine ga3 4 (by exact rfl) (by exact rfl) ?_ | refine ga4 4 (by exact rfl) (by exact rfl) ?_)
          (first | refine ga1 5 (by exact rfl) (by exact rfl) ?_ | refine ga2 5 (by exact rfl) (by exact rfl) ?_ | refine ga3 5 (by exact rfl) (by exact rfl) ?_ | refine ga4 5 (by exact rfl) (by exact rfl) ?_)
          (first | refine ga1 6 (by exact rfl) (by exact rfl) ?_ | refine ga2 6 (by exact rfl) (by exact rfl) ?_ | refine ga3 6 (by exact rfl) (by exact rfl) ?_ | refine ga4 6 (by exact rfl) (by exact rfl) ?_)
          (first | refine ga1 7 (by exact rfl) (by exact rfl) ?_ | refine ga2 7 (by exact rfl) (by exact rfl) ?_ | refine ga3 7 (by exact rfl) (by exact rfl) ?_ | refine ga4 7 (by exact rfl) (by exact rfl) ?_)
          (first | refine ga1 8 (by exact rfl) (by exact rfl) ?_ | refine ga2 8 (by exact rfl) (by exact rfl) ?_ | refine ga3 8 (by exact rfl) (by exact rfl) ?_ | refine ga4 8 (by exact rfl) (by exact rfl) ?_)
          (first | refine ga1 9 (by exact rfl) (by exact rfl) ?_ | refine ga2 9 (by exact rfl) (by exact rfl) ?_ | refine ga3 9 (by exact rfl) (by exact rfl) ?_ | refine ga4 9 (by exact rfl) (by exact rfl) ?_)
          (first | refine ga1 10 (by exact rfl) (by exact rfl) ?_ | refine ga2 10 (by exact rfl) (by exact rfl) ?_ | refine ga3 10 (by exact rfl) (by exact rfl) ?_ | refine ga4 10 (by exact rfl) (by exact rfl) ?_)
          (first | refine ga1 11 (by exact rfl) (by exact rfl) ?_ | refine ga2 11 (by exact rfl) (by exact rfl) ?_ | refine ga3 11 (by exact rfl) (by exact rfl) ?_ | refine ga4 11 (by exact rfl) (by exact rfl) ?_)
          (first | refine ga1 12 (by exact rfl) (by exact rfl) ?_ | refine ga2 12 (by exact rfl) (by exact rfl) ?_ | refine ga3 12 (by exact rfl) (by exact rfl) ?_ | refine ga4 12 (by exact rfl) (by exact rfl) ?_)
          (first | refine ga1 13 (by exact rfl) (by exact rfl) ?_ | refine ga2 13 (by exact rfl) (by exact rfl) ?_ | refine ga3 13 (by exact rfl) (by exact rfl) ?_ | refine ga4 13 (by exact rfl) (by exact rfl) ?_)
          (first | refine ga1 14 (by exact rfl) (by exact rfl) ?_ | refine ga2 14 (by exact rfl) (by exact rfl) ?_ | refine ga3 14 (by exact rfl) (by exact rfl) ?_ | refine ga4 14 (by exact rfl) (by exact rfl) ?_)
          (first | refine ga1 15 (by exact rfl) (by exact rfl) ?_ | refine ga2 15 (by exact rfl) (by exact rfl) ?_ | refine ga3 15 (by exact rfl) (by exact rfl) ?_ | refine ga4 15 (by exact rfl) (by exact rfl) ?_)
          (first | refine ga1 16 (by exact rfl) (by exact rfl) ?_ | refine ga2 16 (by exact rfl) (by exact rfl) ?_ | refine ga3 16 (by exact rfl) (by exact rfl) ?_ | refine ga4 16 (by exact rfl) (by exact rfl) ?_)
          (first | refine ga1 17 (by exact rfl) (by exact rfl) ?_ | refine ga2 17 (by exact rfl) (by exact rfl) ?_ | refine ga3 17 (by exact rfl) (by exact rfl) ?_ | refine ga4 17 (by exact rfl) (by exact rfl) ?_)
          (first | refine ga1 18 (by exact rfl) (by exact rfl) ?_ | refine ga2 18 (by exact rfl) (by exact rfl) ?_ | refine ga3 18 (by exact rfl) (by exact rfl) ?_ | refine ga4 18 (by exact rfl) (by exact rfl) ?_)
          (first | refine ga1 19 (by exact rfl) (by exact rfl) ?_ | refine ga2 19 (by exact rfl) (by exact rfl) ?_ | refine ga3 19 (by exact rfl) (by exact rfl) ?_ | refine ga4 19 (by exact rfl) (by exact rfl) ?_)
          refine gaOne 20 rfl ?_
          refine gc30 (GrI z n kd y g R cs M ct) (fun w hst hst1 => hl2 w hst1) (by exact rfl) ?_
          dsimp only [GrI]
          (repeat (first | refine gk1 ?_ | refine gk2 ?_ | refine gk3 ?_ | refine gk0 ?_ | refine gk4 ?_))
          rintro _ _
          dsimp only [List.cons_append, List.nil_append]
          refine ⟨by (repeat (first | exact Suf.refl | exact Suf.nil | exact Suf.app _ _ | apply Suf.cons)), ?_⟩
          (first | refine ga1 21 (by exact rfl) (by exact rfl) ?_ | refine ga2 21 (by exact rfl) (by exact rfl) ?_ | refine ga3 21 (by exact rfl) (by exact rfl) ?_ | refine ga4 21 (by exact rfl) (by exact rfl) ?_)
          refine gaDone ?_
          refine gg ?_
          exact gnx (j + 1) ⟨by omega, by omega, nxj fun h => h4 h.2⟩ (by omega)
      · refine gg ?_
        refine wc_quiet mixed (by kernel_rfl) ?_
        refine gg ?_
        exact gnx (j + 1) ⟨by omega, by omega, nxj fun h => h3 h.1⟩ (by omega)
    · obtain rfl : j = k := by omega
      refine gg ?_
      exact gnx (j + 1) ⟨by omega, by omega, nxt fun ⟨_, _, q, q0, q1, h⟩ => hnj q q0 q1 h⟩ (by omega)
  obtain rfl : k = (rowL g v).length := by omega
  obtain rfl : b = false := by
    cases b with
    | false => rfl
    | true =>
      obtain ⟨q, q0, q1, h⟩ := hbad.1 rfl
      exact (hno q q0 q1 h).elim
  refine gg ?_
  exact grt () trivial
end
section
variable {p g : Pat} {x : PA} {k : Int} {A : Option Addr} {c n : Nat} {l : List Int} {R : TX → List Res} {yf : TX → PA}
theorem greedy_acy (w : World) (hk : k = 5) (hm : May g) (hn : g.rows = n) (hsq : g.rows = g.width) (hev : Ev (hasB g)) (hirr : ∀ u, hasB g u u = false) (hl : Rds vi w A c l) (ho : IsOrd l n)
    (hord : ∀ w', Only [] w w' → Calls Try.prog 60 [vi k, pvl x p, .slice A l.length c].toArray w' (Ret [] (fun t : TX => .tuple #[.pointer (some ⟨t.tb, 0, none⟩), vi 0]) (ThR R yf k g) (fun _ => True) w')) (hrd : ∀ t, RdB w [] (R t) (yf t) g) :
    Calls Try.prog 21 [vi k, pvl x p, .slice A l.length c].toArray w (Ret [] (fun y : RX => .tuple #[.slice y.A y.xs.length y.c, vi (numS y.xs), vi 0]) (fun y => [osl TI vi y.A y.c y.xs]) (fun y => y.xs = greedyS k (hasB g) n l) w) := by
  have HG := hm.toHead
  have hn2 := HG.r1
  have hn0 := HG.r0
  have oL := hl.old
  have hll := ho.len
  have hon : On n (hasB g) := by rw [← hn]; exact hasB_on hm hsq
  unfold pvl patV at *
  refine calls_wc [] [] [.tmp 6, .tmp 7, .tmp 8] (fun y : RX => [.slice y.A y.xs.length y.c, vi (numS y.xs), vi 0]) Try.func21 rfl rfl (fun _ => rfl) Try.ntmps21 rfl (Own.nil w) rfl ?_
  refine gg ?_
  refine wl_op (ok_box rfl rfl rfl rfl rfl ?_); intro bp
  refine gg ?_
  refine gc3 [] (fun w hst hst1 => hord w hst1.only) (by exact rfl) ?_
  (repeat (first | refine gk1 ?_ | refine gk2 ?_ | refine gk3 ?_ | refine gk0 ?_ | refine gk4 ?_))
  rintro ⟨tb, NA, nc, y⟩ _
  dsimp only [List.cons_append, List.nil_append]
  generalize hRy : R ⟨tb, NA, nc, y⟩ = RR
  have hrd' := hrd ⟨tb, NA, nc, y⟩
  rw [hRy] at hrd'
  generalize yf ⟨tb, NA, nc, y⟩ = yy at hrd'
  have hnl := nearTo_len yy g (k := g.rows) hn0
  refine gg ?_
  refine wc_meetK (fun _ : GyX => True) (fun z => [(0, vi k), (2, .slice A l.length c), (11, .pointer (some ⟨z.gb, 0, none⟩))]) (fun z => GrI z n k yy g RR (List.replicate n 0) (List.replicate (n + 1) 0) 0) ?_ ?_
  · refine gwa [] ?_
    (repeat (first | refine gk1 ?_ | refine gk2 ?_ | refine gk3 ?_ | refine gk0 ?_ | refine gk4 ?_))
    dsimp only [List.cons_append, List.nil_append]
    (first | refine ga1 0 (by exact rfl) (by exact rfl) ?_ | refine ga2 0 (by exact rfl) (by exact rfl) ?_ | refine ga3 0 (by exact rfl) (by exact rfl) ?_ | refine ga4 0 (by exact rfl) (by exact rfl) ?_)
    (first | refine ga1 1 (by exact rfl) (by exact rfl) ?_ | refine ga2 1 (by exact rfl) (by exact rfl) ?_ | refine ga3 1 (by exact rfl) (by exact rfl) ?_ | refine ga4 1 (by exact rfl) (by exact rfl) ?_)
    (first | refine ga1 2 (by exact rfl) (by exact rfl) ?_ | refine ga2 2 (by exact rfl) (by exact rfl) ?_ | refine ga3 2 (by exact rfl) (by exact rfl) ?_ | refine ga4 2 (by exact rfl) (by exact rfl) ?_)
    (first | refine ga1 3 (by exact rfl) (by exact rfl) ?_ | refine ga2 3 (by exact rfl) (by exact rfl) ?_ | refine ga3 3 (by exact rfl) (by exact rfl) ?_ | refine ga4 3 (by exact rfl) (by exact rfl) ?_)
    (first | refine ga1 4 (by exact rfl) (by exact rfl) ?_ | refine ga2 4 (by exact rfl) (by exact rfl) ?_ | refine ga3 4 (by exact rfl) (by exact rfl) ?_ | refine ga4 4 (by exact rfl) (by exact rfl) ?_)
    (first | refine ga1 6 (by exact rfl) (by exact rfl) ?_ | refine ga2 6 (by exact rfl) (by exact rfl) ?_ | refine ga3 6 (by exact rfl) (by exact rfl) ?_ | refine ga4 6 (by exact rfl) (by exact rfl) ?_)
    (first | refine ga1 7 (by exact rfl) (by exact rfl) ?_ | refine ga2 7 (by exact rfl) (by exact rfl) ?_ | refine ga3 7 (by exact rfl) (by exact rfl) ?_ | refine ga4 7 (by exact rfl) (by exact rfl) ?_)
    (first | refine ga1 8 (by exact rfl) (by exact rfl) ?_ | refine ga2 8 (by exact rfl) (by exact rfl) ?_ | refine ga3 8 (by exact rfl) (by exact rfl) ?_ | refine ga4 8 (by exact rfl) (by exact rfl) ?_)
    (first | refine ga1 9 (by exact rfl) (by exact rfl) ?_ | refine ga2 9 (by exact rfl) (by exact rfl) ?_ | refine ga3 9 (by exact rfl) (by exact rfl) ?_ | refine ga4 9 (by exact rfl) (by exact rfl) ?_)
    (first | refine ga1 10 (by exact rfl) (by exact rfl) ?_ | refine ga2 10 (by exact rfl) (by exact rfl) ?_ | refine ga3 10 (by exact rfl) (by exact rfl) ?_ | refine ga4 10 (by exact rfl) (by exact rfl) ?_)
    refine gaAll [5, 11] ?_
    intro j hj
    simp only [List.mem_cons, List.not_mem_nil, or_false] at hj
    rcases hj with rfl | rfl
    · refine ⟨_, rfl, ?_⟩
      refine gmk0 vi 0 rfl rfl rfl rfl rfl rfl rfl rfl rfl rfl rfl (by omega) (Int.le_refl _) (by omega) (by omega) ?_
      intro cb
      rw [show g.rows.toNat = n by omega]
      refine ⟨by (repeat (first | exact Suf.refl | exact Suf.nil | exact Suf.app _ _ | apply Suf.cons)), ?_⟩
      refine gaOne 11 rfl ?_
      refine gmk0 vi 0 rfl rfl rfl rfl rfl rfl rfl rfl rfl rfl rfl (by omega) (Int.le_refl _) (by omega) (by omega) ?_
      intro mb
      rw [show (g.rows + 1).toNat = n + 1 by omega]
      refine ⟨by (repeat (first | exact Suf.refl | exact Suf.nil | exact Suf.app _ _ | apply Suf.cons)), ?_⟩
      refine wa_v 12 [_, _] rfl (by kernel_rfl) rfl rfl rfl rfl (val_build (ps := [(0, .pointer (some ⟨tb, 0, none⟩)), (1, .slice (some ⟨cb, 0, none⟩) n n), (2, .slice (some ⟨mb, 0, none⟩) (n + 1) (n + 1))]) (cells := [.pointer (some ⟨tb, 0, none⟩), .slice (some ⟨cb, 0, none⟩) n n, .slice (some ⟨mb, 0, none⟩) (n + 1) (n + 1), vi 0]) rfl rfl (by kernel_rfl)) ?_
      refine gaOne 13 rfl ?_
      refine ok_box rfl rfl rfl rfl rfl ?_
      intro gb
      refine ⟨by (repeat (first | exact Suf.refl | exact Suf.nil | exact Suf.app _ _ | apply Suf.cons)), ?_⟩
      (first | refine ga1 14 (by exact rfl) (by exact rfl) ?_ | refine ga2 14 (by exact rfl) (by exact rfl) ?_ | refine ga3 14 (by exact rfl) (by exact rfl) ?_ | refine ga4 14 (by exact rfl) (by exact rfl) ?_)
      refine gaDone ?_
      exact ⟨(⟨gb, cb, mb, tb, NA, nc⟩ : GyX), trivial, .cons rfl (.cons rfl (.cons rfl .nil)), by refine SubK.e ?_; (repeat (first | refine gk1 ?_ | refine gk2 ?_ | refine gk3 ?_ | refine gk0 ?_ | refine gk4 ?_)); trivial⟩
    · refine ⟨_, rfl, ?_⟩
      refine gmk0 vi 0 rfl rfl rfl rfl rfl rfl rfl rfl rfl rfl rfl (by omega) (Int.le_refl _) (by omega) (by omega) ?_
      intro mb
      rw [show (g.rows + 1).toNat = n + 1 by omega]
      refine ⟨by (repeat (first | exact Suf.refl | exact Suf.nil | exact Suf.app _ _ | apply Suf.cons)), ?_⟩
      refine gaOne 5 rfl ?_
      refine gmk0 vi 0 rfl rfl rfl rfl rfl rfl rfl rfl rfl rfl rfl (by omega) (Int.le_refl _) (by omega) (by omega) ?_
      intro cb
      rw [show g.rows.toNat = n by omega]
      refine ⟨by (repeat (first | exact Suf.refl | exact Suf.nil | exact Suf.app _ _ | apply Suf.cons)), ?_⟩
      refine wa_v 12 [_, _] rfl (by kernel_rfl) rfl rfl rfl rfl (val_build (ps := [(0, .pointer (some ⟨tb, 0, none⟩)), (1, .slice (some ⟨cb, 0, none⟩) n n), (2, .slice (some ⟨mb, 0, none⟩) (n + 1) (n + 1))]) (cells := [.pointer (some ⟨tb, 0, none⟩), .slice (some ⟨cb, 0, none⟩) n n, .slice (some ⟨mb, 0, none⟩) (n + 1) (n + 1), vi 0]) rfl rfl (by kernel_rfl)) ?_
      refine gaOne 13 rfl ?_
      refine ok_box rfl rfl rfl rfl rfl ?_
      intro gb
      refine ⟨by (repeat (first | exact Suf.refl | exact Suf.nil | exact Suf.app _ _ | apply Suf.cons)), ?_⟩
      (first | refine ga1 14 (by exact rfl) (by exact rfl) ?_ | refine ga2 14 (by exact rfl) (by exact rfl) ?_ | refine ga3 14 (by exact rfl) (by exact rfl) ?_ | refine ga4 14 (by exact rfl) (by exact rfl) ?_)
      refine gaDone ?_
      exact ⟨(⟨gb, cb, mb, tb, NA, nc⟩ : GyX), trivial, .cons rfl (.cons rfl (.cons rfl .nil)), by refine SubK.e ?_; (repeat (first | refine gk1 ?_ | refine gk2 ?_ | refine gk3 ?_ | refine gk0 ?_ | refine gk4 ?_)); trivial⟩
  rintro z _
  dsimp only [GrI]
  refine gg ?_
  refine glp (fun s : GrX => 0 ≤ s.k ∧ s.k ≤ n ∧ s.cs.length = n ∧ ∀ i, 0 ≤ i → i < s.k → gt s.cs i = -1) (fun s => [(0, vi k), (2, .slice A l.length c), (11, .pointer (some ⟨z.gb, 0, none⟩)), (44, vi n), (45, vi s.k)])
    (fun s => GrI z n k yy g RR s.cs (List.replicate (n + 1) 0) 0) (fun s => (n - s.k).toNat) ⟨0, List.replicate n 0, []⟩ ⟨by simp, by simp, by simp, fun i i0 i1 => by dsimp only at i1; omega⟩ ?_
  rintro ⟨j, cs, _⟩ ⟨hj0, hj1, hcl, hneg⟩
  dsimp only at hj0 hj1 hcl hneg ⊢
  by_cases hj : j < n
  · dsimp only [GrI]
    refine gg ?_
    exact gnx (⟨j + 1, cs.set j.toNat (-1), []⟩ : GrX) ⟨by dsimp only; omega, by dsimp only; omega, by dsimp only; rw [List.length_set]; exact hcl, fun i i0 i1 => by
      dsimp only at i1 ⊢
      rw [gt_setI hj0 (by omega) i0]
      by_cases e : i = j
      · rw [if_pos e]
      · rw [if_neg e]; exact hneg i i0 (by omega)⟩ (by dsimp only; omega)
  obtain rfl : j = n := by omega
  obtain rfl : cs = List.replicate n (-1) := ext_gt (by simpa using hcl) fun i i0 i1 => by
    rw [hneg i i0 (by omega), gt_elem i0 (by simp; omega)]; simp
  clear hneg hj0 hj1 hcl hj
  dsimp only [GrI]
  refine gg ?_
  refine glp (fun s : GrX => 0 ≤ s.k ∧ s.k ≤ n ∧ s.cs = greedyS k (hasB g) n (l.take s.k.toNat) ∧ GI (hasB g) n (l.take s.k.toNat) s.cs ∧ s.M.length = n + 1 ∧ ∀ i : Int, 0 ≤ i → i ≤ n → gt s.M i ≤ s.k) (fun s => [(0, vi k), (11, .pointer (some ⟨z.gb, 0, none⟩)), (55, .slice A l.length c), (56, vi l.length), (57, vi s.k)])
    (fun s => GrI z n k yy g RR s.cs s.M s.k) (fun s => (n - s.k).toNat) ⟨0, List.replicate n (-1), List.replicate (n + 1) 0⟩ ⟨by simp, by simp, rfl, GI.zero hon, by simp, fun i i0 i1 => by dsimp only; rw [gt_elem i0 (by simp; omega)]; simp⟩ ?_
  rintro ⟨j, cs, M⟩ ⟨hj0, hj1, hcs, hGI, hMl, hMb⟩
  dsimp only at hj0 hj1 hcs hGI hMl hMb ⊢
  have hcl := hGI.len
  have hCs : CsOK n cs := ⟨hcl, fun u u0 u1 => by
    by_cases hu : u ∈ l.take j.toNat
    · have := hGI.on u u0 u1 hu; omega
    · have := hGI.off u u0 u1 hu; omega⟩
  by_cases hj : j < n
  · have hv := ho.rng j hj0 hj
    have htk : (l.take j.toNat).length = j.toNat := by rw [List.length_take]; omega
    have hnin : gt l j ∉ l.take j.toNat := fun hmem => by
      obtain ⟨i, i0, i1, e⟩ := mem_gt hmem
      rw [htk] at i1
      have e2 : gt (l.take j.toNat) i = gt l i := by
        rw [gt_elem i0 (by rw [htk]; exact i1), gt_elem i0 (by omega)]
        simp
      rw [e2] at e
      have := ho.inj i j i0 (by omega) hj0 hj e
      omega
    have hnext : l.take (j + 1).toNat = l.take j.toNat ++ [gt l j] := by
      rw [show (j + 1).toNat = j.toNat + 1 by omega, List.take_add_one, List.getElem?_eq_getElem (by omega), gt_elem hj0 (by omega)]
      rfl
    obtain ⟨c0, c00, c01, hfr⟩ := hGI.fresh hon
    rw [htk] at c01
    have hfr := hfr k (gt l j)
    dsimp only [GrI]
    refine gg ?_
    generalize hvv : gt l j = v at hv hnin hnext hfr
    refine gc3 (GrI z n k yy g RR cs M (j + 1)) (fun w hst hst1 => forbid_c w hm hn hsq hCs hMl hv.1 hv.2 ((hrd'.later hst1)) hst1.own) (by exact rfl) ?_
    dsimp only [GrI]
    (repeat (first | refine gk1 ?_ | refine gk2 ?_ | refine gk3 ?_ | refine gk0 ?_ | refine gk4 ?_))
    rintro M' hMk
    dsimp only [GrI, List.cons_append, List.nil_append]
    have hM'l := hMk.len
    have hsame : ∀ d : Int, (badN (hasB g) n cs v d || (decide (k = 4) && badS (hasB g) n cs v d)) = badN (hasB g) n cs v d := fun d => by rw [decide_eq_false (by omega), Bool.false_and, Bool.or_false]
    have hmark : ∀ d : Int, 0 ≤ d → d ≤ n → (gt M' d = j + 1 ↔ badN (hasB g) n cs v d = true) := fun d d0 d1 => by
      constructor
      · intro h
        apply Classical.byContradiction
        intro hb
        have := hMk.off d d0 d1 (by rw [hsame]; exact hb)
        have := hMb d d0 d1
        omega
      · intro h
        exact hMk.on d d0 d1 (by rw [hsame]; exact h)
    have hM'b : ∀ i : Int, 0 ≤ i → i ≤ n → gt M' i ≤ j + 1 := fun i i0 i1 => by
      by_cases hb : (badN (hasB g) n cs v i || (decide (k = 4) && badS (hasB g) n cs v i)) = true
      · rw [hMk.on i i0 i1 hb]; omega
      · rw [hMk.off i i0 i1 hb]; have := hMb i i0 i1; omega
    refine gg ?_
    refine glp (fun d : Int => 0 ≤ d ∧ d ≤ c0 ∧ ∀ e : Int, 0 ≤ e → e < d → badB k (hasB g) n cs v e = true) (fun d => [(0, vi k), (11, .pointer (some ⟨z.gb, 0, none⟩)), (14, vi v), (15, vi d), (55, .slice A l.length c), (56, vi l.length), (57, vi j)])
      (fun d => GrI z n k yy g RR cs M' (j + 1)) (fun d => (c0 - d).toNat) 0 ⟨by omega, by omega, fun e e0 e1 => by omega⟩ ?_
    rintro d ⟨hd0, hd1, hdb⟩
    dsimp only [GrI]
    have hmd := hmark d hd0 (by omega)
    have hbB : badB k (hasB g) n cs v d = (badN (hasB g) n cs v d || badA (hasB g) n cs v d) := by
      unfold badB
      rw [decide_eq_false (by omega), Bool.false_and, Bool.false_or, decide_eq_true hk, Bool.true_and]
    cases hbn : badN (hasB g) n cs v d with
    | true =>
      have hbd : badB k (hasB g) n cs v d = true := by rw [hbB, hbn]; rfl
      have hne : d ≠ c0 := fun e => by rw [e, hfr] at hbd; cases hbd
      have hmd' := hmd.2 hbn
      refine gg ?_
      refine wc_quiet mixed (by kernel_rfl) ?_
      refine gg ?_
      exact gnx (d + 1) ⟨by omega, by omega, fun e e0 e1 => by
        by_cases h : e = d
        · rw [h]; exact hbd
        · exact hdb e e0 (by omega)⟩ (by omega)
    | false =>
      have hmd' : gt M' d ≠ j + 1 := fun h => by rw [hmd.1 h] at hbn; cases hbn
      cases hba : badA (hasB g) n cs v d with
      | true =>
        have hbd : badB k (hasB g) n cs v d = true := by rw [hbB, hbn, hba]; rfl
        have hne : d ≠ c0 := fun e => by rw [e, hfr] at hbd; cases hbd
        refine gg ?_
        refine gwa [] ?_
        (repeat (first | refine gk1 ?_ | refine gk2 ?_ | refine gk3 ?_ | refine gk0 ?_ | refine gk4 ?_))
        dsimp only [List.nil_append]
        (first | refine ga1 0 (by exact rfl) (by exact rfl) ?_ | refine ga2 0 (by exact rfl) (by exact rfl) ?_ | refine ga3 0 (by exact rfl) (by exact rfl) ?_ | refine ga4 0 (by exact rfl) (by exact rfl) ?_)
        (first | refine ga1 1 (by exact rfl) (by exact rfl) ?_ | refine ga2 1 (by exact rfl) (by exact rfl) ?_ | refine ga3 1 (by exact rfl) (by exact rfl) ?_ | refine ga4 1 (by exact rfl) (by exact rfl) ?_)
        (first | refine ga1 2 (by exact rfl) (by exact rfl) ?_ | refine ga2 2 (by exact rfl) (by exact rfl) ?_ | refine ga3 2 (by exact rfl) (by exact rfl) ?_ | refine ga4 2 (by exact rfl) (by exact rfl) ?_)
        (first | refine ga1 3 (by exact rfl) (by exact rfl) ?_ | refine ga2 3 (by exact rfl) (by exact rfl) ?_ | refine ga3 3 (by exact rfl) (by exact rfl) ?_ | refine ga4 3 (by exact rfl) (by exact rfl) ?_)
        (first | refine ga1 4 (by exact rfl) (by exact rfl) ?_ | refine ga2 4 (by exact rfl) (by exact rfl) ?_ | refine ga3 4 (by exact rfl) (by exact rfl) ?_ | refine ga4 4 (by exact rfl) (by exact rfl) ?_)
        (first | refine ga1 5 (by exact rfl) (by exact rfl) ?_ | refine ga2 5 (by exact rfl) (by exact rfl) ?_ | refine ga3 5 (by exact rfl) (by exact rfl) ?_ | refine ga4 5 (by exact rfl) (by exact rfl) ?_)
        (first | refine ga1 6 (by exact rfl) (by exact rfl) ?_ | refine ga2 6 (by exact rfl) (by exact rfl) ?_ | refine ga3 6 (by exact rfl) (by exact rfl) ?_ | refine ga4 6 (by exact rfl) (by exact rfl) ?_)
        (first | refine ga1 7 (by exact rfl) (by exact rfl) ?_ | refine ga2 7 (by exact rfl) (by exact rfl) ?_ | refine ga3 7 (by exact rfl) (by exact rfl) ?_ | refine ga4 7 (by exact rfl) (by exact rfl) ?_)
        (first | refine ga1 8 (by exact rfl) (by exact rfl) ?_ | refine ga2 8 (by exact rfl) (by exact rfl) ?_ | refine ga3 8 (by exact rfl) (by exact rfl) ?_ | refine ga4 8 (by exact rfl) (by exact rfl) ?_)
        (first | refine ga1 9 (by exact rfl) (by exact rfl) ?_ | refine ga2 9 (by exact rfl) (by exact rfl) ?_ | refine ga3 9 (by exact rfl) (by exact rfl) ?_ | refine ga4 9 (by exact rfl) (by exact rfl) ?_)
        (first | refine ga1 10 (by exact rfl) (by exact rfl) ?_ | refine ga2 10 (by exact rfl) (by exact rfl) ?_ | refine ga3 10 (by exact rfl) (by exact rfl) ?_ | refine ga4 10 (by exact rfl) (by exact rfl) ?_)
        (first | refine ga1 11 (by exact rfl) (by exact rfl) ?_ | refine ga2 11 (by exact rfl) (by exact rfl) ?_ | refine ga3 11 (by exact rfl) (by exact rfl) ?_ | refine ga4 11 (by exact rfl) (by exact rfl) ?_)
        (first | refine ga1 12 (by exact rfl) (by exact rfl) ?_ | refine ga2 12 (by exact rfl) (by exact rfl) ?_ | refine ga3 12 (by exact rfl) (by exact rfl) ?_ | refine ga4 12 (by exact rfl) (by exact rfl) ?_)
        (first | refine ga1 13 (by exact rfl) (by exact rfl) ?_ | refine ga2 13 (by exact rfl) (by exact rfl) ?_ | refine ga3 13 (by exact rfl) (by exact rfl) ?_ | refine ga4 13 (by exact rfl) (by exact rfl) ?_)
        (first | refine ga1 14 (by exact rfl) (by exact rfl) ?_ | refine ga2 14 (by exact rfl) (by exact rfl) ?_ | refine ga3 14 (by exact rfl) (by exact rfl) ?_ | refine ga4 14 (by exact rfl) (by exact rfl) ?_)
        (first | refine ga1 15 (by exact rfl) (by exact rfl) ?_ | refine ga2 15 (by exact rfl) (by exact rfl) ?_ | refine ga3 15 (by exact rfl) (by exact rfl) ?_ | refine ga4 15 (by exact rfl) (by exact rfl) ?_)
        (first | refine ga1 16 (by exact rfl) (by exact rfl) ?_ | refine ga2 16 (by exact rfl) (by exact rfl) ?_ | refine ga3 16 (by exact rfl) (by exact rfl) ?_ | refine ga4 16 (by exact rfl) (by exact rfl) ?_)
        (first | refine ga1 17 (by exact rfl) (by exact rfl) ?_ | refine ga2 17 (by exact rfl) (by exact rfl) ?_ | refine ga3 17 (by exact rfl) (by exact rfl) ?_ | refine ga4 17 (by exact rfl) (by exact rfl) ?_)
        (first | refine ga1 18 (by exact rfl) (by exact rfl) ?_ | refine ga2 18 (by exact rfl) (by exact rfl) ?_ | refine ga3 18 (by exact rfl) (by exact rfl) ?_ | refine ga4 18 (by exact rfl) (by exact rfl) ?_)
        refine gaOne 19 rfl ?_
        refine gc30 (GrI z n k yy g RR cs M' (j + 1)) (fun w hst hst1 => closes_c w hm hn hsq hCs hv.1 hv.2 hd0 true hba (hrd'.later hst1) hst1.own) (by exact rfl) ?_
        dsimp only [GrI]
        (repeat (first | refine gk1 ?_ | refine gk2 ?_ | refine gk3 ?_ | refine gk0 ?_ | refine gk4 ?_))
        rintro _ _
        dsimp only [List.cons_append, List.nil_append]
        refine ⟨by (repeat (first | exact Suf.refl | exact Suf.nil | exact Suf.app _ _ | apply Suf.cons)), ?_⟩
        (first | refine ga1 20 (by exact rfl) (by exact rfl) ?_ | refine ga2 20 (by exact rfl) (by exact rfl) ?_ | refine ga3 20 (by exact rfl) (by exact rfl) ?_ | refine ga4 20 (by exact rfl) (by exact rfl) ?_)
        (first | refine ga1 21 (by exact rfl) (by exact rfl) ?_ | refine ga2 21 (by exact rfl) (by exact rfl) ?_ | refine ga3 21 (by exact rfl) (by exact rfl) ?_ | refine ga4 21 (by exact rfl) (by exact rfl) ?_)
        refine gaDone ?_
        refine gg ?_
        exact gnx (d + 1) ⟨by omega, by omega, fun e e0 e1 => by
          by_cases h : e = d
          · rw [h]; exact hbd
          · exact hdb e e0 (by omega)⟩ (by omega)
      | false =>
        have hbd : badB k (hasB g) n cs v d = false := by rw [hbB, hbn, hba]; rfl
        have hlc : leastC (badB k (hasB g) n cs v) (n + 1) 0 = d := leastC_eq c00 (by omega) hfr hd0 hbd hdb
        have hGI2 := hGI.next hon hev hirr hv.1 hv.2 hnin (by rw [htk]; omega) hd0 (by omega) hbn
        have hcs2 : cs.set v.toNat d = greedyS k (hasB g) n (l.take (j + 1).toNat) := by
          rw [hnext]
          unfold greedyS
          rw [greedyL_snoc]
          unfold greedyS at hcs
          rw [← hcs, hlc]
        refine gg ?_
        refine gwa [] ?_
        (repeat (first | refine gk1 ?_ | refine gk2 ?_ | refine gk3 ?_ | refine gk0 ?_ | refine gk4 ?_))
        dsimp only [List.nil_append]
        (first | refine ga1 0 (by exact rfl) (by exact rfl) ?_ | refine ga2 0 (by exact rfl) (by exact rfl) ?_ | refine ga3 0 (by exact rfl) (by exact rfl) ?_ | refine ga4 0 (by exact rfl) (by exact rfl) ?_)
        (first | refine ga1 1 (by exact rfl) (by exact rfl) ?_ | refine ga2 1 (by exact rfl) (by exact rfl) ?_ | refine ga3 1 (by exact rfl) (by exact rfl) ?_ | refine ga4 1 (by exact rfl) (by exact rfl) ?_)
        (first | refine ga1 2 (by exact rfl) (by exact rfl) ?_ | refine ga2 2 (by exact rfl) (by exact rfl) ?_ | refine ga3 2 (by exact rfl) (by exact rfl) ?_ | refine ga4 2 (by exact rfl) (by exact rfl) ?_)
        (first | refine ga1 3 (by exact rfl) (by exact rfl) ?_ | refine ga2 3 (by exact rfl) (by exact rfl) ?_ | refine ga3 3 (by exact rfl) (by exact rfl) ?_ | refine ga4 3 (by exact rfl) (by exact rfl) ?_)
        (first | refine ga1 4 (by exact rfl) (by exact rfl) ?_ | refine ga2 4 (by exact rfl) (by exact rfl) ?_ | refine ga3 4 (by exact rfl) (by exact rfl) ?_ | refine ga4 4 (by exact rfl) (by exact rfl) ?_)
        (first | refine ga1 5 (by exact rfl) (by exact rfl) ?_ | refine ga2 5 (by exact rfl) (by exact rfl) ?_ | refine ga3 5 (by exact rfl) (by exact rfl) ?_ | refine ga4 5 (by exact rfl) (by exact rfl) ?_)
        (first | refine ga1 6 (by exact rfl) (by exact rfl) ?_ | refine ga2 6 (by exact rfl) (by exact rfl) ?_ | refine ga3 6 (by exact rfl) (by exact rfl) ?_ | refine ga4 6 (by exact rfl) (by exact rfl) ?_)
        (first | refine ga1 7 (by exact rfl) (by exact rfl) ?_ | refine ga2 7 (by exact rfl) (by exact rfl) ?_ | refine ga3 7 (by exact rfl) (by exact rfl) ?_ | refine ga4 7 (by exact rfl) (by exact rfl) ?_)
        (first | refine ga1 8 (by exact rfl) (by exact rfl) ?_ | refine ga2 8 (by exact rfl) (by exact rfl) ?_ | refine ga3 8 (by exact rfl) (by exact rfl) ?_ | refine ga4 8 (by exact rfl) (by exact rfl) ?_)
        (first | refine ga1 9 (by exact rfl) (by exact rfl) ?_ | refine ga2 9 (by exact rfl) (by exact rfl) ?_ | refine ga3 9 (by exact rfl) (by exact rfl) ?_ | refine ga4 9 (by exact rfl) (by exact rfl) ?_)
        (first | refine ga1 10 (by exact rfl) (by exact rfl) ?_ | refine ga2 10 (by exact rfl) (by exact rfl) ?_ | refine ga3 10 (by exact rfl) (by exact rfl) ?_ | refine ga4 10 (by exact rfl) (by exact rfl) ?_)
        (first | refine ga1 11 (by exact rfl) (by exact rfl) ?_ | refine ga2 11 (by exact rfl) (by exact rfl) ?_ | refine ga3 11 (by exact rfl) (by exact rfl) ?_ | refine ga4 11 (by exact rfl) (by exact rfl) ?_)
        (first | refine ga1 12 (by exact rfl) (by exact rfl) ?_ | refine ga2 12 (by exact rfl) (by exact rfl) ?_ | refine ga3 12 (by exact rfl) (by exact rfl) ?_ | refine ga4 12 (by exact rfl) (by exact rfl) ?_)
        (first | refine ga1 13 (by exact rfl) (by exact rfl) ?_ | refine ga2 13 (by exact rfl) (by exact rfl) ?_ | refine ga3 13 (by exact rfl) (by exact rfl) ?_ | refine ga4 13 (by exact rfl) (by exact rfl) ?_)
        (first | refine ga1 14 (by exact rfl) (by exact rfl) ?_ | refine ga2 14 (by exact rfl) (by exact rfl) ?_ | refine ga3 14 (by exact rfl) (by exact rfl) ?_ | refine ga4 14 (by exact rfl) (by exact rfl) ?_)
        (first | refine ga1 15 (by exact rfl) (by exact rfl) ?_ | refine ga2 15 (by exact rfl) (by exact rfl) ?_ | refine ga3 15 (by exact rfl) (by exact rfl) ?_ | refine ga4 15 (by exact rfl) (by exact rfl) ?_)
        (first | refine ga1 16 (by exact rfl) (by exact rfl) ?_ | refine ga2 16 (by exact rfl) (by exact rfl) ?_ | refine ga3 16 (by exact rfl) (by exact rfl) ?_ | refine ga4 16 (by exact rfl) (by exact rfl) ?_)
        (first | refine ga1 17 (by exact rfl) (by exact rfl) ?_ | refine ga2 17 (by exact rfl) (by exact rfl) ?_ | refine ga3 17 (by exact rfl) (by exact rfl) ?_ | refine ga4 17 (by exact rfl) (by exact rfl) ?_)
        (first | refine ga1 18 (by exact rfl) (by exact rfl) ?_ | refine ga2 18 (by exact rfl) (by exact rfl) ?_ | refine ga3 18 (by exact rfl) (by exact rfl) ?_ | refine ga4 18 (by exact rfl) (by exact rfl) ?_)
        refine gaOne 19 rfl ?_
        refine gc30 (GrI z n k yy g RR cs M' (j + 1)) (fun w hst hst1 => closes_c w hm hn hsq hCs hv.1 hv.2 hd0 false hba (hrd'.later hst1) hst1.own) (by exact rfl) ?_
        dsimp only [GrI]
        (repeat (first | refine gk1 ?_ | refine gk2 ?_ | refine gk3 ?_ | refine gk0 ?_ | refine gk4 ?_))
        rintro _ _
        dsimp only [List.cons_append, List.nil_append]
        refine ⟨by (repeat (first | exact Suf.refl | exact Suf.nil | exact Suf.app _ _ | apply Suf.cons)), ?_⟩
        (first | refine ga1 20 (by exact rfl) (by exact rfl) ?_ | refine ga2 20 (by exact rfl) (by exact rfl) ?_ | refine ga3 20 (by exact rfl) (by exact rfl) ?_ | refine ga4 20 (by exact rfl) (by exact rfl) ?_)
        (first | refine ga1 21 (by exact rfl) (by exact rfl) ?_ | refine ga2 21 (by exact rfl) (by exact rfl) ?_ | refine ga3 21 (by exact rfl) (by exact rfl) ?_ | refine ga4 21 (by exact rfl) (by exact rfl) ?_)
        refine gaDone ?_
        refine gg ?_
        exact gnx (⟨j + 1, cs.set v.toNat d, M'⟩ : GrX) ⟨by dsimp only; omega, by dsimp only; omega, hcs2, by dsimp only; rw [hnext]; exact hGI2, hM'l, hM'b⟩ (by dsimp only; omega)
  obtain rfl : j = n := by omega
  rw [Int.toNat_natCast, List.take_of_length_le (by omega)] at hcs hGI
  have hmr : ∀ e ∈ cs, -1 ≤ e ∧ e < 100000 := fun e he => by
    obtain ⟨i, i0, i1, h⟩ := mem_gt he
    have := hCs.rng i i0 (by omega)
    omega
  have hnum : ∀ w, Rds vi w (some ⟨z.cb, 0, none⟩) n cs → Calls Try.prog 63 [.slice (some ⟨z.cb, 0, none⟩) n n].toArray w (one (vi (numS cs)) w) := fun w h => by
    have := number_c w h hmr (by omega)
    rwa [hcl] at this
  dsimp only [GrI]
  refine gg ?_
  refine wc_quiet mixed (by kernel_rfl) ?_
  refine gg ?_
  refine gc2 (fun w hst => hnum w (grd hst)) (by exact rfl) ?_
  refine gg ?_
  exact grt (⟨some ⟨z.cb, 0, none⟩, n, cs⟩ : RX) hcs (h1 := ⟨.t (look_to rfl (by rw [hcl])), .t rfl, .t rfl, trivial⟩)
end
end Go.Proofs.Ytoiiellaoikojaa
