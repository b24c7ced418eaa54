/- Plain: circles by sets that are joined: an edge more closes one just if its ends hang together. Walks: colours: circle (sets that are joined, one for each two colours, in a map). Walks: colours: circle, the walk. -/
import Derived.Test.YtoiiellaoikojaaOC
import Derived.DeepKeys3
import Derived.Maps.Views
import Derived.Maps.OwnSet
set_option linter.unusedVariables false
set_option linter.unusedSimpArgs false
set_option maxRecDepth 100000
set_option maxHeartbeats 8000000
namespace Go.Proofs.Ytoiiellaoikojaa
open Go.RowKit Classical Go.Maps
/-- an edge more -/
def Plus (E : Int → Int → Bool) (u v x y : Int) : Bool := E x y || (x == u && y == v || x == v && y == u)
theorem plus_iff {E : Int → Int → Bool} {u v x y : Int} : Plus E u v x y = true ↔ E x y = true ∨ (x = u ∧ y = v) ∨ (x = v ∧ y = u) := by
  unfold Plus
  simp
section
variable {E : Int → Int → Bool} {n : Nat} {u w : Int}
theorem plus_ev (hev : ∀ x y, E x y = true → E y x = true) : ∀ x y, Plus E u w x y = true → Plus E u w y x = true := fun x y h => by
  rw [plus_iff] at h ⊢
  rcases h with h | ⟨h1, h2⟩ | ⟨h1, h2⟩
  · exact .inl (hev _ _ h)
  · exact .inr (.inr ⟨h2, h1⟩)
  · exact .inr (.inl ⟨h2, h1⟩)
theorem two_plus {S : Int → Prop} {x : Int} (h : Two E S x) : Two (Plus E u w) S x := by
  obtain ⟨a, b, h1, h2, h3, h4, h5⟩ := h
  exact ⟨a, b, h1, h2, h3, plus_iff.2 (.inl h4), plus_iff.2 (.inl h5)⟩
/-- the ends hang together: the new edge makes a core -/
theorem core_edge (hev : ∀ x y, E x y = true → E y x = true) (huw : u ≠ w) (hnew : E u w = false) : ∀ (m : Nat) (S : Int → Prop), cntQ S n ≤ m → (∀ x, S x → 0 ≤ x ∧ x < n) → S u → S w → Way (Wi E S) u w → ∃ T : Int → Prop, (∃ x, T x) ∧ (∀ x, T x → S x) ∧ Core (Plus E u w) T := by
  intro m
  induction m with
  | zero =>
    intro S hm hS hu hw hway
    have := cntQ_del (n := n) (hS u hu).1 (hS u hu).2 hu
    omega
  | succ m ih =>
    intro S hm hS hu hw hway
    by_cases hc : Core (Plus E u w) S
    · exact ⟨_, ⟨u, hu⟩, fun x h => h, hc⟩
    · have : ∃ x, S x ∧ ¬ Two (Plus E u w) S x := by
        apply Classical.byContradiction
        intro hn
        exact hc fun x hx => Classical.byContradiction fun h => hn ⟨x, hx, h⟩
      obtain ⟨x, hx, ht⟩ := this
      have hxu : x ≠ u := fun e => by
        obtain ⟨y, hy⟩ := way_first hway huw
        obtain ⟨h1, _, h3⟩ := wi_iff.1 hy
        have hyw : y ≠ w := fun h => by rw [h, hnew] at h1; cases h1
        exact ht (by rw [e]; exact ⟨y, w, hyw, h3, hw, plus_iff.2 (.inl h1), plus_iff.2 (.inr (.inl ⟨rfl, rfl⟩))⟩)
      have hxw : x ≠ w := fun e => by
        obtain ⟨y, hy⟩ := way_first (Way.symm (E := Wi E S) (fun a b h => by rw [wi_iff] at h ⊢; exact ⟨hev _ _ h.1, h.2.2, h.2.1⟩) hway) huw.symm
        obtain ⟨h1, _, h3⟩ := wi_iff.1 hy
        have hyu : y ≠ u := fun h => by rw [h] at h1; have := hev _ _ h1; rw [hnew] at this; cases this
        exact ht (by rw [e]; exact ⟨y, u, hyu, h3, hu, plus_iff.2 (.inl h1), plus_iff.2 (.inr (.inr ⟨rfl, rfl⟩))⟩)
      have hcut := (way_cut hev hxu.symm (fun h => ht (two_plus h)) hway).1 hxw.symm
      have hd := cntQ_del (n := n) (hS x hx).1 (hS x hx).2 hx
      obtain ⟨T, h1, h2, h3⟩ := ih (fun y => S y ∧ y ≠ x) (by omega) (fun y hy => hS y hy.1) ⟨hu, hxu.symm⟩ ⟨hw, hxw.symm⟩ hcut
      exact ⟨T, h1, fun y hy => (h2 y hy).1, h3⟩
/-- the ends do not hang together: the new edge makes none -/
theorem edge_core (hev : ∀ x y, E x y = true → E y x = true) (hirr : ∀ x, E x x = false) (huw : u ≠ w) {T : Int → Prop} (hT : ∀ x, T x → 0 ≤ x ∧ x < n) (hne : ∃ x, T x) (hc : Core (Plus E u w) T) (hno : ¬ Way E u w) : ∃ U : Int → Prop, (∃ x, U x) ∧ (∀ x, U x → T x) ∧ Core E U := by
  by_cases hb : T u ∧ T w
  · obtain ⟨hu, hw⟩ := hb
    have hK : ∀ x, Way (Wi E T) u x → T x ∧ x ≠ w := fun x hx => by
      refine ⟨?_, fun e => hno (way_mono (by rw [← e]; exact hx) fun a b _ h => (wi_iff.1 h).1)⟩
      cases hx with
      | refl => exact hu
      | step _ he => exact (wi_iff.1 he).2.2
    have stay : ∀ x b, Way (Wi E T) u x → T b → E x b = true → Way (Wi E T) u b := fun x b hx hb hxb => .step hx (wi_iff.2 ⟨hxb, (hK x hx).1, hb⟩)
    obtain ⟨U, k1, k2, k3⟩ := core_near (n := n) (g := E) (cntQ (fun x => Way (Wi E T) u x) n) (fun x => Way (Wi E T) u x) u (Nat.le_refl _) (fun x hx => hT x (hK x hx).1) hev hirr (.refl _) (by
      obtain ⟨p, q, e1, e2, e3, e4, e5⟩ := hc u hu
      rcases plus_iff.1 e4 with h | ⟨_, h⟩ | ⟨h, _⟩
      · exact ⟨p, stay u p (.refl _) e2 h, h⟩
      · rcases plus_iff.1 e5 with h' | ⟨_, h'⟩ | ⟨h', _⟩
        · exact ⟨q, stay u q (.refl _) e3 h', h'⟩
        · exact (e1 (by rw [h, h'])).elim
        · exact (huw h').elim
      · exact (huw h).elim) (fun x hx hxu => by
      obtain ⟨p, q, e1, e2, e3, e4, e5⟩ := hc x (hK x hx).1
      have low : ∀ b, Plus E u w x b = true → E x b = true := fun b h => by
        rcases plus_iff.1 h with h | ⟨h, _⟩ | ⟨h, _⟩
        · exact h
        · exact (hxu h).elim
        · exact ((hK x hx).2 h).elim
      exact ⟨p, q, e1, stay x p hx e2 (low p e4), stay x q hx e3 (low q e5), low p e4, low q e5⟩)
    exact ⟨U, k1, fun x hx => (hK x (k2 x hx)).1, k3⟩
  · refine ⟨T, hne, fun x h => h, fun x hx => ?_⟩
    obtain ⟨p, q, e1, e2, e3, e4, e5⟩ := hc x hx
    have low : ∀ b, T b → Plus E u w x b = true → E x b = true := fun b hb' h => by
      rcases plus_iff.1 h with h | ⟨h1, h2⟩ | ⟨h1, h2⟩
      · exact h
      · exact (hb ⟨by rw [← h1]; exact hx, by rw [← h2]; exact hb'⟩).elim
      · exact (hb ⟨by rw [← h2]; exact hb', by rw [← h1]; exact hx⟩).elim
    exact ⟨p, q, e1, e2, e3, low p e2 e4, low q e3 e5⟩
/-- there is a core -/
def HasC (n : Nat) (E : Int → Int → Bool) : Prop := ∃ S : Int → Prop, (∃ x, S x) ∧ (∀ x, S x → 0 ≤ x ∧ x < n) ∧ Core E S
theorem hasC_plus (hev : ∀ x y, E x y = true → E y x = true) (hirr : ∀ x, E x x = false) (hon : ∀ x y, E x y = true → (0 ≤ x ∧ x < n) ∧ 0 ≤ y ∧ y < n) (huw : u ≠ w) (hu : 0 ≤ u ∧ u < n) (hw : 0 ≤ w ∧ w < n) (hnew : E u w = false) : HasC n (Plus E u w) ↔ HasC n E ∨ Way E u w := by
  constructor
  · rintro ⟨S, h1, h2, h3⟩
    by_cases hy : Way E u w
    · exact .inr hy
    · obtain ⟨U, k1, k2, k3⟩ := edge_core hev hirr huw h2 h1 h3 hy
      exact .inl ⟨U, k1, fun x hx => h2 x (k2 x hx), k3⟩
  · rintro (⟨S, h1, h2, h3⟩ | hy)
    · exact ⟨S, h1, h2, fun x hx => two_plus (h3 x hx)⟩
    · obtain ⟨T, k1, k2, k3⟩ := core_edge (n := n) hev huw hnew (cntQ (fun x => 0 ≤ x ∧ x < n) n) (fun x => 0 ≤ x ∧ x < n) (Nat.le_refl _) (fun x h => h) hu hw (way_mono hy fun a b _ h => wi_iff.2 ⟨h, hon _ _ h⟩)
      exact ⟨T, k1, k2, k3⟩
theorem way_plus (hev : ∀ x y, E x y = true → E y x = true) {x y : Int} : Way (Plus E u w) x y ↔ Way E x y ∨ (Way E x u ∧ Way E w y) ∨ (Way E x w ∧ Way E u y) := by
  constructor
  · intro h
    induction h with
    | refl => exact .inl (.refl _)
    | @step b c _ he ih =>
      rcases plus_iff.1 he with he | ⟨rfl, rfl⟩ | ⟨rfl, rfl⟩
      · rcases ih with h | ⟨h1, h2⟩ | ⟨h1, h2⟩
        · exact .inl (.step h he)
        · exact .inr (.inl ⟨h1, .step h2 he⟩)
        · exact .inr (.inr ⟨h1, .step h2 he⟩)
      · rcases ih with h | ⟨h1, h2⟩ | ⟨h1, h2⟩
        · exact .inr (.inl ⟨h, .refl _⟩)
        · exact .inr (.inl ⟨h1, .refl _⟩)
        · exact .inl h1
      · rcases ih with h | ⟨h1, h2⟩ | ⟨h1, h2⟩
        · exact .inr (.inr ⟨h, .refl _⟩)
        · exact .inl h1
        · exact .inr (.inr ⟨h1, .refl _⟩)
  · have up : ∀ a b, Way E a b → Way (Plus E u w) a b := fun a b h => way_mono h fun _ _ _ h => plus_iff.2 (.inl h)
    rintro (h | ⟨h1, h2⟩ | ⟨h1, h2⟩)
    · exact up _ _ h
    · exact ((up _ _ h1).trans (Way.one (plus_iff.2 (.inr (.inl ⟨rfl, rfl⟩))))).trans (up _ _ h2)
    · exact ((up _ _ h1).trans (Way.one (plus_iff.2 (.inr (.inr ⟨rfl, rfl⟩))))).trans (up _ _ h2)
end
/-! ### sets: of each one its parent -/
structure UFI (P : List Int) (E : Int → Int → Bool) (rt : Int → Int) (dp : Int → Nat) : Prop where
  len : P.length = 128
  rng : ∀ v : Int, 0 ≤ v → v < 128 → 0 ≤ gt P v ∧ gt P v < 128
  same : ∀ v : Int, 0 ≤ v → v < 128 → rt (gt P v) = rt v
  fix : ∀ v : Int, 0 ≤ v → v < 128 → gt P v = v → rt v = v
  dec : ∀ v : Int, 0 ≤ v → v < 128 → gt P v ≠ v → dp (gt P v) < dp v
  root : ∀ v : Int, 0 ≤ v → v < 128 → 0 ≤ rt v ∧ rt v < 128 ∧ gt P (rt v) = rt v
  way : ∀ x y : Int, 0 ≤ x → x < 128 → 0 ≤ y → y < 128 → (rt x = rt y ↔ Way E x y)
section
variable {P : List Int} {E : Int → Int → Bool} {rt : Int → Int} {dp : Int → Nat} {u v : Int}
theorem UFI.half (h : UFI P E rt dp) (v0 : 0 ≤ v) (v1 : v < 128) (hn : gt P v ≠ v) : UFI (P.set v.toNat (gt P (gt P v))) E rt dp ∧ dp (gt P (gt P v)) < dp v := by
  have hl := h.len
  obtain ⟨p0, p1⟩ := h.rng v v0 v1
  have hd1 := h.dec v v0 v1 hn
  have hlt : dp (gt P (gt P v)) < dp v := by
    by_cases e : gt P (gt P v) = gt P v
    · rw [e]; exact hd1
    · exact Nat.lt_trans (h.dec _ p0 p1 e) hd1
  have hg : ∀ x : Int, 0 ≤ x → gt (P.set v.toNat (gt P (gt P v))) x = if x = v then gt P (gt P v) else gt P x := fun x x0 => gt_setI v0 (by omega) x0
  refine ⟨⟨by rw [List.length_set]; exact hl, fun x x0 x1 => ?_, fun x x0 x1 => ?_, fun x x0 x1 hx => ?_, fun x x0 x1 hx => ?_, fun x x0 x1 => ?_, h.way⟩, hlt⟩
  · rw [hg x x0]
    split
    · exact h.rng _ p0 p1
    · exact h.rng x x0 x1
  · rw [hg x x0]
    split
    · rename_i e; rw [h.same _ p0 p1, h.same v v0 v1, e]
    · exact h.same x x0 x1
  · rw [hg x x0] at hx
    split at hx
    · rename_i e
      rw [e] at hx
      rw [hx] at hlt
      omega
    · exact h.fix x x0 x1 hx
  · rw [hg x x0] at hx ⊢
    split
    · rename_i e; rw [e]; exact hlt
    · rename_i e; rw [if_neg e] at hx; exact h.dec x x0 x1 hx
  · obtain ⟨r0, r1, r2⟩ := h.root x x0 x1
    refine ⟨r0, r1, ?_⟩
    rw [hg _ r0, if_neg (fun e => hn (by rw [← e]; exact r2))]
    exact r2
theorem UFI.rt_rt (h : UFI P E rt dp) (v0 : 0 ≤ v) (v1 : v < 128) : rt (rt v) = rt v := by
  obtain ⟨r0, r1, r2⟩ := h.root v v0 v1
  exact h.fix _ r0 r1 r2
/-- the sets of u and v joined -/
theorem UFI.join (hev : ∀ x y, E x y = true → E y x = true) (h : UFI P E rt dp) (u0 : 0 ≤ u) (u1 : u < 128) (v0 : 0 ≤ v) (v1 : v < 128) : ∃ rt' dp', UFI (P.set (rt u).toNat (rt v)) (Plus E u v) rt' dp' := by
  have hl := h.len
  obtain ⟨a0, a1, a2⟩ := h.root u u0 u1
  obtain ⟨b0, b1, b2⟩ := h.root v v0 v1
  have ra := h.rt_rt u0 u1
  have rb := h.rt_rt v0 v1
  have hg : ∀ x : Int, 0 ≤ x → gt (P.set (rt u).toNat (rt v)) x = if x = rt u then rt v else gt P x := fun x x0 => gt_setI a0 (by omega) x0
  by_cases hab : rt u = rt v
  · have hw := (h.way u v u0 u1 v0 v1).1 hab
    have hw2 := hw.symm hev
    have e : P.set (rt u).toNat (rt v) = P := ext_gt (by rw [List.length_set]) fun x x0 x1 => by
      rw [hg x x0]
      split
      · rename_i e; rw [e, a2, hab]
      · rfl
    refine ⟨rt, dp, ?_⟩
    rw [e]
    refine ⟨h.len, h.rng, h.same, h.fix, h.dec, h.root, fun x y x0 x1 y0 y1 => ?_⟩
    rw [h.way x y x0 x1 y0 y1, way_plus hev]
    constructor
    · exact .inl
    · rintro (h1 | ⟨h1, h2⟩ | ⟨h1, h2⟩)
      · exact h1
      · exact (h1.trans hw).trans h2
      · exact (h1.trans hw2).trans h2
  · have rb' : rt (rt v) ≠ rt u := by rw [rb]; exact fun e => hab e.symm
    refine ⟨fun x => if rt x = rt u then rt v else rt x, fun x => if rt x = rt u then dp x + dp (rt v) + 1 else dp x, by rw [List.length_set]; exact hl, fun x x0 x1 => ?_, fun x x0 x1 => ?_, fun x x0 x1 hx => ?_, fun x x0 x1 hx => ?_, fun x x0 x1 => ?_, fun x y x0 x1 y0 y1 => ?_⟩
    · rw [hg x x0]
      split
      · exact ⟨b0, b1⟩
      · exact h.rng x x0 x1
    · rw [hg x x0]
      by_cases e : x = rt u
      · rw [if_pos e]
        try dsimp only
        rw [if_neg rb', rb, e, if_pos ra]
      · rw [if_neg e]
        try dsimp only
        rw [h.same x x0 x1]
    · rw [hg x x0] at hx
      by_cases e : x = rt u
      · rw [if_pos e] at hx
        exact (hab (by rw [← e, ← hx])).elim
      · rw [if_neg e] at hx
        have := h.fix x x0 x1 hx
        try dsimp only
        rw [if_neg (by rw [this]; exact e)]
        exact this
    · rw [hg x x0] at hx ⊢
      by_cases e : x = rt u
      · rw [if_pos e]
        try dsimp only
        rw [if_neg rb', e, if_pos ra]
        omega
      · rw [if_neg e] at hx ⊢
        have := h.dec x x0 x1 hx
        try dsimp only
        rw [h.same x x0 x1]
        split <;> omega
    · obtain ⟨r0, r1, r2⟩ := h.root x x0 x1
      try dsimp only
      by_cases e : rt x = rt u
      · rw [if_pos e]
        refine ⟨b0, b1, ?_⟩
        rw [hg _ b0, if_neg (fun e => hab e.symm)]
        exact b2
      · rw [if_neg e]
        refine ⟨r0, r1, ?_⟩
        rw [hg _ r0, if_neg e]
        exact r2
    · rw [way_plus hev, ← h.way x y x0 x1 y0 y1, ← h.way x u x0 x1 u0 u1, ← h.way v y v0 v1 y0 y1, ← h.way x v x0 x1 v0 v1, ← h.way u y u0 u1 y0 y1]
      try dsimp only
      by_cases e1 : rt x = rt u
      · by_cases e2 : rt y = rt u
        · rw [if_pos e1, if_pos e2]
          exact ⟨fun _ => .inl (by rw [e1, e2]), fun _ => rfl⟩
        · rw [if_pos e1, if_neg e2]
          constructor
          · exact fun e => .inr (.inl ⟨e1, e⟩)
          · rintro (e | ⟨_, e⟩ | ⟨e, e'⟩)
            · exact (e2 (by rw [← e, e1])).elim
            · exact e
            · exact (e2 e'.symm).elim
      · by_cases e2 : rt y = rt u
        · rw [if_neg e1, if_pos e2]
          constructor
          · exact fun e => .inr (.inr ⟨e, e2.symm⟩)
          · rintro (e | ⟨e, _⟩ | ⟨e, _⟩)
            · exact (e1 (by rw [e, e2])).elim
            · exact (e1 e).elim
            · exact e
        · rw [if_neg e1, if_neg e2]
          constructor
          · exact .inl
          · rintro (e | ⟨e, _⟩ | ⟨_, e⟩)
            · exact e
            · exact (e1 e).elim
            · exact (e2 e.symm).elim
end
/-- each for itself -/
theorem UFI.none_ {P : List Int} (hl : P.length = 128) (hP : ∀ v : Int, 0 ≤ v → v < 128 → gt P v = v) {E : Int → Int → Bool} (hE : ∀ x y, E x y = false) : UFI P E (fun v => v) (fun _ => 0) := by
  refine ⟨hl, fun v v0 v1 => by rw [hP v v0 v1]; exact ⟨v0, v1⟩, fun v v0 v1 => hP v v0 v1, fun v _ _ _ => rfl, fun v v0 v1 h => (h (hP v v0 v1)).elim, fun v v0 v1 => ⟨v0, v1, hP v v0 v1⟩, fun x y _ _ _ _ => ?_⟩
  constructor
  · intro e
    try dsimp only at e
    rw [e]
    exact .refl _
  · intro h
    cases h with
    | refl => rfl
    | step _ he => rw [hE] at he; cases he
/-! ### the edges of two colours -/
def Ek (Dn : Int → Int → Bool) (l : List Int) (c d x y : Int) : Bool := Dn x y && (gt l x == c && gt l y == d || gt l x == d && gt l y == c)
theorem ek_iff {Dn : Int → Int → Bool} {l : List Int} {c d x y : Int} : Ek Dn l c d x y = true ↔ Dn x y = true ∧ ((gt l x = c ∧ gt l y = d) ∨ (gt l x = d ∧ gt l y = c)) := by
  unfold Ek
  simp
section
variable {F Dn : Int → Int → Bool} {l : List Int} {n : Nat} {c d u v : Int}
theorem ek_other (h : ¬ ((gt l u = c ∧ gt l v = d) ∨ (gt l u = d ∧ gt l v = c))) : Ek (Plus Dn u v) l c d = Ek Dn l c d := by
  funext x y
  rw [Bool.eq_iff_iff, ek_iff, ek_iff, plus_iff]
  constructor
  · rintro ⟨h1 | ⟨rfl, rfl⟩ | ⟨rfl, rfl⟩, h2⟩
    · exact ⟨h1, h2⟩
    · exact (h h2).elim
    · exact (h (h2.symm.imp And.symm And.symm)).elim
  · exact fun ⟨h1, h2⟩ => ⟨.inl h1, h2⟩
theorem ek_this (h : (gt l u = c ∧ gt l v = d) ∨ (gt l u = d ∧ gt l v = c)) : Ek (Plus Dn u v) l c d = Plus (Ek Dn l c d) u v := by
  funext x y
  rw [Bool.eq_iff_iff, ek_iff, plus_iff, plus_iff, ek_iff]
  constructor
  · rintro ⟨h1 | h1 | h1, h2⟩
    · exact .inl ⟨h1, h2⟩
    · exact .inr (.inl h1)
    · exact .inr (.inr h1)
  · rintro (⟨h1, h2⟩ | ⟨rfl, rfl⟩ | ⟨rfl, rfl⟩)
    · exact ⟨.inl h1, h2⟩
    · exact ⟨.inr (.inl ⟨rfl, rfl⟩), h⟩
    · exact ⟨.inr (.inr ⟨rfl, rfl⟩), h.symm.imp And.symm And.symm⟩
theorem ek_ev (hev : ∀ x y, Dn x y = true → Dn y x = true) : ∀ x y, Ek Dn l c d x y = true → Ek Dn l c d y x = true := fun x y h => by
  rw [ek_iff] at h ⊢
  exact ⟨hev _ _ h.1, h.2.symm.imp And.symm And.symm⟩
theorem nocore_hasC (hon : ∀ x y, F x y = true → (0 ≤ x ∧ x < n) ∧ 0 ≤ y ∧ y < n) (hp : ∀ x y, F x y = true → gt l x ≠ gt l y) : HasC n (Ek F l c d) ↔ ¬ NoCore F n l c d := by
  unfold NoCore HasC
  rw [Classical.not_not]
  constructor
  · rintro ⟨S, h1, h2, h3⟩
    refine ⟨S, h1, fun x hx => ⟨h2 x hx, ?_⟩, fun x hx => ?_⟩
    · obtain ⟨a, b, _, _, _, h4, _⟩ := h3 x hx
      rcases (ek_iff.1 h4).2 with ⟨h, _⟩ | ⟨h, _⟩
      · exact .inl h
      · exact .inr h
    · obtain ⟨a, b, k1, k2, k3, k4, k5⟩ := h3 x hx
      exact ⟨a, b, k1, k2, k3, (ek_iff.1 k4).1, (ek_iff.1 k5).1⟩
  · rintro ⟨S, h1, h2, h3⟩
    refine ⟨S, h1, fun x hx => (h2 x hx).1, fun x hx => ?_⟩
    obtain ⟨a, b, k1, k2, k3, k4, k5⟩ := h3 x hx
    have up : ∀ y, S y → F x y = true → Ek F l c d x y = true := fun y hy h => ek_iff.2 ⟨h, by
      have := hp _ _ h
      have hx2 := (h2 x hx).2
      have hy2 := (h2 y hy).2
      omega⟩
    exact ⟨a, b, k1, k2, k3, up a k2 k4, up b k3 k5⟩
/-- the least pair of colours whose vertices are no forest; none: there is none -/
def CiOK (F : Int → Int → Bool) (n : Nat) (l xs : List Int) : Prop := (xs = [] ∧ ∀ c d : Int, c ≤ d → NoCore F n l c d) ∨ ∃ c d : Int, xs = [c, d] ∧ c ≤ d ∧ ¬ NoCore F n l c d ∧ ∀ c' d' : Int, c' ≤ d' → ¬ NoCore F n l c' d' → c < c' ∨ (c = c' ∧ d ≤ d')
theorem CiOK.uniq {xs ys : List Int} (h : CiOK F n l xs) (k : CiOK F n l ys) : xs = ys := by
  rcases h with ⟨rfl, h⟩ | ⟨c, d, rfl, h1, h2, h3⟩
  · rcases k with ⟨rfl, k⟩ | ⟨c, d, rfl, k1, k2, k3⟩
    · rfl
    · exact (k2 (h c d k1)).elim
  · rcases k with ⟨rfl, k⟩ | ⟨c', d', rfl, k1, k2, k3⟩
    · exact (h2 (k c d h1)).elim
    · have := h3 c' d' k1 k2
      have := k3 c d h1 h2
      obtain rfl : c = c' := by omega
      obtain rfl : d = d' := by omega
      rfl
/-- the least so far -/
def BeI (n : Nat) (Dn : Int → Int → Bool) (l xs : List Int) : Prop := (xs = [] ∧ ∀ c d : Int, c ≤ d → ¬ HasC n (Ek Dn l c d)) ∨ ∃ c d : Int, xs = [c, d] ∧ c ≤ d ∧ HasC n (Ek Dn l c d) ∧ ∀ c' d' : Int, c' ≤ d' → HasC n (Ek Dn l c' d') → c < c' ∨ (c = c' ∧ d ≤ d')
theorem BeI.end_ {xs : List Int} (hon : ∀ x y, F x y = true → (0 ≤ x ∧ x < n) ∧ 0 ≤ y ∧ y < n) (hp : ∀ x y, F x y = true → gt l x ≠ gt l y) (h : BeI n F l xs) : CiOK F n l xs := by
  rcases h with ⟨rfl, h⟩ | ⟨c, d, rfl, h1, h2, h3⟩
  · exact .inl ⟨rfl, fun c d hcd => Classical.byContradiction fun hn => h c d hcd ((nocore_hasC hon hp).2 hn)⟩
  · exact .inr ⟨c, d, rfl, h1, (nocore_hasC hon hp).1 h2, fun c' d' k1 k2 => h3 c' d' k1 ((nocore_hasC hon hp).2 k2)⟩
theorem BeI.zero (hD : ∀ x y, Dn x y = false) : BeI n Dn l [] := .inl ⟨rfl, fun c d _ ⟨S, ⟨x, hx⟩, _, h3⟩ => by
  obtain ⟨a, b, _, _, _, h, _⟩ := h3 x hx
  have := (ek_iff.1 h).1
  rw [hD] at this
  cases this⟩
/-- an edge more: it closes a circle just if its ends hang together -/
theorem BeI.step {xs : List Int} (hev : ∀ x y, Dn x y = true → Dn y x = true) (hon : ∀ x y, Dn x y = true → (0 ≤ x ∧ x < n) ∧ 0 ≤ y ∧ y < n) (hp : ∀ x y, Dn x y = true → gt l x ≠ gt l y) (hu : 0 ≤ u ∧ u < n) (hv : 0 ≤ v ∧ v < n) (huv : gt l u ≠ gt l v) (hnew : Dn u v = false) (h : BeI n Dn l xs)
    (hc : c = min (gt l u) (gt l v)) (hd : d = max (gt l u) (gt l v)) :
    (¬ Way (Ek Dn l c d) u v → BeI n (Plus Dn u v) l xs) ∧
    (Way (Ek Dn l c d) u v → (xs = [] ∨ (∃ c1 d1, xs = [c1, d1] ∧ (c < c1 ∨ (c = c1 ∧ d < d1)))) → BeI n (Plus Dn u v) l [c, d]) ∧
    (Way (Ek Dn l c d) u v → (∃ c1 d1, xs = [c1, d1] ∧ ¬ (c < c1 ∨ (c = c1 ∧ d < d1))) → BeI n (Plus Dn u v) l xs) := by
  have huv' : u ≠ v := fun e => huv (by rw [e])
  have hcd : c ≤ d := by omega
  have hk : (gt l u = c ∧ gt l v = d) ∨ (gt l u = d ∧ gt l v = c) := by omega
  have hirr : ∀ x, Ek Dn l c d x x = false := fun x => by
    cases e : Ek Dn l c d x x with
    | false => rfl
    | true => exact (hp x x (ek_iff.1 e).1 rfl).elim
  have hthis : HasC n (Ek (Plus Dn u v) l c d) ↔ HasC n (Ek Dn l c d) ∨ Way (Ek Dn l c d) u v := by
    rw [ek_this hk]
    exact hasC_plus (ek_ev hev) hirr (fun x y h => hon x y (ek_iff.1 h).1) huv' hu hv (by unfold Ek; rw [hnew]; rfl)
  have hoth : ∀ c' d' : Int, c' ≤ d' → ¬ (c' = c ∧ d' = d) → Ek (Plus Dn u v) l c' d' = Ek Dn l c' d' := fun c' d' h1 h2 => ek_other (by omega)
  have all : ∀ c' d' : Int, c' ≤ d' → HasC n (Ek (Plus Dn u v) l c' d') → HasC n (Ek Dn l c' d') ∨ ((c' = c ∧ d' = d) ∧ Way (Ek Dn l c d) u v) := fun c' d' h1 h2 => by
    by_cases e : c' = c ∧ d' = d
    · obtain ⟨rfl, rfl⟩ := e
      exact (hthis.1 h2).imp id fun h => ⟨⟨rfl, rfl⟩, h⟩
    · rw [hoth c' d' h1 e] at h2
      exact .inl h2
  have old : ∀ c' d' : Int, c' ≤ d' → HasC n (Ek Dn l c' d') → HasC n (Ek (Plus Dn u v) l c' d') := fun c' d' h1 h2 => by
    by_cases e : c' = c ∧ d' = d
    · obtain ⟨rfl, rfl⟩ := e
      exact hthis.2 (.inl h2)
    · rw [hoth c' d' h1 e]
      exact h2
  refine ⟨fun hno => ?_, fun hy hx => ?_, fun hy hx => ?_⟩
  · rcases h with ⟨rfl, h⟩ | ⟨c1, d1, rfl, h1, h2, h3⟩
    · exact .inl ⟨rfl, fun c' d' h1 h2 => by
        rcases all c' d' h1 h2 with h2 | ⟨_, h2⟩
        · exact h c' d' h1 h2
        · exact hno h2⟩
    · exact .inr ⟨c1, d1, rfl, h1, old _ _ h1 h2, fun c' d' k1 k2 => by
        rcases all c' d' k1 k2 with k2 | ⟨_, k2⟩
        · exact h3 c' d' k1 k2
        · exact (hno k2).elim⟩
  · refine .inr ⟨c, d, rfl, hcd, hthis.2 (.inr hy), fun c' d' k1 k2 => ?_⟩
    rcases all c' d' k1 k2 with k2 | ⟨⟨rfl, rfl⟩, _⟩
    · rcases h with ⟨rfl, h⟩ | ⟨c1, d1, rfl, h1, h2, h3⟩
      · exact (h c' d' k1 k2).elim
      · have := h3 c' d' k1 k2
        rcases hx with hx | ⟨c2, d2, hx, hlt⟩
        · cases hx
        · simp only [List.cons.injEq, and_true] at hx
          obtain ⟨rfl, rfl⟩ := hx
          omega
    · omega
  · obtain ⟨c2, d2, hx, hlt⟩ := hx
    rcases h with ⟨rfl, h⟩ | ⟨c1, d1, rfl, h1, h2, h3⟩
    · cases hx
    · simp only [List.cons.injEq, and_true] at hx
      obtain ⟨rfl, rfl⟩ := hx
      refine .inr ⟨c1, d1, rfl, h1, old _ _ h1 h2, fun c' d' k1 k2 => ?_⟩
      rcases all c' d' k1 k2 with k2 | ⟨⟨rfl, rfl⟩, _⟩
      · exact h3 c' d' k1 k2
      · omega
end
/-! ### paths of four in two colours -/
structure Pa4 (F : Int → Int → Bool) (l : List Int) (a b c d : Int) : Prop where
  ab : F a b = true
  bc : F b c = true
  cd : F c d = true
  ca : c ≠ a
  db : d ≠ b
  ad : a < d
  kc : gt l c = gt l a
  kd : gt l d = gt l b
/-- is ahead of -/
def Lx4 (a b c d a' b' c' d' : Int) : Prop := a < a' ∨ (a = a' ∧ (b < b' ∨ (b = b' ∧ (c < c' ∨ (c = c' ∧ d < d')))))
/-- the least path; none: there is none -/
def PaOK (F : Int → Int → Bool) (l xs : List Int) : Prop := (xs = [] ∧ ∀ a b c d : Int, ¬ Pa4 F l a b c d) ∨ ∃ a b c d : Int, xs = [a, b, c, d] ∧ Pa4 F l a b c d ∧ ∀ a' b' c' d' : Int, Lx4 a' b' c' d' a b c d → ¬ Pa4 F l a' b' c' d'
theorem PaOK.uniq {F : Int → Int → Bool} {l xs ys : List Int} (h : PaOK F l xs) (k : PaOK F l ys) : xs = ys := by
  rcases h with ⟨rfl, h⟩ | ⟨a, b, c, d, rfl, h1, h2⟩
  · rcases k with ⟨rfl, k⟩ | ⟨a, b, c, d, rfl, k1, k2⟩
    · rfl
    · exact (h _ _ _ _ k1).elim
  · rcases k with ⟨rfl, k⟩ | ⟨a', b', c', d', rfl, k1, k2⟩
    · exact (k _ _ _ _ h1).elim
    · have e1 : ¬ Lx4 a' b' c' d' a b c d := fun h => h2 _ _ _ _ h k1
      have e2 : ¬ Lx4 a b c d a' b' c' d' := fun h => k2 _ _ _ _ h h1
      unfold Lx4 at e1 e2
      obtain rfl : a = a' := by omega
      obtain rfl : b = b' := by omega
      obtain rfl : c = c' := by omega
      obtain rfl : d = d' := by omega
      rfl
abbrev TTw : TypeId := 193
abbrev TMp : TypeId := 191
abbrev TSe : TypeId := 196
abbrev TSp : TypeId := 194
/-! ### keys: two colours -/
theorem keyedT : Keyed Try.prog TTw := Keyed.of_law (deep_law (m := 2) (by omega) (by kernel_rfl) (by kernel_rfl) (by kernel_rfl))
theorem underMp : Try.prog.underlying TMp = some (.map TTw TSp) := by kernel_rfl
theorem underSe : ∃ e, Try.prog.underlying TSe = some (.array 128 e) ∧ size? Try.prog e = some 1 := ⟨TI, by kernel_rfl, sz_of rfl⟩
theorem underSp : ∃ e, Try.prog.underlying TSp = some (.pointer e) := ⟨TSe, by kernel_rfl⟩
theorem tw_fields : (match Try.prog.underlying TTw with | some (.struct fs) => fs.toList.map (fun f => (f.name != "_", f.type, f.offset)) | _ => []) = [(true, TI, 0), (true, TI, 1)] := by kernel_rfl
theorem tw_cells : Try.prog.cellsOf TTw = 2 := by kernel_rfl
theorem ti_cells : Try.prog.cellsOf TI = 1 := by kernel_rfl
theorem tw_key : Try.prog.keyType TTw = true := by kernel_rfl
theorem tw_size : Try.prog.types.size = (Try.prog.types.size - 1) + 1 := by kernel_rfl
def tv (c d : Int) : Value := .agg #[vi c, vi d]
def KOK (c d : Int) : Prop := (0 ≤ c ∧ c ≤ 65536) ∧ 0 ≤ d ∧ d ≤ 65536
theorem wf65 {x : Int} (h0 : 0 ≤ x) (h1 : x ≤ 65536) : (Lit.int .i64 x).wf = true := by
  simp only [Lit.wf, IntKind.min, IntKind.max, Bool.and_eq_true, decide_eq_true_eq]
  simp [IntKind.bits, IntKind.signed]; omega
theorem key_ex {c d : Int} (h : KOK c d) : ∃ l, keyOf Try.prog TTw (tv c d) = some l := by
  obtain ⟨⟨c0, c1⟩, d0, d1⟩ := h
  have hf := tw_fields
  cases hu : Try.prog.underlying TTw with
  | none => rw [hu] at hf; cases hf
  | some t =>
    rw [hu] at hf
    cases t with
    | struct fs =>
      dsimp only at hf
      have hT : Try.prog.underlying TI = some (.int .i64) := Try.underlying3
      obtain ⟨l⟩ := fs
      have hlen : l.length = 2 := by
        have := congrArg List.length hf
        simpa using this
      rcases l with _ | ⟨f1, _ | ⟨f2, _ | ⟨f3, l⟩⟩⟩
      · simp at hlen
      · simp at hlen
      rotate_left
      · simp at hlen
      simp only [List.map_cons, List.map_nil, List.cons.injEq, Prod.mk.injEq, and_true] at hf
      obtain ⟨⟨n1, t1, o1⟩, n2, t2, o2⟩ := hf
      obtain ⟨k, hk⟩ : ∃ k, Try.prog.types.size = k + 1 := ⟨_, tw_size⟩
      have hl : Try.prog.keyLits (Try.prog.types.size + 1) TTw [vi c, vi d] = some [.int .i64 c, .int .i64 d] := by
        rw [hk]
        unfold Program.keyLits
        rw [hu]
        simp [n1, n2, t1, t2, o1, o2, tw_cells, ti_cells, Program.keyLits, hT, vi, wf65 c0 c1, wf65 d0 d1]
      refine ⟨.string (keyBytes [.int .i64 c, .int .i64 d]), ?_⟩
      unfold keyOf
      rw [hu]
      have hfm : (tv c d).formed Try.prog TTw = true := by
        unfold tv Value.formed
        simp [hu, tw_cells]
      have hcl : (tv c d).cells.toList = [vi c, vi d] := rfl
      simp only [tw_key, hfm, hcl, hl, Bool.and_self, if_true, Option.map_some]
    | _ => cases hf
noncomputable def kl (c d : Int) : Lit := (keyOf Try.prog TTw (tv c d)).getD (.bool false)
theorem kl_ok {c d : Int} (h : KOK c d) : keyOf Try.prog TTw (tv c d) = some (kl c d) := by
  obtain ⟨l, hl⟩ := key_ex h
  unfold kl
  rw [hl]
  rfl
theorem kl_ne {c d c' d' : Int} (h : KOK c d) (h' : KOK c' d') (hn : ¬ (c = c' ∧ d = d')) : kl c d ≠ kl c' d' := fun e => by
  have h1 := kl_ok h
  have h2 := kl_ok h'
  rw [e] at h1
  have := keyedT.inj h1 h2
  simp only [tv, vi, Value.agg.injEq] at this
  simp at this
  exact hn this
/-! ### a map from two colours to a block -/
def mpE : Value → Option (DataW Unit × List MemPlace)
  | .pointer none => some (.lit (.bool false), [])
  | .pointer (some ⟨b, 0, none⟩) => some (.lit (.int .i64 b), [])
  | _ => none
def mpD : Option Nat → DataW Unit
  | none => .lit (.bool false)
  | some b => .lit (.int .i64 b)
def mpV (o : Option Nat) : Value := .pointer (o.map fun b => ⟨b, 0, none⟩)
theorem mpE_inv {v : Value} {o : Option Nat} {ps : List MemPlace} (h : mpE v = some (mpD o, ps)) : v = mpV o := by
  unfold mpE at h
  split at h
  · cases o with
    | none => rfl
    | some b => simp [mpD] at h
  · cases o with
    | none => simp [mpD] at h
    | some b =>
      simp [mpD] at h
      rename_i b'
      have e : b' = b := by omega
      rw [e]; rfl
  · cases h
def IsMp (w : World) (m n : Nat) (f : Int → Int → Option Nat) : Prop := ∃ D : DataW Unit, w.ownsMap Try.prog TTw mpE m n D ∧ ∀ c d, KOK c d → D.atKey (kl c d) (.lit (.bool false)) = mpD (f c d)
theorem IsMp.st {w w' : World} {m n : Nat} {f : Int → Int → Option Nat} (h : IsMp w m n f) (hb : w'.heap[m]? = w.heap[m]?) : IsMp w' m n f := by
  obtain ⟨D, ⟨es, clock, h1, h2⟩, h3⟩ := h
  exact ⟨D, ⟨es, clock, hb.trans h1, h2⟩, h3⟩
def MapR (m n : Nat) (f : Int → Int → Option Nat) : Res := ⟨[m], fun w => IsMp w m n f, fun w w' h hw => hw.st (h m (by simp))⟩
theorem IsMp.made (w : World) : IsMp (w.alloc (.map #[] 0)) w.heap.size 0 (fun _ _ => none) := ⟨.map [], World.ownsMap_made w Try.prog TTw mpE, fun c d _ => rfl⟩
def updF (f : Int → Int → Option Nat) (c0 d0 : Int) (b : Nat) : Int → Int → Option Nat := fun c d => if c = c0 ∧ d = d0 then some b else f c d
theorem IsMp.put {w : World} {m n b : Nat} {f : Int → Int → Option Nat} (h : IsMp w m n f) {c d : Int} (hk : KOK c d) (hn : n < 100000000) :
    ∃ w', (Instr.mapUpdate TMp (.map (some m)) (tv c d) (.pointer (some ⟨b, 0, none⟩))).run Try.prog w = .ok () w' ∧ IsMp w' m (n + 1) (updF f c d b) ∧ Only [m] w w' := by
  obtain ⟨D, h2, h3⟩ := h
  have hkey := kl_ok hk
  obtain ⟨w', hr, hown, hg⟩ := h2.update keyedT underMp (by simp [maxLen]; omega) (val := .pointer (some ⟨b, 0, none⟩)) (d := .lit (.int .i64 b)) (ps := []) hkey rfl
  refine ⟨w', hr, ⟨_, hown, fun c' d' hk' => ?_⟩, Only.grown hg (by simp)⟩
  unfold updF
  by_cases e : c' = c ∧ d' = d
  · obtain ⟨rfl, rfl⟩ := e
    have htidy := h2.tidy keyedT
    have hkl := keyedT.key hkey
    rw [if_pos ⟨rfl, rfl⟩, atKey_put_same htidy.isMap hkl]
    rfl
  · rw [if_neg e, atKey_put_other (kl_ne hk' hk e)]
    exact h3 c' d' hk'
section
variable {n : Nat} {w0 : World} {D : List Nat} {Γ : Tm} {σ : List Res} {ops : Array Oper} {o : Oper} {os : List Oper} {Q : QQ} {K : Tm → List Res → Prop} {m k : Nat} {f : Int → Int → Option Nat}
theorem val_mp (hi : HasR σ (MapR m k f)) {x y : Operand} {c d : Int} (hop : o.op = .lookup TMp x y false) (hx : ev Γ x = some (.map (some m))) (hy : ev Γ y = some (tv c d)) (hk : KOK c d) : ValOK Try.prog w0 D σ Γ o (mpV (f c d)) :=
  ⟨fun w hst g hg => by
    obtain ⟨D0, hown, h3⟩ : IsMp w m k f := hi.st hst
    obtain ⟨v, ps, hr, hv⟩ := hown.lookup keyedT underMp (z := .pointer none) (zd := .lit (.bool false)) (zp := []) (run_zeroValue' (ze_of rfl)) rfl (kl_ok hk)
    rw [h3 c d hk] at hv
    rw [mpE_inv hv] at hr
    simp [execOp, hop, hg _ _ hx, hg _ _ hy, hr, Result.andThen]⟩
theorem ok_mp (j : Nat) (hi : σ[j]? = some (MapR m k f)) {x y v : Operand} {c d : Int} {b : Nat} (hop : o.op = .mapUpdate TMp x y v) (hx : ev Γ x = some (.map (some m))) (hy : ev Γ y = some (tv c d)) (hv : ev Γ v = some (.pointer (some ⟨b, 0, none⟩))) (hg : gd Γ ops o = some true) (hd : o.dst = none)
    (hk : KOK c d) (hn : k < 100000000) (h : K Γ (σ.set j (MapR m (k + 1) (updF f c d b)))) : OpOK Try.prog n w0 D ops o K Γ σ :=
  ok_skip hg hd fun w hst f' hf => by
    obtain ⟨w', hr, hset, ho⟩ := (show IsMp w m k f from hst.at_ j hi).put (b := b) hk hn
    refine ⟨w', _, ?_, hst.set_ j hi ho hset ?_ (by simp [MapR]), h⟩
    · simp [execOp, hop, hf _ _ hx, hf _ _ hy, hf _ _ hv, hr, Result.andThen]
    · intro q hq
      exact ⟨.inl hq, Nat.lt_of_lt_of_le (hst.lt _ (List.mem_of_getElem? hi) q hq) ho.size⟩
/-! ### nil, places of arrays -/
theorem eqNilS {P : Program} {w : World} {t e : TypeId} {A : Option Addr} {l c : Nat} (ht : elem? P t = some e) : (Op.equal t (.slice A l c) (.slice none 0 0)).run P w = .ok A.isNone w := by
  have hu := elem?_spec ht
  show (Op.equalIn (9999 + 1) t (.slice A l c) (.slice none 0 0)).run P w = _
  unfold Op.equalIn
  cases A <;> simp only [Sem.run_bind, run_underlying hu, Result.andThen_ok, Sem.run_pure] <;> rfl
theorem eqNilP {P : Program} {w : World} {t e : TypeId} {p : Option Addr} (hu : P.underlying t = some (.pointer e)) : (Op.equal t (.pointer p) (.pointer none)).run P w = .ok p.isNone w := by
  show (Op.equalIn (9999 + 1) t (.pointer p) (.pointer none)).run P w = _
  unfold Op.equalIn
  cases p <;> simp only [Sem.run_bind, run_underlying hu, Result.andThen_ok, Sem.run_pure] <;> rfl
theorem val_nilS {t t2 e : TypeId} {x y : Operand} {A : Option Addr} {l c : Nat} (hop : o.op = .binOp .eql t x y t2) (hx : ev Γ x = some (.slice A l c)) (hy : ev Γ y = some (.slice none 0 0)) (ht : elem? Try.prog t = some e) : ValOK Try.prog w0 D σ Γ o (.bool A.isNone) :=
  ⟨fun w hst g hg => by
    have h := eqNilS (P := Try.prog) (w := w) (A := A) (l := l) (c := c) ht
    simp [execOp, hop, hg _ _ hx, hg _ _ hy, eqGuard, binOp, h, Result.andThen]⟩
theorem val_nilP {x y : Operand} {t2 : TypeId} {p : Option Addr} (hop : o.op = .binOp .eql TSp x y t2) (hx : ev Γ x = some (.pointer p)) (hy : ev Γ y = some (.pointer none)) : ValOK Try.prog w0 D σ Γ o (.bool p.isNone) :=
  ⟨fun w hst g hg => by
    obtain ⟨e, hu⟩ := underSp
    have h := eqNilP (P := Try.prog) (w := w) (p := p) hu
    simp [execOp, hop, hg _ _ hx, hg _ _ hy, eqGuard, binOp, h, Result.andThen]⟩
def aiS (n : Nat) (ops : Array Oper) (Γ : Tm) (o : Oper) : Option (Nat × Nat × Int) := match o.op with
  | .indexAddr t x y => match gd Γ ops o with
    | some true => match o.dst with
      | some dd => cond (Nat.blt dd n) (match ev Γ x with
        | some (.pointer (some ⟨b, 0, none⟩)) => match ev Γ y with
          | some (.int _ i) => cond (Nat.beq t TSe) (some (dd, b, i)) none
          | _ => none
        | _ => none) none
      | none => none
    | _ => none
  | _ => none
theorem aiS_spec {dd b : Nat} {i : Int} (h : aiS n ops Γ o = some (dd, b, i)) (h0 : 0 ≤ i) (h1 : i < 128) : gd Γ ops o = some true ∧ o.dst = some dd ∧ Nat.blt dd n = true ∧ ValOK Try.prog w0 D σ Γ o (.pointer (some (elA (some ⟨b, 0, none⟩) 1 i))) := by
  unfold aiS at h
  split at h
  · rename_i t x y hop
    split at h
    · rename_i hg
      split at h
      · rename_i dd' hd
        cases hb : Nat.blt dd' n with
        | false => rw [hb] at h; cases h
        | true =>
          rw [hb] at h
          simp only [cond_true] at h
          split at h
          · rename_i hx
            split at h
            · rename_i hy
              cases ht : Nat.beq t TSe with
              | false => rw [ht] at h; cases h
              | true =>
                rw [ht] at h
                simp only [cond_true, Option.some.injEq, Prod.mk.injEq] at h
                obtain ⟨rfl, rfl, rfl⟩ := h
                obtain rfl := Nat.eq_of_beq_eq_true ht
                refine ⟨hg, hd, hb, ⟨fun w hst g hgf => ?_⟩⟩
                obtain ⟨e, hu, hs⟩ := underSe
                have h1' : ∀ z : Int, z < 128 → z < ((128 : Nat) : Int) := fun z h => h
                simp [execOp, hop, hgf _ _ hx, hgf _ _ hy, Instr.indexAt, Instr.sureAddr, run_underlying hu, asIntOf, h0, h1, run_sizeOf' hs, Result.andThen, elA]
            · cases h
          · cases h
      · cases h
    · cases h
  · cases h
theorem gx1 {dd b : Nat} {i : Int} (h : aiS n ops Γ o = some (dd, b, i)) (h0 : 0 ≤ i) (h1 : i < 128) (kk : WL Try.prog n w0 D ops os Q ((dd, .pointer (some (elA (some ⟨b, 0, none⟩) 1 i))) :: Γ) σ) : WL Try.prog n w0 D ops (o :: os) Q Γ σ := by
  obtain ⟨hg, hd, hb, hv⟩ := aiS_spec h h0 h1
  exact wl_v hg hd hb hv kk
end
section
variable {n : Nat} {w0 : World} {D : List Nat} {Γ : Tm} {σ σS : List Res} {ops : Array Oper} {oi : Oper} {Q : QQ} {fuel : Nat} {listed : Array Bool}
theorem gxa (i : Nat) (hi : ops[i]? = some oi) {dd b : Nat} {q : Int} (h : aiS n ops Γ oi = some (dd, b, q)) (h0 : 0 ≤ q) (h1 : q < 128) (kk : WA Try.prog n w0 D σS ops Q fuel (listed.setIfInBounds i true) ((dd, .pointer (some (elA (some ⟨b, 0, none⟩) 1 q))) :: Γ) σ)
    (hσ : Suf σS σ := by (repeat (first | exact Suf.refl | exact Suf.nil | exact Suf.app _ _ | apply Suf.cons)) <;> fail) (hk : takeOK ops listed i = true := by kernel_rfl) : WA Try.prog n w0 D σS ops Q (fuel + 1) listed Γ σ := by
  obtain ⟨τ, hτ⟩ := hσ.ex
  obtain ⟨hg, hd, hb, hv⟩ := aiS_spec (σ := σS) h h0 h1
  exact wa_v i τ hi hk hτ hg hd hb hv kk
end
/-! ### sets -/
section
variable {P : List Int} {E : Int → Int → Bool} {rt : Int → Int} {dp : Int → Nat} {b : Nat} {v : Int}
abbrev seR (b : Nat) (P : List Int) : Res := osl TSe vi (some ⟨b, 0, none⟩) 128 P
structure RtX where
  v : Int
  P : List Int
theorem root_c (w : World) (hU : UFI P E rt dp) (v0 : 0 ≤ v) (v1 : v < 128) (hw : Own [seR b P] w) :
    Calls Try.prog 117 [.pointer (some ⟨b, 0, none⟩), vi v].toArray w (Ret [seR b P] (fun _ : List Int => vi (rt v)) (fun P' => [seR b P']) (fun P' => UFI P' E rt dp) w) := by
  refine calls_wc ([seR b P].flatMap Res.fp) [seR b P] [.tmp 4] (fun _ : List Int => [vi (rt v)]) Try.func117 rfl rfl (fun _ => rfl) Try.ntmps117 rfl hw rfl ?_
  refine gg ?_
  refine glp (fun x : RtX => (0 ≤ x.v ∧ x.v < 128) ∧ UFI x.P E rt dp ∧ rt x.v = rt v) (fun x => [(0, .pointer (some ⟨b, 0, none⟩)), (1, vi x.v)]) (fun x => [seR b x.P]) (fun x => dp x.v) ⟨v, P⟩ ⟨⟨v0, v1⟩, hU, rfl⟩ ?_
  rintro ⟨x, P1⟩ ⟨⟨x0, x1⟩, hU1, hrt⟩
  dsimp only at x0 x1 hU1 hrt ⊢
  have hl := hU1.len
  obtain ⟨p0, p1⟩ := hU1.rng x x0 x1
  by_cases hx : gt P1 x = x
  · refine gg ?_
    refine gx1 (by exact rfl) x0 x1 ?_
    refine gg ?_
    rw [hx]
    refine gg ?_
    have e : rt v = x := by rw [← hrt]; exact hU1.fix x x0 x1 hx
    exact grt P1 hU1 (h1 := by refine And.intro (RVd.t (look_to rfl (by rw [e]))) trivial)
  · obtain ⟨hU2, hlt⟩ := hU1.half x0 x1 hx
    obtain ⟨q0, q1⟩ := hU1.rng _ p0 p1
    have hg : gt (P1.set x.toNat (gt P1 (gt P1 x))) x = gt P1 (gt P1 x) := by rw [gt_setI x0 (by omega) x0, if_pos rfl]
    refine gg ?_
    refine gx1 (by exact rfl) x0 x1 ?_
    refine gg ?_
    refine gwa [seR b P1] ?_
    (repeat (first | refine gk1 ?_ | refine gk2 ?_ | refine gk3 ?_ | refine gk0 ?_ | refine gk4 ?_))
    dsimp only [List.cons_append, List.nil_append]
    (first | refine ga1 0 (by exact rfl) (by exact rfl) ?_ | refine ga2 0 (by exact rfl) (by exact rfl) ?_ | refine ga3 0 (by exact rfl) (by exact rfl) ?_ | refine ga4 0 (by exact rfl) (by exact rfl) ?_)
    (first | refine ga1 1 (by exact rfl) (by exact rfl) ?_ | refine ga2 1 (by exact rfl) (by exact rfl) ?_ | refine ga3 1 (by exact rfl) (by exact rfl) ?_ | refine ga4 1 (by exact rfl) (by exact rfl) ?_)
    (first | refine ga1 2 (by exact rfl) (by exact rfl) ?_ | refine ga2 2 (by exact rfl) (by exact rfl) ?_ | refine ga3 2 (by exact rfl) (by exact rfl) ?_ | refine ga4 2 (by exact rfl) (by exact rfl) ?_)
    (first | refine ga1 3 (by exact rfl) (by exact rfl) ?_ | refine ga2 3 (by exact rfl) (by exact rfl) ?_ | refine ga3 3 (by exact rfl) (by exact rfl) ?_ | refine ga4 3 (by exact rfl) (by exact rfl) ?_)
    (first | refine ga1 4 (by exact rfl) (by exact rfl) ?_ | refine ga2 4 (by exact rfl) (by exact rfl) ?_ | refine ga3 4 (by exact rfl) (by exact rfl) ?_ | refine ga4 4 (by exact rfl) (by exact rfl) ?_)
    (first | refine ga1 5 (by exact rfl) (by exact rfl) ?_ | refine ga2 5 (by exact rfl) (by exact rfl) ?_ | refine ga3 5 (by exact rfl) (by exact rfl) ?_ | refine ga4 5 (by exact rfl) (by exact rfl) ?_)
    refine gxa 6 (by exact rfl) (by exact rfl) x0 x1 ?_
    (first | refine ga1 8 (by exact rfl) (by exact rfl) ?_ | refine ga2 8 (by exact rfl) (by exact rfl) ?_ | refine ga3 8 (by exact rfl) (by exact rfl) ?_ | refine ga4 8 (by exact rfl) (by exact rfl) ?_)
    (first | refine ga1 11 (by exact rfl) (by exact rfl) ?_ | refine ga2 11 (by exact rfl) (by exact rfl) ?_ | refine ga3 11 (by exact rfl) (by exact rfl) ?_ | refine ga4 11 (by exact rfl) (by exact rfl) ?_)
    refine gaOne 7 rfl ?_
    refine gl0 (by exact rfl) ?_
    refine ⟨by (repeat (first | exact Suf.refl | exact Suf.nil | exact Suf.app _ _ | apply Suf.cons)), ?_⟩
    refine gxa 9 (by exact rfl) (by exact rfl) p0 p1 ?_
    refine gaOne 10 rfl ?_
    refine gl0 (by exact rfl) ?_
    refine ⟨by (repeat (first | exact Suf.refl | exact Suf.nil | exact Suf.app _ _ | apply Suf.cons)), ?_⟩
    refine gxa 12 (by exact rfl) (by exact rfl) x0 x1 ?_
    refine gaOne 13 rfl ?_
    refine gt0 (by exact rfl) ?_
    refine ⟨by (repeat (first | exact Suf.refl | exact Suf.nil | exact Suf.app _ _ | apply Suf.cons)), ?_⟩
    refine gaDone ?_
    refine gg ?_
    have hl2 := hU2.len
    refine gx1 (by exact rfl) x0 x1 ?_
    refine gg ?_
    rw [hg]
    refine gg ?_
    exact gnx (⟨gt P1 (gt P1 x), P1.set x.toNat (gt P1 (gt P1 x))⟩ : RtX) ⟨⟨q0, q1⟩, hU2, by dsimp only; rw [hU1.same _ p0 p1, hU1.same x x0 x1, hrt]⟩ hlt
end
/-! ### the edges looked at -/
noncomputable def DnS (g : Pat) (u i : Int) (x y : Int) : Bool := hasB g x y && decide (min x y < u ∨ (min x y = u ∧ ∃ q : Int, 0 ≤ q ∧ q < i ∧ gt (rowL g u) q = max x y))
section
variable {g : Pat} {n : Nat} {u i v : Int}
theorem dnS_iff {x y : Int} : DnS g u i x y = true ↔ hasB g x y = true ∧ (min x y < u ∨ (min x y = u ∧ ∃ q : Int, 0 ≤ q ∧ q < i ∧ gt (rowL g u) q = max x y)) := by
  unfold DnS
  rw [Bool.and_eq_true, decide_eq_true_iff]
theorem dn_zero (hm : May g) (x y : Int) : DnS g 0 0 x y = false := by
  cases e : DnS g 0 0 x y with
  | false => rfl
  | true =>
    obtain ⟨h1, h2⟩ := dnS_iff.1 e
    have := (hasB_iff.1 h1).in_ hm
    rcases h2 with h2 | ⟨_, q, q0, q1, _⟩ <;> omega
theorem dn_all (hm : May g) (hn : g.rows = n) (hsq : g.rows = g.width) : DnS g n 0 = hasB g := by
  funext x y
  rw [Bool.eq_iff_iff, dnS_iff]
  refine ⟨And.left, fun h => ⟨h, .inl ?_⟩⟩
  have := (hasB_iff.1 h).in_ hm
  omega
theorem dn_ev (hev : ∀ a b, hasB g a b = true → hasB g b a = true) : ∀ x y, DnS g u i x y = true → DnS g u i y x = true := fun x y h => by
  rw [dnS_iff] at h ⊢
  rw [show min y x = min x y by omega, show max y x = max x y by omega]
  exact ⟨hev _ _ h.1, h.2⟩
theorem dn_row (hm : May g) (hev : ∀ a b, hasB g a b = true → hasB g b a = true) (u0 : 0 ≤ u) (u1 : u < g.rows) : DnS g u (rowL g u).length = DnS g (u + 1) 0 := by
  funext x y
  rw [Bool.eq_iff_iff, dnS_iff, dnS_iff]
  constructor
  · rintro ⟨h1, h2⟩
    refine ⟨h1, .inl ?_⟩
    rcases h2 with h2 | ⟨h2, _⟩ <;> omega
  · rintro ⟨h1, h2⟩
    refine ⟨h1, ?_⟩
    rcases h2 with h2 | ⟨_, q, q0, q1, _⟩
    · by_cases e : min x y = u
      · refine .inr ⟨e, ?_⟩
        refine (rowL_mem hm u0 u1).1 ?_
        rcases (show (x = u ∧ max x y = y) ∨ (y = u ∧ max x y = x) by omega) with ⟨e1, e2⟩ | ⟨e1, e2⟩
        · rw [e2, ← e1]; exact h1
        · rw [e2, ← e1]; exact hev _ _ h1
      · exact .inl (by omega)
    · omega
theorem dn_skip (i0 : 0 ≤ i) (h : gt (rowL g u) i < u) : DnS g u (i + 1) = DnS g u i := by
  funext x y
  rw [Bool.eq_iff_iff, dnS_iff, dnS_iff]
  constructor
  · rintro ⟨h1, h2 | ⟨h2, q, q0, q1, e⟩⟩
    · exact ⟨h1, .inl h2⟩
    · refine ⟨h1, .inr ⟨h2, q, q0, ?_, e⟩⟩
      rcases (show q < i ∨ q = i by omega) with h3 | h3
      · exact h3
      · rw [h3] at e; omega
  · rintro ⟨h1, h2 | ⟨h2, q, q0, q1, e⟩⟩
    · exact ⟨h1, .inl h2⟩
    · exact ⟨h1, .inr ⟨h2, q, q0, by omega, e⟩⟩
theorem dn_step (hm : May g) (hev : ∀ a b, hasB g a b = true → hasB g b a = true) (u0 : 0 ≤ u) (u1 : u < g.rows) (i0 : 0 ≤ i) (i1 : i < (rowL g u).length) (hv : gt (rowL g u) i = v) (h : u < v) : DnS g u (i + 1) = Plus (DnS g u i) u v := by
  have hb : hasB g u v = true := (rowL_mem hm u0 u1).2 ⟨i, i0, i1, hv⟩
  funext x y
  rw [Bool.eq_iff_iff, dnS_iff, plus_iff, dnS_iff]
  constructor
  · rintro ⟨h1, h2 | ⟨h2, q, q0, q1, e⟩⟩
    · exact .inl ⟨h1, .inl h2⟩
    · rcases (show q < i ∨ q = i by omega) with h3 | h3
      · exact .inl ⟨h1, .inr ⟨h2, q, q0, h3, e⟩⟩
      · rw [h3, hv] at e; omega
  · rintro (⟨h1, h2 | ⟨h2, q, q0, q1, e⟩⟩ | ⟨rfl, rfl⟩ | ⟨rfl, rfl⟩)
    · exact ⟨h1, .inl h2⟩
    · exact ⟨h1, .inr ⟨h2, q, q0, by omega, e⟩⟩
    · exact ⟨hb, .inr ⟨by omega, i, i0, by omega, by rw [hv]; omega⟩⟩
    · exact ⟨hev _ _ hb, .inr ⟨by omega, i, i0, by omega, by rw [hv]; omega⟩⟩
theorem dn_new (hm : May g) (u0 : 0 ≤ u) (u1 : u < g.rows) (i0 : 0 ≤ i) (i1 : i < (rowL g u).length) (hv : gt (rowL g u) i = v) (h : u < v) : DnS g u i u v = false := by
  cases e : DnS g u i u v with
  | false => rfl
  | true =>
    rcases (dnS_iff.1 e).2 with h2 | ⟨h2, q, q0, q1, e2⟩
    · omega
    · have := rowL_mono hm u0 u1 q0 q1 i1
      omega
end
/-! ### the sets, one for each two colours -/
structure UE where
  c : Int
  d : Int
  b : Nat
  P : List Int
instance : Inhabited UE := ⟨⟨0, 0, 0, []⟩⟩
abbrev ueR (e : UE) : Res := seR e.b e.P
theorem gtU_set {L : List UE} {i j : Int} {r : UE} (h0 : 0 ≤ i) (h1 : i < L.length) (hj : 0 ≤ j) : gt (L.set i.toNat r) j = if j = i then r else gt L j := by
  unfold gt
  simp only [List.getD_eq_getElem?_getD, List.getElem?_set]
  by_cases h : j = i
  · subst h; rw [if_pos rfl, if_pos rfl, if_pos (by omega)]; rfl
  · rw [if_neg (by omega), if_neg h]
theorem gtU_app {L : List UE} {r : UE} {i : Int} (h0 : 0 ≤ i) (h1 : i < (L ++ [r]).length) : gt (L ++ [r]) i = if i = L.length then r else gt L i := by
  rw [List.length_append, List.length_singleton] at h1
  unfold gt
  simp only [List.getD_eq_getElem?_getD]
  by_cases h : i = L.length
  · rw [if_pos h, List.getElem?_append_right (by omega), show i.toNat - L.length = 0 by omega]; rfl
  · rw [if_neg h, List.getElem?_append_left (by omega)]
structure InvU (Dn : Int → Int → Bool) (l : List Int) (L : List UE) (f : Int → Int → Option Nat) : Prop where
  at_ : ∀ i : Int, 0 ≤ i → i < L.length → KOK (gt L i).c (gt L i).d ∧ (gt L i).c ≤ (gt L i).d ∧ f (gt L i).c (gt L i).d = some (gt L i).b ∧ ∃ rt dp, UFI (gt L i).P (Ek Dn l (gt L i).c (gt L i).d) rt dp
  no : ∀ c d : Int, c ≤ d → f c d = none → ∀ x y, Ek Dn l c d x y = false
  ex : ∀ (c d : Int) (b : Nat), f c d = some b → ∃ i : Int, 0 ≤ i ∧ i < L.length ∧ (gt L i).c = c ∧ (gt L i).d = d
  one : ∀ i j : Int, 0 ≤ i → i < L.length → 0 ≤ j → j < L.length → (gt L i).c = (gt L j).c → (gt L i).d = (gt L j).d → i = j
theorem InvU.zero {Dn : Int → Int → Bool} {l : List Int} (hD : ∀ x y, Dn x y = false) : InvU Dn l [] (fun _ _ => none) := by
  refine ⟨fun i i0 i1 => ?_, fun c d _ _ x y => ?_, fun c d b h => (by cases h), fun i j i0 i1 => ?_⟩
  · simp at i1; omega
  · unfold Ek; rw [hD]; rfl
  · simp at i1; omega
section
variable {Dn : Int → Int → Bool} {l : List Int} {L : List UE} {f : Int → Int → Option Nat} {c d u v i : Int} {b : Nat} {P : List Int}
theorem InvU.add (h : InvU Dn l L f) (hk : KOK c d) (hcd : c ≤ d) (hf : f c d = none) (hl : P.length = 128) (hP : ∀ v : Int, 0 ≤ v → v < 128 → gt P v = v) : InvU Dn l (L ++ [⟨c, d, b, P⟩]) (updF f c d b) := by
  have hlen : (L ++ [(⟨c, d, b, P⟩ : UE)]).length = L.length + 1 := by simp
  have hne : ∀ j : Int, 0 ≤ j → j < L.length → ¬ ((gt L j).c = c ∧ (gt L j).d = d) := fun j j0 j1 ⟨e1, e2⟩ => by
    have := (h.at_ j j0 j1).2.2.1
    rw [e1, e2, hf] at this
    cases this
  refine ⟨fun j j0 j1 => ?_, fun c' d' hcd' hf' => ?_, fun c' d' b' hf' => ?_, fun j k j0 j1 k0 k1 => ?_⟩
  · rw [gtU_app j0 j1]
    by_cases e : j = L.length
    · rw [if_pos e]
      refine ⟨hk, hcd, by unfold updF; rw [if_pos ⟨rfl, rfl⟩], _, _, UFI.none_ hl hP (h.no c d hcd hf)⟩
    · rw [if_neg e]
      obtain ⟨h1, h2, h3, h4⟩ := h.at_ j j0 (by omega)
      refine ⟨h1, h2, ?_, h4⟩
      unfold updF
      rw [if_neg (hne j j0 (by omega))]
      exact h3
  · unfold updF at hf'
    by_cases e : c' = c ∧ d' = d
    · rw [if_pos e] at hf'; cases hf'
    · rw [if_neg e] at hf'; exact h.no c' d' hcd' hf'
  · unfold updF at hf'
    by_cases e : c' = c ∧ d' = d
    · refine ⟨L.length, by omega, by omega, ?_⟩
      rw [gtU_app (by omega) (by omega), if_pos rfl]
      exact ⟨e.1.symm, e.2.symm⟩
    · rw [if_neg e] at hf'
      obtain ⟨j, j0, j1, j2⟩ := h.ex c' d' b' hf'
      refine ⟨j, j0, by omega, ?_⟩
      rw [gtU_app j0 (by omega), if_neg (by omega)]
      exact j2
  · rw [gtU_app j0 j1, gtU_app k0 k1]
    by_cases e : j = L.length
    · rw [if_pos e]
      by_cases e2 : k = L.length
      · intro _ _; omega
      · rw [if_neg e2]
        exact fun e3 e4 => (hne k k0 (by omega) ⟨e3.symm, e4.symm⟩).elim
    · rw [if_neg e]
      by_cases e2 : k = L.length
      · rw [if_pos e2]
        exact fun e3 e4 => (hne j j0 (by omega) ⟨e3, e4⟩).elim
      · rw [if_neg e2]
        exact h.one j k j0 (by omega) k0 (by omega)
theorem InvU.upd (h : InvU Dn l L f) (i0 : 0 ≤ i) (i1 : i < L.length) (hc : (gt L i).c = c) (hd : (gt L i).d = d) (hk : (gt l u = c ∧ gt l v = d) ∨ (gt l u = d ∧ gt l v = c)) {P' : List Int} (hP : ∃ rt dp, UFI P' (Plus (Ek Dn l c d) u v) rt dp) : InvU (Plus Dn u v) l (L.set i.toNat ⟨c, d, (gt L i).b, P'⟩) f := by
  have hlen : (L.set i.toNat ⟨c, d, (gt L i).b, P'⟩).length = L.length := List.length_set
  obtain ⟨g1, g2, g3, _⟩ := h.at_ i i0 i1
  rw [hc, hd] at g1 g2 g3
  have oth : ∀ c' d' : Int, c' ≤ d' → ¬ (c' = c ∧ d' = d) → Ek (Plus Dn u v) l c' d' = Ek Dn l c' d' := fun c' d' h1 h2 => ek_other (by omega)
  have key : ∀ j : Int, 0 ≤ j → j < L.length → (gt (L.set i.toNat ⟨c, d, (gt L i).b, P'⟩) j).c = (gt L j).c ∧ (gt (L.set i.toNat ⟨c, d, (gt L i).b, P'⟩) j).d = (gt L j).d := fun j j0 j1 => by
    rw [gtU_set i0 i1 j0]
    by_cases e : j = i
    · rw [if_pos e, e]; exact ⟨hc.symm, hd.symm⟩
    · rw [if_neg e]; exact ⟨rfl, rfl⟩
  refine ⟨fun j j0 j1 => ?_, fun c' d' hcd' hf' => ?_, fun c' d' b' hf' => ?_, fun j k j0 j1 k0 k1 => ?_⟩
  · rw [hlen] at j1
    rw [gtU_set i0 i1 j0]
    by_cases e : j = i
    · rw [if_pos e]
      refine ⟨g1, g2, g3, ?_⟩
      dsimp only
      rw [ek_this hk]
      exact hP
    · rw [if_neg e]
      obtain ⟨h1, h2, h3, h4⟩ := h.at_ j j0 j1
      refine ⟨h1, h2, h3, ?_⟩
      rw [oth _ _ h2 (fun e2 => e (h.one j i j0 j1 i0 i1 (by rw [e2.1, hc]) (by rw [e2.2, hd])))]
      exact h4
  · rw [oth c' d' hcd' (fun e => by rw [e.1, e.2, g3] at hf'; cases hf')]
    exact h.no c' d' hcd' hf'
  · obtain ⟨j, j0, j1, j2, j3⟩ := h.ex c' d' b' hf'
    exact ⟨j, j0, by rw [hlen]; exact j1, by rw [(key j j0 j1).1]; exact j2, by rw [(key j j0 j1).2]; exact j3⟩
  · rw [hlen] at j1 k1
    rw [(key j j0 j1).1, (key k k0 k1).1, (key j j0 j1).2, (key k k0 k1).2]
    exact h.one j k j0 j1 k0 k1
end
theorem setG_at {α : Type} {rr : α → Res} {rows : List α} {i : Int} (r : α) (h0 : 0 ≤ i) (h1 : i < rows.length) : ((rows.set i.toNat r).map rr).Perm (rr r :: ((rows.take i.toNat).map rr ++ (rows.drop (i.toNat + 1)).map rr)) := by
  rw [List.set_eq_take_append_cons_drop, if_pos (by omega), List.map_append, List.map_cons]
  exact List.perm_middle
section
variable {P : Program} {n : Nat} {w0 w : World} {D : List Nat} {Γ : Tm} {σ : List Res} {ops : Array Oper} {os : List Oper} {Q : QQ} {α : Type} {rr : α → Res} {o : Oper} {K : Tm → List Res → Prop}
theorem takeG_at [Inhabited α] {rows : List α} {i : Int} (h0 : 0 ≤ i) (h1 : i < rows.length) : (rows.map rr).Perm (rr (gt rows i) :: ((rows.take i.toNat).map rr ++ (rows.drop (i.toNat + 1)).map rr)) := by
  have e : rows = rows.take i.toNat ++ gt rows i :: rows.drop (i.toNat + 1) := by
    rw [gt_elem h0 (by omega)]; simp
  conv => lhs; rw [e]
  rw [List.map_append, List.map_cons]
  exact List.perm_middle
/-- a piece is taken out -/
theorem wc_takeG [Inhabited α] {cd : Code} {rows : List α} {i : Int} (h0 : 0 ≤ i) (h1 : i < rows.length) (h : PickK (bun (rows.map rr)) σ (fun σ' => WC P n w0 D cd Q Γ (rr (gt rows i) :: bun ((rows.take i.toNat).map rr ++ (rows.drop (i.toNat + 1)).map rr) :: σ'))) : WC P n w0 D cd Q Γ σ := by
  obtain ⟨σ', hp, h⟩ := h
  refine .mk fun a w hs hst => h.run a w hs ?_
  have h2 := bun_out (hst.perm hp)
  have h3 := h2.perm ((takeG_at h0 h1).symm.append_right σ')
  have h4 : St w0 D (((rows.take i.toNat).map rr ++ (rows.drop (i.toNat + 1)).map rr) ++ (rr (gt rows i) :: σ')) w := h3.perm (by
    rw [List.cons_append]
    exact List.perm_middle)
  exact (bun_in h4).perm (List.Perm.swap _ _ _)
/-- a piece is put back -/
theorem wl_giveG {rows : List α} {i : Int} (r : α) (h0 : 0 ≤ i) (h1 : i < rows.length) (h : SubK [rr r, bun ((rows.take i.toNat).map rr ++ (rows.drop (i.toNat + 1)).map rr)] σ (fun σ' => WL P n w0 D ops os Q Γ (bun ((rows.set i.toNat r).map rr) :: σ'))) : WL P n w0 D ops os Q Γ σ := by
  obtain ⟨rest, hp, h⟩ := h
  refine .mk fun a w hs hst => h.run a w hs ?_
  have h2 : St w0 D (bun ((rows.take i.toNat).map rr ++ (rows.drop (i.toNat + 1)).map rr) :: (rr r :: rest)) w := (hst.perm hp).perm (List.Perm.swap _ _ _)
  have h3 := bun_out h2
  refine bun_in (h3.perm ?_)
  refine (List.Perm.append_right rest (setG_at r h0 h1)).trans ?_
  rw [List.cons_append]
  exact List.perm_middle.symm
theorem wc_bun0 {cd : Code} (h : WC P n w0 D cd Q Γ (bun [] :: σ)) : WC P n w0 D cd Q Γ σ := .mk fun a w hs hst => h.run a w hs (bun_in (l := []) hst)
theorem wl_toSe {b : Nat} {cs : List Value} {Pl : List Int} (hcs : cs = Pl.map vi) (hl : Pl.length = 128) (h : WL P n w0 D ops os Q Γ (seR b Pl :: σ)) : WL P n w0 D ops os Q Γ (blk b cs TSe :: σ) := .mk fun a w hs hst => h.run a w hs (by
  refine hst.conv 0 (r := blk b cs TSe) (r' := seR b Pl) rfl (by simp [blk, osl, ownB]) fun w hw => ?_
  subst hcs
  refine ⟨by simp, .inr ⟨b, 128, (Pl.map vi).toArray, by rw [hl], Nat.zero_le _, hw, by rw [hl]; omega, by simp [maxLen], by simp [hl], by simp [hl, List.take_of_length_le]⟩⟩)
end
theorem val_minU {P : Program} {w0 : World} {D : List Nat} {Γ : Tm} {σ : List Res} {o : Oper} {x y : Operand} {t1 t2 : TypeId} {k : IntKind} {a b : Int} (hop : o.op = .call { callee := .builtin .min, args := #[x, y], argTypes := #[t1, t2] }) (hx : ev Γ x = some (.int k a)) (hy : ev Γ y = some (.int k b)) : ValOK P w0 D σ Γ o (.int k (min a b)) := by
  refine ⟨fun w hst g hg => ?_⟩
  have e : (if b < a then b else a) = min a b := by
    by_cases h : b < a
    · rw [if_pos h]; omega
    · rw [if_neg h]; omega
  simp [execOp, hop, resolve, invoke, builtin, hg _ _ hx, hg _ _ hy, Builtin.min_, Builtin.min2, Result.andThen, e]
/-! ### circle -/
/-- less: none yet, or ahead of the best -/
def LessU (xs : List Int) (c d : Int) : Prop := xs = [] ∨ ∃ c1 d1 : Int, xs = [c1, d1] ∧ (c < c1 ∨ (c = c1 ∧ d < d1))
section
variable {A bA : Option Addr} {c n nc tb m cc bc bb : Nat} {l xs : List Int} {R : List Res} {g : Pat} {y : PA} {kd N c0 d0 : Int} {NA : Option Addr}
theorem less_c (w : World) (hb : ∀ w', Only [] w w' → w'.cell? ⟨bb, 0, none⟩ = some (.slice bA xs.length bc)) (hx : Rds vi w bA bc xs) (h0 : xs = [] → bA = none) (h2 : xs ≠ [] → xs.length = 2) (b : Bool) (hbb : b = true ↔ LessU xs c0 d0) :
    Calls Try.prog 116 [vi c0, vi d0, .pointer (some ⟨bb, 0, none⟩)].toArray w (one (.bool b) w) := by
  have ox := hx.old
  refine calls_wc [] [] [.tmp 5] (fun _ => [.bool b]) Try.func116 rfl rfl (fun _ => rfl) Try.ntmps116 rfl (Own.nil w) rfl ?_
  refine gg ?_
  refine wl_v rfl rfl rfl (val_load rfl rfl (ag_of rfl) (fun w hst => hb w hst.only)) ?_
  refine wl_v rfl rfl rfl (val_nilS rfl rfl rfl (el_of rfl)) ?_
  by_cases hx0 : xs = []
  · obtain rfl : b = true := hbb.2 (.inl hx0)
    rw [h0 hx0]
    refine gg ?_
    exact grt () trivial
  · have hl2 := h2 hx0
    have hbA : bA.isNone = false := by
      obtain ⟨ad, e, _⟩ := hx.2.2 (by omega)
      rw [e]; rfl
    have hxs : xs = [gt xs 0, gt xs 1] := by
      match xs, hl2 with
      | [p, q], _ => rfl
    have hL : LessU xs c0 d0 ↔ (c0 < gt xs 0 ∨ (c0 = gt xs 0 ∧ d0 < gt xs 1)) := by
      unfold LessU
      constructor
      · rintro (h | ⟨c1, d1, e, h⟩)
        · exact (hx0 h).elim
        · rw [e]; exact h
      · exact fun h => .inr ⟨_, _, hxs, h⟩
    rw [hbA]
    refine gg ?_
    refine wl_v rfl rfl rfl (val_load rfl rfl (ag_of rfl) (fun w hst => hb w hst.only)) ?_
    by_cases h1 : c0 < gt xs 0
    · obtain rfl : b = true := hbb.2 (hL.2 (.inl h1))
      refine gg ?_
      exact grt () trivial
    · by_cases h3 : c0 = gt xs 0
      · by_cases h4 : d0 < gt xs 1
        · obtain rfl : b = true := hbb.2 (hL.2 (.inr ⟨h3, h4⟩))
          refine gg ?_
          refine wl_v rfl rfl rfl (val_load rfl rfl (ag_of rfl) (fun w hst => hb w hst.only)) ?_
          refine gg ?_
          refine wl_v rfl rfl rfl (val_load rfl rfl (ag_of rfl) (fun w hst => hb w hst.only)) ?_
          refine gg ?_
          exact grt () trivial
        · obtain rfl : b = false := by
            cases b with
            | false => rfl
            | true => have := hL.1 (hbb.1 rfl); omega
          refine gg ?_
          refine wl_v rfl rfl rfl (val_load rfl rfl (ag_of rfl) (fun w hst => hb w hst.only)) ?_
          refine gg ?_
          refine wl_v rfl rfl rfl (val_load rfl rfl (ag_of rfl) (fun w hst => hb w hst.only)) ?_
          refine gg ?_
          exact grt () trivial
      · obtain rfl : b = false := by
          cases b with
          | false => rfl
          | true => have := hL.1 (hbb.1 rfl); omega
        refine gg ?_
        refine wl_v rfl rfl rfl (val_load rfl rfl (ag_of rfl) (fun w hst => hb w hst.only)) ?_
        refine gg ?_
        exact grt () trivial
end
structure CiX where
  k : Int
  A : Option Addr
  c : Nat
  xs : List Int
  L : List UE
  f : Int → Int → Option Nat
  q : Nat
structure CmX where
  b : Nat
  P : List Int
  i : Int
  L : List UE
  f : Int → Int → Option Nat
  q : Nat
def bestOK (xs : List Int) (A : Option Addr) : Prop := (xs = [] → A = none) ∧ (xs ≠ [] → xs.length = 2)
section
variable {A : Option Addr} {c n nc tb : Nat} {l : List Int} {R : List Res} {g : Pat} {y : PA} {kd : Int} {NA : Option Addr}
set_option maxRecDepth 100000 in
theorem circle_c (w : World) (hm : May g) (hn : g.rows = n) (hsq : g.rows = g.width) (hev : ∀ a b, hasB g a b = true → hasB g b a = true) (hl : RdO vi w ((ThI tb NA nc y kd g R).flatMap Res.fp) A c l) (hln : l.length = n) (hcol : ∀ i : Int, 0 ≤ i → i < l.length → 0 ≤ gt l i ∧ gt l i ≤ 65536) (hp : ∀ x y, hasB g x y = true → gt l x ≠ gt l y) (hrd : RdB w ((ThI tb NA nc y kd g R).flatMap Res.fp) R y g) (hw : Own (ThI tb NA nc y kd g R) w) :
    Calls Try.prog 105 [.pointer (some ⟨tb, 0, none⟩), .slice A l.length c].toArray w (Ret (ThI tb NA nc y kd g R) (fun z : RX => .slice z.A z.xs.length z.c) (fun z => osl TI vi z.A z.c z.xs :: ThI tb NA nc y kd g R) (fun z => CiOK (hasB g) n l z.xs) w) := by
  have HG := hm.toHead
  have hn2 := HG.r1
  have hnl := nearTo_len y g (k := g.rows) HG.r0
  have hin : ∀ x y, hasB g x y = true → (0 ≤ x ∧ x < n) ∧ 0 ≤ y ∧ y < n := fun x y h => by
    have := (hasB_iff.1 h).in_ hm
    omega
  have dnp : ∀ {u i x y : Int}, DnS g u i x y = true → hasB g x y = true := fun h => (dnS_iff.1 h).1
  refine calls_wc ((ThI tb NA nc y kd g R).flatMap Res.fp) (ThI tb NA nc y kd g R) [.tmp 4] (fun z : RX => [.slice z.A z.xs.length z.c]) Try.func105 rfl rfl (fun _ => rfl) Try.ntmps105 rfl hw rfl ?_
  have rowR : ∀ {a : Int}, 0 ≤ a → a < n → ∀ {w' : World} {σ : List Res}, St w ((ThI tb NA nc y kd g R).flatMap Res.fp) σ w' → HasR σ (bun R) → Rds vi w' (rowB y g a) (rowL g a).length (rowL g a) := fun a0 a1 _ _ hst hb => rowL_rd HG a0 (by omega) (hrd.now hst hb)
  have rowN : ∀ {a : Int}, 0 ≤ a → a < n → ∀ j : Int, 0 ≤ j → j < (rowL g a).length → 0 ≤ gt (rowL g a) j ∧ gt (rowL g a) j < n := fun a0 a1 j j0 j1 => by
    have hb := (rowL_mem hm a0 (by omega)).2 ⟨j, j0, j1, rfl⟩
    have := ((hasB_iff.1 hb).in_ hm).2
    omega
  dsimp only [ThI]
  refine gnil ?_
  refine wc_bun0 ?_
  refine gg ?_
  refine wl_op (ok_alloc rfl rfl rfl rfl (ze_of rfl) ?_); intro bb
  refine gg ?_
  refine wl_op (ok_makeMap0 rfl rfl rfl rfl (fun b => MapR b 0 (fun _ _ => none)) (fun _ => rfl) (fun w => IsMp.made w) ?_)
  intro m
  refine gg ?_
  refine glp (fun x : CiX => 0 ≤ x.k ∧ x.k ≤ n ∧ (x.q : Int) ≤ 16384 * x.k ∧ bestOK x.xs x.A ∧ BeI n (DnS g x.k 0) l x.xs ∧ InvU (DnS g x.k 0) l x.L x.f) (fun x => [(1, .slice A l.length c), (5, .pointer (some ⟨bb, 0, none⟩)), (6, .func (.func 116) #[] #[.pointer (some ⟨bb, 0, none⟩)]), (7, .map (some m)), (22, .slice NA (nearTo y g g.rows).length nc), (23, vi n), (24, vi x.k)])
    (fun x => blk bb [.slice x.A x.xs.length x.c] TIs :: osl TI vi x.A x.c x.xs :: MapR m x.q x.f :: bun (x.L.map ueR) :: ThI tb NA nc y kd g R) (fun x => (n - x.k).toNat) ⟨0, none, 0, [], [], fun _ _ => none, 0⟩ ⟨by simp, by simp, by simp, ⟨fun _ => rfl, fun h => (h rfl).elim⟩, BeI.zero (dn_zero hm), InvU.zero (dn_zero hm)⟩ ?_ (hT := .cons rfl (.cons rfl (.cons rfl (.cons rfl (.cons rfl (.cons (look_to rfl (by rw [hnl, hn]; rfl)) (.cons rfl .nil)))))))
  rintro ⟨u, bA, bc, xs, L, f, q⟩ ⟨hu0, hu1, hq, hbo, hbe, hinv⟩
  dsimp only [ThI] at hu0 hu1 hq hbo hbe hinv ⊢
  by_cases hu : u < n
  · have hsu := rowL_small (v := u) hm hu0 (by omega)
    refine gg ?_
    rw [nearTo_at y g hu0 (by omega), rowV_eq HG hu0 (by omega)]
    dsimp only [sv]
    refine glp (fun x : CiX => 0 ≤ x.k ∧ x.k ≤ (rowL g u).length ∧ (x.q : Int) ≤ 16384 * u + x.k ∧ bestOK x.xs x.A ∧ BeI n (DnS g u x.k) l x.xs ∧ InvU (DnS g u x.k) l x.L x.f) (fun x => [(1, .slice A l.length c), (5, .pointer (some ⟨bb, 0, none⟩)), (6, .func (.func 116) #[] #[.pointer (some ⟨bb, 0, none⟩)]), (7, .map (some m)), (8, vi u), (22, .slice NA (nearTo y g g.rows).length nc), (23, vi n), (24, vi u), (29, .slice (rowB y g u) (rowL g u).length (rowL g u).length), (30, vi (rowL g u).length), (31, vi x.k)])
      (fun x => blk bb [.slice x.A x.xs.length x.c] TIs :: osl TI vi x.A x.c x.xs :: MapR m x.q x.f :: bun (x.L.map ueR) :: ThI tb NA nc y kd g R) (fun x => ((rowL g u).length - x.k).toNat) ⟨0, bA, bc, xs, L, f, q⟩ ⟨by simp, by simp, by dsimp only; omega, hbo, hbe, hinv⟩ ?_
    clear hq hbo hbe hinv
    clear xs L f q bA bc
    rintro ⟨i, bA, bc, xs, L, f, q⟩ ⟨hi0, hi1, hq, hbo, hbe, hinv⟩
    dsimp only [ThI] at hi0 hi1 hq hbo hbe hinv ⊢
    by_cases hi : i < (rowL g u).length
    · have hx := rowN hu0 hu i hi0 hi
      refine wc_know (φ := ∃ ad, rowB y g u = some ad) (fun w hst => (rowR hu0 hu hst (by (repeat (first | exact .here | refine .there ?_)))).ad_ (by omega)) ?_
      rintro ⟨sa, hsa⟩
      rw [hsa]
      refine gg ?_
      refine wl_v rfl rfl rfl (val_load rfl rfl (ag_of rfl) (fun w hst => by rw [← hsa]; exact (rowR hu0 hu hst (by (repeat (first | exact .here | refine .there ?_)))).cell hi0 hi)) ?_
      generalize hv : gt (rowL g u) i = v at hx ⊢
      by_cases h1 : v < u
      · have hsk := dn_skip hi0 (by rw [hv]; exact h1)
        refine gg ?_
        rw [← hsa]
        exact gnx (⟨i + 1, bA, bc, xs, L, f, q⟩ : CiX) ⟨by dsimp only; omega, by dsimp only; omega, by dsimp only; omega, hbo, by rw [hsk]; exact hbe, by rw [hsk]; exact hinv⟩ (by dsimp only; omega)
      have hb : hasB g u v = true := (rowL_mem hm hu0 (by omega)).2 ⟨i, hi0, hi, hv⟩
      have huv := hp _ _ hb
      have hlt : u < v := by
        by_cases e : u = v
        · exact (huv (by rw [e])).elim
        · omega
      have hst' := dn_step hm hev hu0 (by omega) hi0 hi hv hlt
      have hnew := dn_new hm hu0 (by omega) hi0 hi hv hlt
      have cu := hcol u hu0 (by omega)
      have cv := hcol v hx.1 (by omega)
      refine gg ?_
      refine gwa [] ?_
      (repeat (first | refine gk1 ?_ | refine gk2 ?_ | refine gk3 ?_ | refine gk0 ?_ | refine gk4 ?_))
      dsimp only [List.nil_append]
      (first | refine ga1 0 (by exact rfl) (by exact rfl) ?_ | refine ga2 0 (by exact rfl) (by exact rfl) ?_ | refine ga3 0 (by exact rfl) (by exact rfl) ?_ | refine ga4 0 (by exact rfl) (by exact rfl) ?_)
      (first | refine ga1 1 (by exact rfl) (by exact rfl) ?_ | refine ga2 1 (by exact rfl) (by exact rfl) ?_ | refine ga3 1 (by exact rfl) (by exact rfl) ?_ | refine ga4 1 (by exact rfl) (by exact rfl) ?_)
      (first | refine ga1 2 (by exact rfl) (by exact rfl) ?_ | refine ga2 2 (by exact rfl) (by exact rfl) ?_ | refine ga3 2 (by exact rfl) (by exact rfl) ?_ | refine ga4 2 (by exact rfl) (by exact rfl) ?_)
      (first | refine ga1 3 (by exact rfl) (by exact rfl) ?_ | refine ga2 3 (by exact rfl) (by exact rfl) ?_ | refine ga3 3 (by exact rfl) (by exact rfl) ?_ | refine ga4 3 (by exact rfl) (by exact rfl) ?_)
      (first | refine ga1 4 (by exact rfl) (by exact rfl) ?_ | refine ga2 4 (by exact rfl) (by exact rfl) ?_ | refine ga3 4 (by exact rfl) (by exact rfl) ?_ | refine ga4 4 (by exact rfl) (by exact rfl) ?_)
      (first | refine ga1 5 (by exact rfl) (by exact rfl) ?_ | refine ga2 5 (by exact rfl) (by exact rfl) ?_ | refine ga3 5 (by exact rfl) (by exact rfl) ?_ | refine ga4 5 (by exact rfl) (by exact rfl) ?_)
      (first | refine ga1 6 (by exact rfl) (by exact rfl) ?_ | refine ga2 6 (by exact rfl) (by exact rfl) ?_ | refine ga3 6 (by exact rfl) (by exact rfl) ?_ | refine ga4 6 (by exact rfl) (by exact rfl) ?_)
      (first | refine ga1 7 (by exact rfl) (by exact rfl) ?_ | refine ga2 7 (by exact rfl) (by exact rfl) ?_ | refine ga3 7 (by exact rfl) (by exact rfl) ?_ | refine ga4 7 (by exact rfl) (by exact rfl) ?_)
      refine wa_v 8 [] rfl (by kernel_rfl) rfl rfl rfl rfl (val_minU rfl rfl rfl) ?_
      (first | refine ga1 9 (by exact rfl) (by exact rfl) ?_ | refine ga2 9 (by exact rfl) (by exact rfl) ?_ | refine ga3 9 (by exact rfl) (by exact rfl) ?_ | refine ga4 9 (by exact rfl) (by exact rfl) ?_)
      (first | refine ga1 10 (by exact rfl) (by exact rfl) ?_ | refine ga2 10 (by exact rfl) (by exact rfl) ?_ | refine ga3 10 (by exact rfl) (by exact rfl) ?_ | refine ga4 10 (by exact rfl) (by exact rfl) ?_)
      (first | refine ga1 11 (by exact rfl) (by exact rfl) ?_ | refine ga2 11 (by exact rfl) (by exact rfl) ?_ | refine ga3 11 (by exact rfl) (by exact rfl) ?_ | refine ga4 11 (by exact rfl) (by exact rfl) ?_)
      (first | refine ga1 12 (by exact rfl) (by exact rfl) ?_ | refine ga2 12 (by exact rfl) (by exact rfl) ?_ | refine ga3 12 (by exact rfl) (by exact rfl) ?_ | refine ga4 12 (by exact rfl) (by exact rfl) ?_)
      (first | refine ga1 13 (by exact rfl) (by exact rfl) ?_ | refine ga2 13 (by exact rfl) (by exact rfl) ?_ | refine ga3 13 (by exact rfl) (by exact rfl) ?_ | refine ga4 13 (by exact rfl) (by exact rfl) ?_)
      (first | refine ga1 14 (by exact rfl) (by exact rfl) ?_ | refine ga2 14 (by exact rfl) (by exact rfl) ?_ | refine ga3 14 (by exact rfl) (by exact rfl) ?_ | refine ga4 14 (by exact rfl) (by exact rfl) ?_)
      (first | refine ga1 15 (by exact rfl) (by exact rfl) ?_ | refine ga2 15 (by exact rfl) (by exact rfl) ?_ | refine ga3 15 (by exact rfl) (by exact rfl) ?_ | refine ga4 15 (by exact rfl) (by exact rfl) ?_)
      (first | refine ga1 16 (by exact rfl) (by exact rfl) ?_ | refine ga2 16 (by exact rfl) (by exact rfl) ?_ | refine ga3 16 (by exact rfl) (by exact rfl) ?_ | refine ga4 16 (by exact rfl) (by exact rfl) ?_)
      refine wa_v 17 [] rfl (by kernel_rfl) rfl rfl rfl rfl (val_max rfl rfl rfl) ?_
      generalize hc0 : min (gt l u) (gt l v) = c0
      generalize hd0 : max (gt l u) (gt l v) = d0
      have hcd : c0 ≤ d0 := by omega
      have hK : KOK c0 d0 := by unfold KOK; omega
      have hkk : (gt l u = c0 ∧ gt l v = d0) ∨ (gt l u = d0 ∧ gt l v = c0) := by omega
      obtain ⟨bs1, bs2, bs3⟩ := hbe.step (dn_ev hev) (fun x y h => hin x y (dnp h)) (fun x y h => hp x y (dnp h)) ⟨hu0, hu⟩ hx huv hnew hc0.symm hd0.symm
      rw [← hst'] at bs1 bs2 bs3
      refine wa_v 18 [] rfl (by kernel_rfl) rfl rfl rfl rfl (val_build (ps := [(0, vi c0), (1, vi d0)]) (cells := [vi c0, vi d0]) rfl rfl (by kernel_rfl)) ?_
      refine gaOne 19 rfl ?_
      refine ok_alloc rfl rfl rfl rfl (ze_of rfl) ?_
      intro pb
      refine ⟨by (repeat (first | exact Suf.refl | exact Suf.nil | exact Suf.app _ _ | apply Suf.cons)), ?_⟩
      refine gaOne 20 rfl ?_
      refine gt0 (by exact rfl) ?_
      refine ⟨by (repeat (first | exact Suf.refl | exact Suf.nil | exact Suf.app _ _ | apply Suf.cons)), ?_⟩
      refine gaDone ?_
      refine gg ?_
      refine wl_v rfl rfl rfl (val_mp (m := m) (k := q) (f := f) (c := c0) (d := d0) (by (repeat (first | exact .here | refine .there ?_))) rfl rfl rfl hK) ?_
      refine gg ?_
      refine wl_v rfl rfl rfl (val_nilP rfl rfl rfl) ?_
      refine gg ?_
      refine wc_meetK (fun z : CmX => z.P.length = 128 ∧ (0 ≤ z.i ∧ z.i < z.L.length) ∧ (gt z.L z.i).c = c0 ∧ (gt z.L z.i).d = d0 ∧ (gt z.L z.i).b = z.b ∧ (gt z.L z.i).P = z.P ∧ (z.q : Int) ≤ 16384 * u + i + 1 ∧ InvU (DnS g u i) l z.L z.f)
        (fun z => [(1, .slice A l.length c), (5, .pointer (some ⟨bb, 0, none⟩)), (6, .func (.func 116) #[] #[.pointer (some ⟨bb, 0, none⟩)]), (7, .map (some m)), (8, vi u), (11, vi v), (12, .pointer (some ⟨pb, 0, none⟩)), (13, .pointer (some ⟨z.b, 0, none⟩)), (22, .slice NA (nearTo y g g.rows).length nc), (23, vi n), (24, vi u), (29, .slice (some sa) (rowL g u).length (rowL g u).length), (30, vi (rowL g u).length), (31, vi i)])
        (fun z => seR z.b z.P :: bun ((z.L.take z.i.toNat).map ueR ++ (z.L.drop (z.i.toNat + 1)).map ueR) :: blk bb [.slice bA xs.length bc] TIs :: osl TI vi bA bc xs :: MapR m z.q z.f :: blk pb [vi c0, vi d0] TTw :: ThI tb NA nc y kd g R) ?_ ?_
      · cases hf : f c0 d0 with
        | some b =>
          obtain ⟨j, j0, j1, j2, j3⟩ := hinv.ex c0 d0 b hf
          obtain ⟨_, _, g3, rt, dp, g4⟩ := hinv.at_ j j0 j1
          rw [j2, j3, hf] at g3
          refine wc_cond rfl (fun h => by cases h) (fun _ => ?_)
          refine wc_takeG (rows := L) (i := j) (rr := ueR) j0 j1 ?_
          (repeat (first | refine gk1 ?_ | refine gk2 ?_ | refine gk3 ?_ | refine gk0 ?_ | refine gk4 ?_))
          refine gg ?_
          exact ⟨⟨b, (gt L j).P, j, L, f, q⟩, ⟨g4.len, ⟨j0, j1⟩, j2, j3, (Option.some.inj g3).symm, rfl, by dsimp only; omega, hinv⟩, by (repeat (first | exact .nil | refine .cons rfl ?_ )), by dsimp only [ThI]; rw [Option.some.inj g3]; refine SubK.e ?_; (repeat (first | refine gk1 ?_ | refine gk2 ?_ | refine gk3 ?_ | refine gk0 ?_ | refine gk4 ?_)); trivial⟩
        | none =>
          refine wc_cond rfl (fun _ => ?_) (fun h => by cases h)
          refine gg ?_
          refine wl_v rfl rfl rfl (val_build (ps := []) (cells := List.replicate 128 (vi 0)) rfl rfl (by kernel_rfl)) ?_
          refine wl_op (ok_box rfl rfl rfl rfl rfl ?_)
          intro nb
          refine wl_toSe (Pl := List.replicate 128 0) (by rw [List.map_replicate]; simp [Value.cells]) (by simp) ?_
          refine gg ?_
          refine glp (fun z : RtX => 0 ≤ z.v ∧ z.v ≤ 128 ∧ z.P.length = 128 ∧ ∀ p : Int, 0 ≤ p → p < z.v → gt z.P p = p) (fun z => [(1, .slice A l.length c), (5, .pointer (some ⟨bb, 0, none⟩)), (6, .func (.func 116) #[] #[.pointer (some ⟨bb, 0, none⟩)]), (7, .map (some m)), (8, vi u), (11, vi v), (12, .pointer (some ⟨pb, 0, none⟩)), (13, .pointer (some ⟨nb, 0, none⟩)), (22, .slice NA (nearTo y g g.rows).length nc), (23, vi n), (24, vi u), (29, .slice (some sa) (rowL g u).length (rowL g u).length), (30, vi (rowL g u).length), (31, vi i), (64, vi z.v)])
            (fun z => MapR m q f :: seR nb z.P :: bun (L.map ueR) :: blk bb [.slice bA xs.length bc] TIs :: osl TI vi bA bc xs :: blk pb [vi c0, vi d0] TTw :: ThI tb NA nc y kd g R) (fun z => (128 - z.v).toNat) ⟨0, List.replicate 128 0⟩ ⟨by simp, by simp, by simp, fun p p0 p1 => by dsimp only at p1; omega⟩ ?_
          rintro ⟨z, P⟩ ⟨hz0, hz1, hPl, hPz⟩
          dsimp only [ThI] at hz0 hz1 hPl hPz ⊢
          by_cases hz : z < 128
          · refine gg ?_
            refine gx1 (by exact rfl) hz0 hz ?_
            refine gg ?_
            exact gnx (⟨z + 1, P.set z.toNat z⟩ : RtX) ⟨by dsimp only; omega, by dsimp only; omega, by rw [List.length_set]; exact hPl, fun p p0 p1 => by
              dsimp only at p1 ⊢
              rw [gt_setI hz0 (by omega) p0]
              by_cases e : p = z
              · rw [if_pos e, e]
              · rw [if_neg e]; exact hPz p p0 (by omega)⟩ (by dsimp only; omega)
          obtain rfl : z = 128 := by omega
          have hadd := hinv.add (b := nb) hK hcd hf hPl hPz
          have hga : gt (L ++ [⟨c0, d0, nb, P⟩]) (L.length : Int) = ⟨c0, d0, nb, P⟩ := by rw [gtU_app (by omega) (by simp; omega), if_pos rfl]
          refine gg ?_
          refine wl_op (ok_mp 0 (m := m) (k := q) (f := f) (c := c0) (d := d0) (b := nb) rfl rfl rfl rfl rfl rfl rfl hK (by omega) ?_)
          dsimp only [List.set]
          refine gg ?_
          exact ⟨⟨nb, P, L.length, L ++ [⟨c0, d0, nb, P⟩], updF f c0 d0 nb, q + 1⟩, ⟨hPl, ⟨by dsimp only; omega, by simp; omega⟩, by rw [hga], by rw [hga], by rw [hga], by rw [hga], by dsimp only; omega, hadd⟩, by (repeat (first | exact .nil | refine .cons rfl ?_ )), by
            dsimp only [ThI]
            rw [show ((L.length : Nat) : Int).toNat = L.length by omega, List.take_left, show List.drop (L.length + 1) (L ++ [(⟨c0, d0, nb, P⟩ : UE)]) = [] by simp, List.map_nil, List.append_nil]
            refine SubK.e ?_; (repeat (first | refine gk1 ?_ | refine gk2 ?_ | refine gk3 ?_ | refine gk0 ?_ | refine gk4 ?_)); trivial⟩
      rintro ⟨b, P, j, L', f', q'⟩ ⟨hPl, ⟨hj0, hj1⟩, hjc, hjd, hjb, hjP, hq', hinv'⟩
      dsimp only [ThI] at hPl hj0 hj1 hjc hjd hjb hjP hq' hinv' ⊢
      obtain ⟨_, _, _, rt, dp, hU⟩ := hinv'.at_ j hj0 hj1
      rw [hjP, hjc, hjd] at hU
      obtain ⟨ru0, ru1, _⟩ := hU.root u hu0 (by omega)
      obtain ⟨rv0, rv1, _⟩ := hU.root v hx.1 (by omega)
      have hway := hU.way u v hu0 (by omega) hx.1 (by omega)
      refine gg ?_
      refine gc3 [seR b P] (fun w hst hst1 => root_c w hU hu0 (by omega) hst1.own) (by exact rfl) ?_
      (repeat (first | refine gk1 ?_ | refine gk2 ?_ | refine gk3 ?_ | refine gk0 ?_ | refine gk4 ?_))
      rintro P1 hU1
      dsimp only [List.cons_append, List.nil_append]
      refine gg ?_
      refine gc3 [seR b P1] (fun w hst hst1 => root_c w hU1 hx.1 (by omega) hst1.own) (by exact rfl) ?_
      (repeat (first | refine gk1 ?_ | refine gk2 ?_ | refine gk3 ?_ | refine gk0 ?_ | refine gk4 ?_))
      rintro P2 hU2
      dsimp only [List.cons_append, List.nil_append]
      have hl2 := hU2.len
      have hup := hinv'.upd hj0 hj1 hjc hjd hkk (hU2.join (ek_ev (dn_ev hev)) hu0 (by omega) hx.1 (by omega))
      rw [← hst', hjb] at hup
      by_cases hy : rt u = rt v
      · have hW := hway.1 hy
        have hless : ∀ (bz : Bool) (hbz : bz = true ↔ LessU xs c0 d0) (w' : World) (σ : List Res) (D : List Nat) (w1 : World), St w1 D σ w' → HasR σ (blk bb [.slice bA xs.length bc] TIs) → HasR σ (osl TI vi bA bc xs) → Calls Try.prog 116 [vi c0, vi d0, .pointer (some ⟨bb, 0, none⟩)].toArray w' (one (.bool bz) w') := fun bz hbz w' σ D w1 hst k1 k2 => less_c w' (fun w2 ho => by
          have h0 : w'.heap[bb]? = some (.cells [Value.slice bA xs.length bc].toArray TIs (0, 0)) := k1.st hst
          have h2 : w2.heap[bb]? = some (.cells [Value.slice bA xs.length bc].toArray TIs (0, 0)) := (ho.block bb (Array.getElem?_eq_some_iff.1 h0).1 (by simp)).trans h0
          simp [World.cell?, h2]) (osl_reads (k2.st hst)) hbo.1 hbo.2 bz hbz
        by_cases hL : LessU xs c0 d0
        · have hbe2 := bs2 hW hL
          refine gg ?_
          refine wl_callv [] _ (first := []) (captured := [.pointer (some ⟨bb, 0, none⟩)]) (vs := [vi c0, vi d0]) (vf := fun _ : Unit => .bool true) (ρ := fun _ => []) (φ := fun _ => True) (f := 116) (fun w hst => hless true (by simp [hL]) w _ _ _ hst (by (repeat (first | exact .here | refine .there ?_))) (by (repeat (first | exact .here | refine .there ?_)))) (by rfl) (by rfl) (by rfl) (bod_of rfl) (by rfl) (by rfl) (by rfl) (List.Perm.refl _) ?_
          rintro _ _
          dsimp only [List.cons_append, List.nil_append]
          refine gg ?_
          refine wl_op (ok_buildSlice vi [c0, d0] (ps := [(0, vi c0), (1, vi d0)]) rfl rfl rfl rfl rfl (el_of rfl) (ze_of rfl) (sz_of rfl) rfl (by decide) (by decide) (by kernel_rfl) ?_)
          intro nb
          refine gg ?_
          refine gx1 (by exact rfl) ru0 ru1 ?_
          refine gt1 (by exact rfl) ?_
          refine wl_giveG (rows := L') (i := j) (rr := ueR) ⟨c0, d0, b, P2.set (rt u).toNat (rt v)⟩ hj0 hj1 ?_
          (repeat (first | refine gk1 ?_ | refine gk2 ?_ | refine gk3 ?_ | refine gk0 ?_ | refine gk4 ?_))
          refine gg ?_
          exact gnx (⟨i + 1, some ⟨nb, 0, none⟩, 2, [c0, d0], L'.set j.toNat ⟨c0, d0, b, P2.set (rt u).toNat (rt v)⟩, f', q'⟩ : CiX) ⟨by dsimp only; omega, by dsimp only; omega, by dsimp only; omega, ⟨fun h => (by cases h), fun _ => rfl⟩, hbe2, hup⟩ (by dsimp only; omega)
        · have hxs : ∃ c1 d1, xs = [c1, d1] ∧ ¬ (c0 < c1 ∨ (c0 = c1 ∧ d0 < d1)) := by
            have h0 : xs ≠ [] := fun e => hL (.inl e)
            have h2 := hbo.2 h0
            match xs, h2, hL with
            | [p1, p2], _, hL => exact ⟨p1, p2, rfl, fun h => hL (.inr ⟨p1, p2, rfl, h⟩)⟩
          have hbe2 := bs3 hW hxs
          refine gg ?_
          refine wl_callv [] _ (first := []) (captured := [.pointer (some ⟨bb, 0, none⟩)]) (vs := [vi c0, vi d0]) (vf := fun _ : Unit => .bool false) (ρ := fun _ => []) (φ := fun _ => True) (f := 116) (fun w hst => hless false (by simp [hL]) w _ _ _ hst (by (repeat (first | exact .here | refine .there ?_))) (by (repeat (first | exact .here | refine .there ?_)))) (by rfl) (by rfl) (by rfl) (bod_of rfl) (by rfl) (by rfl) (by rfl) (List.Perm.refl _) ?_
          rintro _ _
          dsimp only [List.cons_append, List.nil_append]
          refine gg ?_
          refine gx1 (by exact rfl) ru0 ru1 ?_
          refine gt1 (by exact rfl) ?_
          refine wl_giveG (rows := L') (i := j) (rr := ueR) ⟨c0, d0, b, P2.set (rt u).toNat (rt v)⟩ hj0 hj1 ?_
          (repeat (first | refine gk1 ?_ | refine gk2 ?_ | refine gk3 ?_ | refine gk0 ?_ | refine gk4 ?_))
          refine gg ?_
          exact gnx (⟨i + 1, bA, bc, xs, L'.set j.toNat ⟨c0, d0, b, P2.set (rt u).toNat (rt v)⟩, f', q'⟩ : CiX) ⟨by dsimp only; omega, by dsimp only; omega, by dsimp only; omega, hbo, hbe2, hup⟩ (by dsimp only; omega)
      · have hbe2 := bs1 (fun h => hy (hway.2 h))
        refine gg ?_
        refine gx1 (by exact rfl) ru0 ru1 ?_
        refine gt1 (by exact rfl) ?_
        refine wl_giveG (rows := L') (i := j) (rr := ueR) ⟨c0, d0, b, P2.set (rt u).toNat (rt v)⟩ hj0 hj1 ?_
        (repeat (first | refine gk1 ?_ | refine gk2 ?_ | refine gk3 ?_ | refine gk0 ?_ | refine gk4 ?_))
        refine gg ?_
        exact gnx (⟨i + 1, bA, bc, xs, L'.set j.toNat ⟨c0, d0, b, P2.set (rt u).toNat (rt v)⟩, f', q'⟩ : CiX) ⟨by dsimp only; omega, by dsimp only; omega, by dsimp only; omega, hbo, hbe2, hup⟩ (by dsimp only; omega)
    obtain rfl : i = (rowL g u).length := by omega
    have hre := dn_row hm hev hu0 (by omega)
    refine gg ?_
    exact gnx (⟨u + 1, bA, bc, xs, L, f, q⟩ : CiX) ⟨by dsimp only; omega, by dsimp only; omega, by dsimp only; omega, hbo, by rw [← hre]; exact hbe, by rw [← hre]; exact hinv⟩ (by dsimp only; omega)
  obtain rfl : u = n := by omega
  rw [dn_all hm hn hsq] at hbe
  refine gg ?_
  exact grt (⟨bA, bc, xs⟩ : RX) (hbe.end_ hin hp)
end
end Go.Proofs.Ytoiiellaoikojaa
