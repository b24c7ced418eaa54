/- Plain facts: products, turned patterns, unions: no program. -/
import Derived.Test.YtofngbaefbbeiaaG4
set_option linter.unusedVariables false
set_option linter.unusedSimpArgs false
namespace Go.Proofs.Ytofngbaefbbeiaa
open Classical
noncomputable def prodP (a b : Pat) : Pat := shutP a.rows.toNat b.width (prodB a b)
noncomputable def turnP (a : Pat) : Pat := shutP a.width.toNat a.rows (fun x y => hasB a y x)
noncomputable def unionP (l : List Pat) : Pat := shutP (gt l 0).rows.toNat (gt l 0).width (unionB l)
section
variable {a b c d : Pat}
theorem rows_prod (ha : May a) : (prodP a b).rows = a.rows := by
  have := ha.toHead.r0
  show ((a.rows.toNat : Nat) : Int) = a.rows
  omega
theorem may_prod (ha : May a) (hb : May b) : May (prodP a b) := by
  have := ha.toHead.r1
  exact shut_may (by omega) hb.toHead.w0 hb.toHead.w1 (prodB_within ha hb)
theorem has_prod (ha : May a) (hb : May b) {i k : Int} : HasP (prodP a b) i k ↔ ∃ j, HasP a i j ∧ HasP b j k := by
  unfold prodP
  rw [has_shut hb.toHead.w1 (prodB_within ha hb)]
  unfold prodB
  rw [decide_eq_true_iff]
  have := ha.toHead.r0
  constructor
  · rintro ⟨_, h⟩; exact h
  · rintro ⟨j, h, h'⟩
    have := (h.in_ ha).1
    exact ⟨⟨this.1, by omega⟩, j, h, h'⟩
theorem rows_turn (ha : May a) : (turnP a).rows = a.width := by
  have := ha.toHead.w0
  show ((a.width.toNat : Nat) : Int) = a.width
  omega
theorem turn_within (ha : May a) : Within a.width.toNat a.rows (fun x y => hasB a y x) := fun r _ y hy => ((hasB_iff.1 hy).in_ ha).1
theorem may_turn (ha : May a) : May (turnP a) := by
  have := ha.toHead.w1
  exact shut_may (by omega) ha.toHead.r0 ha.toHead.r1 (turn_within ha)
theorem has_turn (ha : May a) {i k : Int} : HasP (turnP a) i k ↔ HasP a k i := by
  unfold turnP
  rw [has_shut ha.toHead.r1 (turn_within ha), hasB_iff]
  have := ha.toHead.w0
  constructor
  · rintro ⟨_, h⟩; exact h
  · intro h
    have := (h.in_ ha).2
    exact ⟨⟨this.1, by omega⟩, h⟩
theorem turn_turn (ha : May a) : turnP (turnP a) = a := by
  refine May.ext (may_turn (may_turn ha)) ha (by rw [rows_turn (may_turn ha)]; rfl) (by show (turnP a).rows = a.width; exact rows_turn ha) fun r c => ?_
  rw [has_turn (may_turn ha), has_turn ha]
theorem turn_prod (ha : May a) (hb : May b) : turnP (prodP a b) = prodP (turnP b) (turnP a) := by
  have hp := may_prod ha hb
  refine May.ext (may_turn hp) (may_prod (may_turn hb) (may_turn ha)) ?_ ?_ fun r c => ?_
  · rw [rows_turn hp, rows_prod (may_turn hb), rows_turn hb]; rfl
  · show (prodP a b).rows = (turnP a).width
    rw [rows_prod ha]; rfl
  · rw [has_turn hp, has_prod ha hb, has_prod (may_turn hb) (may_turn ha)]
    exact exists_congr fun j => by rw [has_turn hb, has_turn ha]; exact and_comm
theorem prod_assoc (ha : May a) (hb : May b) (hc : May c) : prodP (prodP a b) c = prodP a (prodP b c) := by
  refine May.ext (may_prod (may_prod ha hb) hc) (may_prod ha (may_prod hb hc)) ?_ rfl fun r k => ?_
  · rw [rows_prod (may_prod ha hb), rows_prod ha, rows_prod ha]
  · rw [has_prod (may_prod ha hb) hc, has_prod ha (may_prod hb hc)]
    constructor
    · rintro ⟨j, h, h'⟩
      obtain ⟨i, h1, h2⟩ := (has_prod ha hb).1 h
      exact ⟨i, h1, (has_prod hb hc).2 ⟨j, h2, h'⟩⟩
    · rintro ⟨i, h, h'⟩
      obtain ⟨j, h1, h2⟩ := (has_prod hb hc).1 h'
      exact ⟨j, (has_prod ha hb).2 ⟨i, h, h1⟩, h2⟩
theorem may_union {l : List Pat} (h : Alike l) : May (unionP l) := by
  have h0 : 0 < l.length := List.length_pos_iff.2 h.some_
  have hm := h.may (gt l 0) (gt_mem (by omega) (by omega))
  have := hm.toHead.r1
  exact shut_may (by omega) hm.toHead.w0 hm.toHead.w1 (unionB_within h)
theorem has_union {l : List Pat} (h : Alike l) {i k : Int} : HasP (unionP l) i k ↔ ∃ p ∈ l, HasP p i k := by
  have h0 : 0 < l.length := List.length_pos_iff.2 h.some_
  have hm := h.may (gt l 0) (gt_mem (by omega) (by omega))
  unfold unionP
  rw [has_shut hm.toHead.w1 (unionB_within h)]
  unfold unionB
  rw [decide_eq_true_iff]
  constructor
  · rintro ⟨_, h⟩; exact h
  · rintro ⟨p, hp, hh⟩
    have := (hh.in_ (h.may p hp)).1
    have := h.size p hp
    exact ⟨⟨by omega, by omega⟩, p, hp, hh⟩
theorem rows_union {l : List Pat} (h : Alike l) : (unionP l).rows = (gt l 0).rows := by
  have h0 : 0 < l.length := List.length_pos_iff.2 h.some_
  have hm := h.may (gt l 0) (gt_mem (by omega) (by omega))
  have := hm.toHead.r0
  show (((gt l 0).rows.toNat : Nat) : Int) = (gt l 0).rows
  omega
theorem alike2 (hb : May b) (hd : May d) (hr : b.rows = d.rows) (hw : b.width = d.width) : Alike [b, d] :=
  ⟨by simp [hb, hd], by simp, by
    intro p hp
    have g : gt [b, d] 0 = b := rfl
    rw [g]
    simp only [List.mem_cons, List.not_mem_nil, or_false] at hp
    rcases hp with rfl | rfl
    · exact ⟨rfl, rfl⟩
    · exact ⟨hr.symm, hw.symm⟩⟩
theorem prod_union (ha : May a) (hb : May b) (hd : May d) (hr : b.rows = d.rows) (hw : b.width = d.width) : prodP a (unionP [b, d]) = unionP [prodP a b, prodP a d] := by
  have h1 := alike2 hb hd hr hw
  have h2 := alike2 (may_prod ha hb) (may_prod ha hd) (by rw [rows_prod ha, rows_prod ha]) (by show b.width = d.width; exact hw)
  refine May.ext (may_prod ha (may_union h1)) (may_union h2) ?_ rfl fun r k => ?_
  · rw [rows_prod ha, rows_union h2]
    exact (rows_prod (b := b) ha).symm
  · rw [has_prod ha (may_union h1), has_union h2]
    constructor
    · rintro ⟨j, h, h'⟩
      obtain ⟨p, hp, hh⟩ := (has_union h1).1 h'
      simp only [List.mem_cons, List.not_mem_nil, or_false] at hp
      rcases hp with rfl | rfl
      · exact ⟨_, List.mem_cons_self, (has_prod ha hb).2 ⟨j, h, hh⟩⟩
      · exact ⟨_, List.mem_cons_of_mem _ List.mem_cons_self, (has_prod ha hd).2 ⟨j, h, hh⟩⟩
    · rintro ⟨p, hp, hh⟩
      simp only [List.mem_cons, List.not_mem_nil, or_false] at hp
      rcases hp with rfl | rfl
      · obtain ⟨j, h, h'⟩ := (has_prod ha hb).1 hh
        exact ⟨j, h, (has_union h1).2 ⟨b, by simp, h'⟩⟩
      · obtain ⟨j, h, h'⟩ := (has_prod ha hd).1 hh
        exact ⟨j, h, (has_union h1).2 ⟨d, by simp, h'⟩⟩
theorem productS_ok (ha : May a) (hb : May b) (h : a.width = b.rows) : productS a b = (prodP a b, 0) := by
  unfold productS
  rw [if_neg (by simp [ha, hb]), if_neg (by simp [h])]
  rfl
theorem turnS_ok (ha : May a) : turnS a = (turnP a, 0) := by
  unfold turnS
  rw [if_pos ha]
  rfl
theorem unionS_ok {l : List Pat} (h : Alike l) : unionS l = (unionP l, 0) := by
  unfold unionS
  rw [if_neg (not_not_intro (alike_iff.2 h))]
  rfl
end
/-! ### two places -/
abbrev p0 : Pat := ⟨2, 3, [0, 1, 2], [0, 2]⟩
theorem rowOf_one {f : Int → Bool} {v : Int} (h0 : 0 ≤ v) (h1 : v < 128) (h : ∀ y, f y = true ↔ y = v) : rowOf f = [v] := by
  refine eq_of_sorted (rowOf_lt _) (by simp) fun y => ?_
  rw [mem_rowOf, h, List.mem_singleton]
  exact ⟨fun h => h.2, fun h => by subst h; exact ⟨⟨h0, h1⟩, rfl⟩⟩
theorem shut_two {w : Int} {S : Int → Int → Bool} {u v : Int} (hu0 : 0 ≤ u) (hu1 : u < 128) (hv0 : 0 ≤ v) (hv1 : v < 128) (h0 : ∀ y, S 0 y = true ↔ y = u) (h1 : ∀ y, S 1 y = true ↔ y = v) : shutP 2 w S = ⟨2, w, [0, 1, 2], [u, v]⟩ := by
  have e : rowsOf 2 S = [[u], [v]] := by
    unfold rowsOf
    rw [show List.range 2 = [0, 1] by rfl]
    simp only [List.map_cons, List.map_nil]
    rw [show (((0 : Nat) : Int)) = 0 by rfl, show (((1 : Nat) : Int)) = 1 by rfl, rowOf_one hu0 hu1 h0, rowOf_one hv0 hv1 h1]
  unfold shutP
  rw [e]
  rfl
theorem lis_two {u v a b : Int} {r : Int} {y : Int} : lisB [u, v] [a, b] 2 r y = true ↔ (u = r ∧ a = y) ∨ (v = r ∧ b = y) := by
  unfold lisB
  rw [decide_eq_true_iff]
  constructor
  · rintro ⟨i, i0, i1, h⟩
    have : i = 0 ∨ i = 1 := by omega
    rcases this with rfl | rfl
    · exact .inl h
    · exact .inr h
  · rintro (h | h)
    · exact ⟨0, by omega, by omega, h⟩
    · exact ⟨1, by omega, by omega, h⟩
theorem build_p0 : buildS 2 3 [1, 0] [2, 0] = (p0, 0) := by
  unfold buildS
  rw [if_neg (by simp [Sized]), if_neg (by simp), if_neg]
  · have := shut_two (w := 3) (S := lisB [1, 0] [2, 0] 2) (u := 0) (v := 2) (by omega) (by omega) (by omega) (by omega) (fun y => by rw [lis_two]; omega) (fun y => by rw [lis_two]; omega)
    exact Prod.ext this rfl
  · rintro ⟨i, i0, i1, h⟩
    have i1' : i < 2 := i1
    have : i = 0 ∨ i = 1 := by omega
    unfold BadAt at h
    rcases this with rfl | rfl
    · simp [gt] at h
    · simp [gt] at h
theorem has_p0 {r y : Int} : HasP p0 r y ↔ (r = 0 ∧ y = 0) ∨ (r = 1 ∧ y = 2) := by
  constructor
  · rintro ⟨h0, h1, k, k0, k1, e⟩
    have h1' : r < 2 := h1
    have : r = 0 ∨ r = 1 := by omega
    rcases this with rfl | rfl
    · have a0 : (0 : Int) ≤ k := k0
      have a1 : k < 1 := k1
      obtain rfl : k = 0 := by omega
      exact .inl ⟨rfl, e.symm⟩
    · have a0 : (1 : Int) ≤ k := k0
      have a1 : k < 2 := k1
      obtain rfl : k = 1 := by omega
      exact .inr ⟨rfl, e.symm⟩
  · rintro (⟨rfl, rfl⟩ | ⟨rfl, rfl⟩)
    · exact ⟨by omega, show (0 : Int) < 2 by omega, 0, show (0 : Int) ≤ 0 by omega, show (0 : Int) < 1 by omega, rfl⟩
    · exact ⟨by omega, show (1 : Int) < 2 by omega, 1, show (1 : Int) ≤ 1 by omega, show (1 : Int) < 2 by omega, rfl⟩
theorem may_p0 : May p0 := by
  have e := build_p0
  have h : (buildS 2 3 [1, 0] [2, 0]).1 = p0 := by rw [e]
  rw [← h]
  unfold buildS
  rw [if_neg (by simp [Sized]), if_neg (by simp), if_neg]
  · exact shut_may (by decide) (by omega) (by omega) fun r _ c hc => by
      have := (lis_two (u := 1) (v := 0) (a := 2) (b := 0)).1 hc
      omega
  · rintro ⟨i, i0, i1, h⟩
    have i1' : i < 2 := i1
    have : i = 0 ∨ i = 1 := by omega
    unfold BadAt at h
    rcases this with rfl | rfl
    · simp [gt] at h
    · simp [gt] at h
theorem prod_p0 : prodP p0 (turnP p0) = ⟨2, 2, [0, 1, 2], [0, 1]⟩ := by
  have hb : ∀ i k, prodB p0 (turnP p0) i k = true ↔ (i = 0 ∧ k = 0) ∨ (i = 1 ∧ k = 1) := fun i k => by
    unfold prodB
    rw [decide_eq_true_iff]
    constructor
    · rintro ⟨j, h, h'⟩
      rw [has_turn may_p0, has_p0] at h'
      rw [has_p0] at h
      omega
    · rintro (⟨rfl, rfl⟩ | ⟨rfl, rfl⟩)
      · exact ⟨0, has_p0.2 (by omega), (has_turn may_p0).2 (has_p0.2 (by omega))⟩
      · exact ⟨2, has_p0.2 (by omega), (has_turn may_p0).2 (has_p0.2 (by omega))⟩
  exact shut_two (by omega) (by omega) (by omega) (by omega) (fun y => by rw [hb]; omega) (fun y => by rw [hb]; omega)
theorem sym_p0 : Sym (prodP p0 (turnP p0)) := by
  refine ⟨may_prod may_p0 (may_turn may_p0), by rw [prod_p0], fun r c h => ?_⟩
  rw [has_prod may_p0 (may_turn may_p0)] at h ⊢
  obtain ⟨j, h, h'⟩ := h
  rw [has_turn may_p0] at h'
  exact ⟨j, h', (has_turn may_p0).2 h⟩
end Go.Proofs.Ytofngbaefbbeiaa
