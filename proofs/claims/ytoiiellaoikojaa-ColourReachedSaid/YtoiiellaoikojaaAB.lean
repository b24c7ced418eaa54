/- Lists of patterns in memory. Plain facts: products, turned patterns, unions: no program. -/
import Derived.Test.YtoiiellaoikojaaTF
import Derived.Test.YtoiiellaoikojaaGA
set_option linter.unusedVariables false
set_option linter.unusedSimpArgs false
set_option maxHeartbeats 8000000
namespace Go.Proofs.Ytoiiellaoikojaa
open Go.RowKit
instance : Inhabited Pat := ⟨⟨0, 0, [], []⟩⟩
instance : Inhabited PA := ⟨⟨none, 0, none, 0⟩⟩
abbrev TPs : TypeId := 140
abbrev LP := List (PA × Pat)
structure RdPs (w : World) (A : Option Addr) (c : Nat) (l : LP) : Prop where
  cap : l.length ≤ c
  max : c ≤ 9223372036854775807
  ad : 0 < l.length → ∃ ad, A = some ad
  cell : ∀ ad, A = some ad → ∀ (j : Nat) (h : j < l.length) (f : Nat) (v : Value), (pcs l[j].1 l[j].2)[f]? = some v → w.cell? (ad.add (j * 4 + f)) = some v
  pat : ∀ x ∈ l, RdP w x.1 x.2
theorem Rds.stay {α : Type} {f : α → Value} {w w' : World} {A : Option Addr} {c : Nat} {xs : List α} (h : Rds f w A c xs) (ho : Only [] w w') : Rds f w' A c xs := h.only ho
theorem RdPs.only {w w' : World} {A : Option Addr} {c : Nat} {l : LP} (h : RdPs w A c l) (ho : Only [] w w') : RdPs w' A c l :=
  ⟨h.cap, h.max, h.ad, fun ad e j hj f v hv => by
    have := h.cell ad e j hj f v hv
    exact (ho.to_below.cell (World.block_lt_of_cell? w _ this)).trans this, fun x hx => ⟨(h.pat x hx).s.only ho, (h.pat x hx).c.only ho⟩⟩
def RdPsO (w0 : World) (D : List Nat) (A : Option Addr) (c : Nat) (l : LP) : Prop := ∀ w, Only D w0 w → RdPs w A c l
theorem RdPs.old {w : World} {A : Option Addr} {c : Nat} {l : LP} (h : RdPs w A c l) : RdPsO w [] A c l := fun _ ho => h.only ho
theorem RdPsO.now {w0 w : World} {D : List Nat} {σ : List Res} {A : Option Addr} {c : Nat} {l : LP} (h : RdPsO w0 D A c l) (hst : St w0 D σ w) : RdPs w A c l := h w hst.only
theorem RdPsO.later {w0 w : World} {D : List Nat} {σ : List Res} {A : Option Addr} {c : Nat} {l : LP} (h : RdPsO w0 D A c l) (hst : St w0 D σ w) : RdPsO w (σ.flatMap Res.fp) A c l := fun w' ho => h w' (Only.later hst ho)
theorem RdPsO.pat {w0 : World} {D : List Nat} {A : Option Addr} {c : Nat} {l : LP} (h : RdPsO w0 D A c l) {x : PA × Pat} (hx : x ∈ l) : RdPO w0 D x.1 x.2 := ⟨fun w ho => ((h w ho).pat x hx).s, fun w ho => ((h w ho).pat x hx).c⟩
theorem add_add (ad : Addr) (i j : Nat) : (ad.add i).add j = ad.add (i + j) := by
  unfold Addr.add
  by_cases hi : i = 0 <;> by_cases hj : j = 0 <;> simp [hi, hj, Nat.add_assoc]
theorem RdPs.at_ {w : World} {A : Option Addr} {c : Nat} {l : LP} (h : RdPs w A c l) {i : Int} (h0 : 0 ≤ i) (h1 : i < l.length) {f : Nat} {v : Value} (hv : (pcs (gt l i).1 (gt l i).2)[f]? = some v) : w.cell? ((elA A 4 i).add f) = some v := by
  obtain ⟨ad, e⟩ := h.ad (by omega)
  have hlt : i.toNat < l.length := by omega
  have := h.cell ad e i.toNat hlt f v (by rw [gt_elem h0 h1] at hv; exact hv)
  subst e
  unfold elA
  rw [add_add]
  exact this
section
variable {n : Nat} {w0 : World} {D : List Nat} {Γ : Tm} {σ : List Res} {ops : Array Oper} {o : Oper} {A : Option Addr} {c : Nat} {l : LP} {i : Int} {x y : Operand}
theorem val_ldP (hr : RdPsO w0 D A c l) (h0 : 0 ≤ i) (h1 : i < l.length) (hop : o.op = .load TP x) (hx : ev Γ x = some (.pointer (some (elA A 4 i)))) : ValOK Try.prog w0 D σ Γ o (.agg (pcs (gt l i).1 (gt l i).2).toArray) :=
  ⟨fun w hst g hg => by
    have hc : (loadCells (elA A 4 i) (pcs (gt l i).1 (gt l i).2).length).run Try.prog w = .ok (pcs (gt l i).1 (gt l i).2).toArray w := run_loadCells_list _ _ _ (fun j v hj => (hr.now hst).at_ h0 h1 hj)
    rw [show (pcs (gt l i).1 (gt l i).2).length = 4 by rfl] at hc
    simp [execOp, hop, hg _ _ hx, Instr.loadAt, Instr.sureAddr, loadVar, run_isAgg (ag_of (t := TP) (b := true) rfl), run_sizeOf' (sz_of (t := TP) (k := 4) rfl), hc, Result.andThen]⟩
theorem val_flP {f k : Nat} (hop : o.op = .fieldAddr TP x f) (hx : ev Γ x = some (.pointer (some (elA A 4 i)))) (hk : lookN foT (64 * TP + f) = some k) (hf : Nat.blt f 64 = true) : ValOK Try.prog w0 D σ Γ o (.pointer (some ((elA A 4 i).add k))) :=
  ⟨fun w hst g hg => by simp [execOp, hop, hg _ _ hx, run_fieldAt (fo_of hk hf)]⟩
theorem val_lfP {f : Nat} {v : Value} {t : TypeId} (hr : RdPsO w0 D A c l) (h0 : 0 ≤ i) (h1 : i < l.length) (hop : o.op = .load t x) (hx : ev Γ x = some (.pointer (some ((elA A 4 i).add f)))) (ht : lookN agT t = some false) (hv : (pcs (gt l i).1 (gt l i).2)[f]? = some v) : ValOK Try.prog w0 D σ Γ o v :=
  ⟨fun w hst g hg => by simp [execOp, hop, hg _ _ hx, Instr.loadAt, Instr.sureAddr, loadVar, run_isAgg (ag_of ht), (hr.now hst).at_ h0 h1 hv, Result.andThen]⟩
end
theorem mem_gt_l {l : LP} {x : PA × Pat} (h : x ∈ l) : ∃ i : Int, 0 ≤ i ∧ i < l.length ∧ gt l i = x := mem_gt h
/-! ### what the calls on several patterns answer -/
open Classical
noncomputable def alikeS (l : List Pat) : Int :=
  if ¬ ∀ p ∈ l, May p then 180 else if l = [] then 7 else if ¬ ∀ p ∈ l, p.rows = (gt l 0).rows ∧ p.width = (gt l 0).width then 7 else 0
noncomputable def unionB (l : List Pat) (a b : Int) : Bool := decide (∃ p ∈ l, HasP p a b)
noncomputable def unionS (l : List Pat) : PE := if alikeS l ≠ 0 then (zP, alikeS l) else (shutP (gt l 0).rows.toNat (gt l 0).width (unionB l), 0)
noncomputable def interB (l : List Pat) (a b : Int) : Bool := decide (∀ p ∈ l, HasP p a b)
noncomputable def interS (l : List Pat) : PE := if alikeS l ≠ 0 then (zP, alikeS l) else (shutP (gt l 0).rows.toNat (gt l 0).width (interB l), 0)
structure Alike (l : List Pat) : Prop where
  may : ∀ p ∈ l, May p
  some_ : l ≠ []
  size : ∀ p ∈ l, p.rows = (gt l 0).rows ∧ p.width = (gt l 0).width
theorem alike_iff {l : List Pat} : alikeS l = 0 ↔ Alike l := by
  unfold alikeS
  by_cases h1 : ∀ p ∈ l, May p
  · rw [if_neg (by simpa using h1)]
    by_cases h2 : l = []
    · rw [if_pos h2]
      exact ⟨fun h => by omega, fun h => absurd h2 h.some_⟩
    · rw [if_neg h2]
      by_cases h3 : ∀ p ∈ l, p.rows = (gt l 0).rows ∧ p.width = (gt l 0).width
      · rw [if_neg (not_not_intro h3)]
        exact ⟨fun _ => ⟨h1, h2, h3⟩, fun _ => rfl⟩
      · rw [if_pos h3]
        exact ⟨fun h => by omega, fun h => absurd h.size h3⟩
  · rw [if_pos h1]
    exact ⟨fun h => by omega, fun h => absurd h.may h1⟩
theorem snd_gt {l : LP} {i : Int} (h0 : 0 ≤ i) (h1 : i < l.length) : gt (l.map Prod.snd) i = (gt l i).2 := by
  rw [gt_elem h0 (by rw [List.length_map]; exact h1), gt_elem h0 h1, List.getElem_map]
theorem unionB_within {l : List Pat} (h : Alike l) : Within (gt l 0).rows.toNat (gt l 0).width (unionB l) := fun r _ c hc => by
  obtain ⟨p, hp, hh⟩ := of_decide_eq_true hc
  have := (hh.in_ (h.may p hp)).2
  rw [(h.size p hp).2] at this
  exact this
/-- the first i patterns together, and of the next one the first k places -/
noncomputable def uniU (l : List Pat) (i k : Int) (a b : Int) : Bool := decide ((∃ j : Int, 0 ≤ j ∧ j < i ∧ HasP (gt l j) a b) ∨ HasU (gt l i) k a b)
noncomputable def uniF (l : List Pat) (i : Int) (a b : Int) : Bool := decide (∃ j : Int, 0 ≤ j ∧ j < i ∧ HasP (gt l j) a b)
theorem uniU_zero {l : List Pat} (h : May (gt l 0)) : uniU l 0 0 = fun _ _ => false := by
  funext a b
  refine decide_eq_false ?_
  rintro (⟨j, h0, h1, _⟩ | hu)
  · omega
  · have := hasU_iff.2 hu
    rw [hasU_zero h] at this
    cases this
theorem uniU_step {l : List Pat} {i r k : Int} (h : May (gt l i)) (h0 : 0 ≤ r) (h1 : r < (gt l i).rows) (h2 : gt (gt l i).start r ≤ k) (h3 : k < gt (gt l i).start (r + 1)) : uniU l i (k + 1) = fun a b => uniU l i k a b || (a == r && b == gt (gt l i).cols k) := by
  funext a b
  have hor := hasU_or h h0 h1 h2 h3 a b
  rw [Bool.eq_iff_iff, Bool.or_eq_true] at hor ⊢
  unfold uniU
  rw [decide_eq_true_iff, decide_eq_true_iff]
  rw [hasU_iff, hasU_iff] at hor
  rw [hor, or_assoc]
theorem uniU_next {l : List Pat} {i : Int} (h0 : 0 ≤ i) (h : May (gt l i)) (h' : i + 1 < l.length → May (gt l (i + 1))) (hz : ¬ i + 1 < l.length → True) : uniU l i (gt l i).cols.length = uniF l (i + 1) := by
  funext a b
  refine decide_eq_decide.2 ⟨fun hh => ?_, fun hh => ?_⟩
  · rcases hh with ⟨j, j0, j1, hj⟩ | hu
    · exact ⟨j, j0, by omega, hj⟩
    · refine ⟨i, h0, by omega, ?_⟩
      rw [← hasB_iff, ← hasU_all h, hasU_iff]
      exact hu
  · obtain ⟨j, j0, j1, hj⟩ := hh
    by_cases e : j = i
    · subst e
      refine .inr ?_
      rw [← hasU_iff, hasU_all h, hasB_iff]
      exact hj
    · exact .inl ⟨j, j0, by omega, hj⟩
theorem uniU_begin {l : List Pat} {i : Int} (h : May (gt l i)) : uniF l i = uniU l i 0 := by
  funext a b
  refine decide_eq_decide.2 ⟨fun hh => .inl hh, fun hh => ?_⟩
  rcases hh with hh | hu
  · exact hh
  · have := hasU_iff.2 hu
    rw [hasU_zero h] at this
    cases this
theorem uni_end (l : List Pat) : uniF l l.length = unionB l := by
  funext a b
  refine decide_eq_decide.2 ⟨fun ⟨j, j0, j1, hj⟩ => ⟨gt l j, gt_mem j0 j1, hj⟩, fun ⟨p, hp, hh⟩ => ?_⟩
  obtain ⟨j, j0, j1, rfl⟩ := mem_gt hp
  exact ⟨j, j0, j1, hh⟩
theorem uni_none (l : List Pat) : (fun _ _ => false : Int → Int → Bool) = uniF l 0 := by
  funext a b
  refine (decide_eq_false ?_).symm
  rintro ⟨j, h0, h1, _⟩
  omega
open Classical
noncomputable def prodP (a b : Pat) : Pat := shutP a.rows.toNat b.width (prodB a b)
noncomputable def turnP (a : Pat) : Pat := shutP a.width.toNat a.rows (fun x y => hasB a y x)
noncomputable def unionP (l : List Pat) : Pat := shutP (gt l 0).rows.toNat (gt l 0).width (unionB l)
section
variable {a b c d : Pat}
theorem rows_prod (ha : May a) : (prodP a b).rows = a.rows := by
  have := ha.toHead.r0
  show ((a.rows.toNat : Nat) : Int) = a.rows
  omega
theorem may_prod (ha : May a) (hb : May b) : May (prodP a b) := by
  have := ha.toHead.r1
  exact shut_may (by omega) hb.toHead.w0 hb.toHead.w1 (prodB_within ha hb)
theorem has_prod (ha : May a) (hb : May b) {i k : Int} : HasP (prodP a b) i k ↔ ∃ j, HasP a i j ∧ HasP b j k := by
  unfold prodP
  rw [has_shut hb.toHead.w1 (prodB_within ha hb)]
  unfold prodB
  rw [decide_eq_true_iff]
  have := ha.toHead.r0
  constructor
  · rintro ⟨_, h⟩; exact h
  · rintro ⟨j, h, h'⟩
    have := (h.in_ ha).1
    exact ⟨⟨this.1, by omega⟩, j, h, h'⟩
theorem rows_turn (ha : May a) : (turnP a).rows = a.width := by
  have := ha.toHead.w0
  show ((a.width.toNat : Nat) : Int) = a.width
  omega
theorem turn_within (ha : May a) : Within a.width.toNat a.rows (fun x y => hasB a y x) := fun r _ y hy => ((hasB_iff.1 hy).in_ ha).1
theorem may_turn (ha : May a) : May (turnP a) := by
  have := ha.toHead.w1
  exact shut_may (by omega) ha.toHead.r0 ha.toHead.r1 (turn_within ha)
theorem has_turn (ha : May a) {i k : Int} : HasP (turnP a) i k ↔ HasP a k i := by
  unfold turnP
  rw [has_shut ha.toHead.r1 (turn_within ha), hasB_iff]
  have := ha.toHead.w0
  constructor
  · rintro ⟨_, h⟩; exact h
  · intro h
    have := (h.in_ ha).2
    exact ⟨⟨this.1, by omega⟩, h⟩
theorem turn_turn (ha : May a) : turnP (turnP a) = a := by
  refine May.ext (may_turn (may_turn ha)) ha (by rw [rows_turn (may_turn ha)]; rfl) (by show (turnP a).rows = a.width; exact rows_turn ha) fun r c => ?_
  rw [has_turn (may_turn ha), has_turn ha]
theorem turn_prod (ha : May a) (hb : May b) : turnP (prodP a b) = prodP (turnP b) (turnP a) := by
  have hp := may_prod ha hb
  refine May.ext (may_turn hp) (may_prod (may_turn hb) (may_turn ha)) ?_ ?_ fun r c => ?_
  · rw [rows_turn hp, rows_prod (may_turn hb), rows_turn hb]; rfl
  · show (prodP a b).rows = (turnP a).width
    rw [rows_prod ha]; rfl
  · rw [has_turn hp, has_prod ha hb, has_prod (may_turn hb) (may_turn ha)]
    exact exists_congr fun j => by rw [has_turn hb, has_turn ha]; exact and_comm
theorem prod_assoc (ha : May a) (hb : May b) (hc : May c) : prodP (prodP a b) c = prodP a (prodP b c) := by
  refine May.ext (may_prod (may_prod ha hb) hc) (may_prod ha (may_prod hb hc)) ?_ rfl fun r k => ?_
  · rw [rows_prod (may_prod ha hb), rows_prod ha, rows_prod ha]
  · rw [has_prod (may_prod ha hb) hc, has_prod ha (may_prod hb hc)]
    constructor
    · rintro ⟨j, h, h'⟩
      obtain ⟨i, h1, h2⟩ := (has_prod ha hb).1 h
      exact ⟨i, h1, (has_prod hb hc).2 ⟨j, h2, h'⟩⟩
    · rintro ⟨i, h, h'⟩
      obtain ⟨j, h1, h2⟩ := (has_prod hb hc).1 h'
      exact ⟨j, (has_prod ha hb).2 ⟨i, h, h1⟩, h2⟩
theorem may_union {l : List Pat} (h : Alike l) : May (unionP l) := by
  have h0 : 0 < l.length := List.length_pos_iff.2 h.some_
  have hm := h.may (gt l 0) (gt_mem (by omega) (by omega))
  have := hm.toHead.r1
  exact shut_may (by omega) hm.toHead.w0 hm.toHead.w1 (unionB_within h)
theorem has_union {l : List Pat} (h : Alike l) {i k : Int} : HasP (unionP l) i k ↔ ∃ p ∈ l, HasP p i k := by
  have h0 : 0 < l.length := List.length_pos_iff.2 h.some_
  have hm := h.may (gt l 0) (gt_mem (by omega) (by omega))
  unfold unionP
  rw [has_shut hm.toHead.w1 (unionB_within h)]
  unfold unionB
  rw [decide_eq_true_iff]
  constructor
  · rintro ⟨_, h⟩; exact h
  · rintro ⟨p, hp, hh⟩
    have := (hh.in_ (h.may p hp)).1
    have := h.size p hp
    exact ⟨⟨by omega, by omega⟩, p, hp, hh⟩
theorem rows_union {l : List Pat} (h : Alike l) : (unionP l).rows = (gt l 0).rows := by
  have h0 : 0 < l.length := List.length_pos_iff.2 h.some_
  have hm := h.may (gt l 0) (gt_mem (by omega) (by omega))
  have := hm.toHead.r0
  show (((gt l 0).rows.toNat : Nat) : Int) = (gt l 0).rows
  omega
theorem alike2 (hb : May b) (hd : May d) (hr : b.rows = d.rows) (hw : b.width = d.width) : Alike [b, d] :=
  ⟨by simp [hb, hd], by simp, by
    intro p hp
    have g : gt [b, d] 0 = b := rfl
    rw [g]
    simp only [List.mem_cons, List.not_mem_nil, or_false] at hp
    rcases hp with rfl | rfl
    · exact ⟨rfl, rfl⟩
    · exact ⟨hr.symm, hw.symm⟩⟩
theorem prod_union (ha : May a) (hb : May b) (hd : May d) (hr : b.rows = d.rows) (hw : b.width = d.width) : prodP a (unionP [b, d]) = unionP [prodP a b, prodP a d] := by
  have h1 := alike2 hb hd hr hw
  have h2 := alike2 (may_prod ha hb) (may_prod ha hd) (by rw [rows_prod ha, rows_prod ha]) (by show b.width = d.width; exact hw)
  refine May.ext (may_prod ha (may_union h1)) (may_union h2) ?_ rfl fun r k => ?_
  · rw [rows_prod ha, rows_union h2]
    exact (rows_prod (b := b) ha).symm
  · rw [has_prod ha (may_union h1), has_union h2]
    constructor
    · rintro ⟨j, h, h'⟩
      obtain ⟨p, hp, hh⟩ := (has_union h1).1 h'
      simp only [List.mem_cons, List.not_mem_nil, or_false] at hp
      rcases hp with rfl | rfl
      · exact ⟨_, List.mem_cons_self, (has_prod ha hb).2 ⟨j, h, hh⟩⟩
      · exact ⟨_, List.mem_cons_of_mem _ List.mem_cons_self, (has_prod ha hd).2 ⟨j, h, hh⟩⟩
    · rintro ⟨p, hp, hh⟩
      simp only [List.mem_cons, List.not_mem_nil, or_false] at hp
      rcases hp with rfl | rfl
      · obtain ⟨j, h, h'⟩ := (has_prod ha hb).1 hh
        exact ⟨j, h, (has_union h1).2 ⟨b, by simp, h'⟩⟩
      · obtain ⟨j, h, h'⟩ := (has_prod ha hd).1 hh
        exact ⟨j, h, (has_union h1).2 ⟨d, by simp, h'⟩⟩
theorem productS_ok (ha : May a) (hb : May b) (h : a.width = b.rows) : productS a b = (prodP a b, 0) := by
  unfold productS
  rw [if_neg (by simp [ha, hb]), if_neg (by simp [h])]
  rfl
theorem turnS_ok (ha : May a) : turnS a = (turnP a, 0) := by
  unfold turnS
  rw [if_pos ha]
  rfl
theorem unionS_ok {l : List Pat} (h : Alike l) : unionS l = (unionP l, 0) := by
  unfold unionS
  rw [if_neg (not_not_intro (alike_iff.2 h))]
  rfl
end
/-! ### two places -/
abbrev p0 : Pat := ⟨2, 3, [0, 1, 2], [0, 2]⟩
theorem rowOf_one {f : Int → Bool} {v : Int} (h0 : 0 ≤ v) (h1 : v < 128) (h : ∀ y, f y = true ↔ y = v) : rowOf f = [v] := by
  refine eq_of_sorted (rowOf_lt _) (by simp) fun y => ?_
  rw [mem_rowOf, h, List.mem_singleton]
  exact ⟨fun h => h.2, fun h => by subst h; exact ⟨⟨h0, h1⟩, rfl⟩⟩
theorem shut_two {w : Int} {S : Int → Int → Bool} {u v : Int} (hu0 : 0 ≤ u) (hu1 : u < 128) (hv0 : 0 ≤ v) (hv1 : v < 128) (h0 : ∀ y, S 0 y = true ↔ y = u) (h1 : ∀ y, S 1 y = true ↔ y = v) : shutP 2 w S = ⟨2, w, [0, 1, 2], [u, v]⟩ := by
  have e : rowsOf 2 S = [[u], [v]] := by
    unfold rowsOf
    rw [show List.range 2 = [0, 1] by rfl]
    simp only [List.map_cons, List.map_nil]
    rw [show (((0 : Nat) : Int)) = 0 by rfl, show (((1 : Nat) : Int)) = 1 by rfl, rowOf_one hu0 hu1 h0, rowOf_one hv0 hv1 h1]
  unfold shutP
  rw [e]
  rfl
theorem lis_two {u v a b : Int} {r : Int} {y : Int} : lisB [u, v] [a, b] 2 r y = true ↔ (u = r ∧ a = y) ∨ (v = r ∧ b = y) := by
  unfold lisB
  rw [decide_eq_true_iff]
  constructor
  · rintro ⟨i, i0, i1, h⟩
    have : i = 0 ∨ i = 1 := by omega
    rcases this with rfl | rfl
    · exact .inl h
    · exact .inr h
  · rintro (h | h)
    · exact ⟨0, by omega, by omega, h⟩
    · exact ⟨1, by omega, by omega, h⟩
theorem build_p0 : buildS 2 3 [1, 0] [2, 0] = (p0, 0) := by
  unfold buildS
  rw [if_neg (by simp [Sized]), if_neg (by simp), if_neg]
  · have := shut_two (w := 3) (S := lisB [1, 0] [2, 0] 2) (u := 0) (v := 2) (by omega) (by omega) (by omega) (by omega) (fun y => by rw [lis_two]; omega) (fun y => by rw [lis_two]; omega)
    exact Prod.ext this rfl
  · rintro ⟨i, i0, i1, h⟩
    have i1' : i < 2 := i1
    have : i = 0 ∨ i = 1 := by omega
    unfold BadAt at h
    rcases this with rfl | rfl
    · simp [gt] at h
    · simp [gt] at h
theorem has_p0 {r y : Int} : HasP p0 r y ↔ (r = 0 ∧ y = 0) ∨ (r = 1 ∧ y = 2) := by
  constructor
  · rintro ⟨h0, h1, k, k0, k1, e⟩
    have h1' : r < 2 := h1
    have : r = 0 ∨ r = 1 := by omega
    rcases this with rfl | rfl
    · have a0 : (0 : Int) ≤ k := k0
      have a1 : k < 1 := k1
      obtain rfl : k = 0 := by omega
      exact .inl ⟨rfl, e.symm⟩
    · have a0 : (1 : Int) ≤ k := k0
      have a1 : k < 2 := k1
      obtain rfl : k = 1 := by omega
      exact .inr ⟨rfl, e.symm⟩
  · rintro (⟨rfl, rfl⟩ | ⟨rfl, rfl⟩)
    · exact ⟨by omega, show (0 : Int) < 2 by omega, 0, show (0 : Int) ≤ 0 by omega, show (0 : Int) < 1 by omega, rfl⟩
    · exact ⟨by omega, show (1 : Int) < 2 by omega, 1, show (1 : Int) ≤ 1 by omega, show (1 : Int) < 2 by omega, rfl⟩
theorem may_p0 : May p0 := by
  have e := build_p0
  have h : (buildS 2 3 [1, 0] [2, 0]).1 = p0 := by rw [e]
  rw [← h]
  unfold buildS
  rw [if_neg (by simp [Sized]), if_neg (by simp), if_neg]
  · exact shut_may (by decide) (by omega) (by omega) fun r _ c hc => by
      have := (lis_two (u := 1) (v := 0) (a := 2) (b := 0)).1 hc
      omega
  · rintro ⟨i, i0, i1, h⟩
    have i1' : i < 2 := i1
    have : i = 0 ∨ i = 1 := by omega
    unfold BadAt at h
    rcases this with rfl | rfl
    · simp [gt] at h
    · simp [gt] at h
theorem prod_p0 : prodP p0 (turnP p0) = ⟨2, 2, [0, 1, 2], [0, 1]⟩ := by
  have hb : ∀ i k, prodB p0 (turnP p0) i k = true ↔ (i = 0 ∧ k = 0) ∨ (i = 1 ∧ k = 1) := fun i k => by
    unfold prodB
    rw [decide_eq_true_iff]
    constructor
    · rintro ⟨j, h, h'⟩
      rw [has_turn may_p0, has_p0] at h'
      rw [has_p0] at h
      omega
    · rintro (⟨rfl, rfl⟩ | ⟨rfl, rfl⟩)
      · exact ⟨0, has_p0.2 (by omega), (has_turn may_p0).2 (has_p0.2 (by omega))⟩
      · exact ⟨2, has_p0.2 (by omega), (has_turn may_p0).2 (has_p0.2 (by omega))⟩
  exact shut_two (by omega) (by omega) (by omega) (by omega) (fun y => by rw [hb]; omega) (fun y => by rw [hb]; omega)
theorem sym_p0 : Sym (prodP p0 (turnP p0)) := by
  refine ⟨may_prod may_p0 (may_turn may_p0), by rw [prod_p0], fun r c h => ?_⟩
  rw [has_prod may_p0 (may_turn may_p0)] at h ⊢
  obtain ⟨j, h, h'⟩ := h
  rw [has_turn may_p0] at h'
  exact ⟨j, h', (has_turn may_p0).2 h⟩
end Go.Proofs.Ytoiiellaoikojaa
