/- Lists of patterns in memory. -/
import Derived.Test.YtofngbaefbbeiaaT20
import Derived.Test.YtofngbaefbbeiaaG3
set_option linter.unusedVariables false
set_option linter.unusedSimpArgs false
set_option maxHeartbeats 4000000
namespace Go.Proofs.Ytofngbaefbbeiaa
open Go.RowKit
instance : Inhabited Pat := ⟨⟨0, 0, [], []⟩⟩
instance : Inhabited PA := ⟨⟨none, 0, none, 0⟩⟩
abbrev TPs : TypeId := 59
abbrev LP := List (PA × Pat)
structure RdPs (w : World) (A : Option Addr) (c : Nat) (l : LP) : Prop where
  cap : l.length ≤ c
  max : c ≤ 9223372036854775807
  ad : 0 < l.length → ∃ ad, A = some ad
  cell : ∀ ad, A = some ad → ∀ (j : Nat) (h : j < l.length) (f : Nat) (v : Value), (pcs l[j].1 l[j].2)[f]? = some v → w.cell? (ad.add (j * 4 + f)) = some v
  pat : ∀ x ∈ l, RdP w x.1 x.2
theorem Rds.stay {α : Type} {f : α → Value} {w w' : World} {A : Option Addr} {c : Nat} {xs : List α} (h : Rds f w A c xs) (ho : Only [] w w') : Rds f w' A c xs := h.only ho
theorem RdPs.only {w w' : World} {A : Option Addr} {c : Nat} {l : LP} (h : RdPs w A c l) (ho : Only [] w w') : RdPs w' A c l :=
  ⟨h.cap, h.max, h.ad, fun ad e j hj f v hv => by
    have := h.cell ad e j hj f v hv
    exact (ho.to_below.cell (World.block_lt_of_cell? w _ this)).trans this, fun x hx => ⟨(h.pat x hx).s.only ho, (h.pat x hx).c.only ho⟩⟩
def RdPsO (w0 : World) (D : List Nat) (A : Option Addr) (c : Nat) (l : LP) : Prop := ∀ w, Only D w0 w → RdPs w A c l
theorem RdPs.old {w : World} {A : Option Addr} {c : Nat} {l : LP} (h : RdPs w A c l) : RdPsO w [] A c l := fun _ ho => h.only ho
theorem RdPsO.now {w0 w : World} {D : List Nat} {σ : List Res} {A : Option Addr} {c : Nat} {l : LP} (h : RdPsO w0 D A c l) (hst : St w0 D σ w) : RdPs w A c l := h w hst.only
theorem RdPsO.later {w0 w : World} {D : List Nat} {σ : List Res} {A : Option Addr} {c : Nat} {l : LP} (h : RdPsO w0 D A c l) (hst : St w0 D σ w) : RdPsO w (σ.flatMap Res.fp) A c l := fun w' ho => h w' (Only.later hst ho)
theorem RdPsO.pat {w0 : World} {D : List Nat} {A : Option Addr} {c : Nat} {l : LP} (h : RdPsO w0 D A c l) {x : PA × Pat} (hx : x ∈ l) : RdPO w0 D x.1 x.2 := ⟨fun w ho => ((h w ho).pat x hx).s, fun w ho => ((h w ho).pat x hx).c⟩
theorem add_add (ad : Addr) (i j : Nat) : (ad.add i).add j = ad.add (i + j) := by
  unfold Addr.add
  by_cases hi : i = 0 <;> by_cases hj : j = 0 <;> simp [hi, hj, Nat.add_assoc]
theorem RdPs.at_ {w : World} {A : Option Addr} {c : Nat} {l : LP} (h : RdPs w A c l) {i : Int} (h0 : 0 ≤ i) (h1 : i < l.length) {f : Nat} {v : Value} (hv : (pcs (gt l i).1 (gt l i).2)[f]? = some v) : w.cell? ((elA A 4 i).add f) = some v := by
  obtain ⟨ad, e⟩ := h.ad (by omega)
  have hlt : i.toNat < l.length := by omega
  have := h.cell ad e i.toNat hlt f v (by rw [gt_elem h0 h1] at hv; exact hv)
  subst e
  unfold elA
  rw [add_add]
  exact this
section
variable {n : Nat} {w0 : World} {D : List Nat} {Γ : Tm} {σ : List Res} {ops : Array Oper} {o : Oper} {A : Option Addr} {c : Nat} {l : LP} {i : Int} {x y : Operand}
theorem val_ldP (hr : RdPsO w0 D A c l) (h0 : 0 ≤ i) (h1 : i < l.length) (hop : o.op = .load TP x) (hx : ev Γ x = some (.pointer (some (elA A 4 i)))) : ValOK Try.prog w0 D σ Γ o (.agg (pcs (gt l i).1 (gt l i).2).toArray) :=
  ⟨fun w hst g hg => by
    have hc : (loadCells (elA A 4 i) (pcs (gt l i).1 (gt l i).2).length).run Try.prog w = .ok (pcs (gt l i).1 (gt l i).2).toArray w := run_loadCells_list _ _ _ (fun j v hj => (hr.now hst).at_ h0 h1 hj)
    rw [show (pcs (gt l i).1 (gt l i).2).length = 4 by rfl] at hc
    simp [execOp, hop, hg _ _ hx, Instr.loadAt, Instr.sureAddr, loadVar, run_isAgg (ag_of (t := TP) (b := true) rfl), run_sizeOf' (sz_of (t := TP) (k := 4) rfl), hc, Result.andThen]⟩
theorem val_flP {f k : Nat} (hop : o.op = .fieldAddr TP x f) (hx : ev Γ x = some (.pointer (some (elA A 4 i)))) (hk : lookN foT (64 * TP + f) = some k) (hf : Nat.blt f 64 = true) : ValOK Try.prog w0 D σ Γ o (.pointer (some ((elA A 4 i).add k))) :=
  ⟨fun w hst g hg => by simp [execOp, hop, hg _ _ hx, run_fieldAt (fo_of hk hf)]⟩
theorem val_lfP {f : Nat} {v : Value} {t : TypeId} (hr : RdPsO w0 D A c l) (h0 : 0 ≤ i) (h1 : i < l.length) (hop : o.op = .load t x) (hx : ev Γ x = some (.pointer (some ((elA A 4 i).add f)))) (ht : lookN agT t = some false) (hv : (pcs (gt l i).1 (gt l i).2)[f]? = some v) : ValOK Try.prog w0 D σ Γ o v :=
  ⟨fun w hst g hg => by simp [execOp, hop, hg _ _ hx, Instr.loadAt, Instr.sureAddr, loadVar, run_isAgg (ag_of ht), (hr.now hst).at_ h0 h1 hv, Result.andThen]⟩
end
theorem mem_gt_l {l : LP} {x : PA × Pat} (h : x ∈ l) : ∃ i : Int, 0 ≤ i ∧ i < l.length ∧ gt l i = x := mem_gt h
/-! ### what the calls on several patterns answer -/
open Classical
noncomputable def alikeS (l : List Pat) : Int :=
  if ¬ ∀ p ∈ l, May p then 180 else if l = [] then 7 else if ¬ ∀ p ∈ l, p.rows = (gt l 0).rows ∧ p.width = (gt l 0).width then 7 else 0
noncomputable def unionB (l : List Pat) (a b : Int) : Bool := decide (∃ p ∈ l, HasP p a b)
noncomputable def unionS (l : List Pat) : PE := if alikeS l ≠ 0 then (zP, alikeS l) else (shutP (gt l 0).rows.toNat (gt l 0).width (unionB l), 0)
noncomputable def interB (l : List Pat) (a b : Int) : Bool := decide (∀ p ∈ l, HasP p a b)
noncomputable def interS (l : List Pat) : PE := if alikeS l ≠ 0 then (zP, alikeS l) else (shutP (gt l 0).rows.toNat (gt l 0).width (interB l), 0)
structure Alike (l : List Pat) : Prop where
  may : ∀ p ∈ l, May p
  some_ : l ≠ []
  size : ∀ p ∈ l, p.rows = (gt l 0).rows ∧ p.width = (gt l 0).width
theorem alike_iff {l : List Pat} : alikeS l = 0 ↔ Alike l := by
  unfold alikeS
  by_cases h1 : ∀ p ∈ l, May p
  · rw [if_neg (by simpa using h1)]
    by_cases h2 : l = []
    · rw [if_pos h2]
      exact ⟨fun h => by omega, fun h => absurd h2 h.some_⟩
    · rw [if_neg h2]
      by_cases h3 : ∀ p ∈ l, p.rows = (gt l 0).rows ∧ p.width = (gt l 0).width
      · rw [if_neg (not_not_intro h3)]
        exact ⟨fun _ => ⟨h1, h2, h3⟩, fun _ => rfl⟩
      · rw [if_pos h3]
        exact ⟨fun h => by omega, fun h => absurd h.size h3⟩
  · rw [if_pos h1]
    exact ⟨fun h => by omega, fun h => absurd h.may h1⟩
theorem snd_gt {l : LP} {i : Int} (h0 : 0 ≤ i) (h1 : i < l.length) : gt (l.map Prod.snd) i = (gt l i).2 := by
  rw [gt_elem h0 (by rw [List.length_map]; exact h1), gt_elem h0 h1, List.getElem_map]
theorem unionB_within {l : List Pat} (h : Alike l) : Within (gt l 0).rows.toNat (gt l 0).width (unionB l) := fun r _ c hc => by
  obtain ⟨p, hp, hh⟩ := of_decide_eq_true hc
  have := (hh.in_ (h.may p hp)).2
  rw [(h.size p hp).2] at this
  exact this
/-- the first i patterns together, and of the next one the first k places -/
noncomputable def uniU (l : List Pat) (i k : Int) (a b : Int) : Bool := decide ((∃ j : Int, 0 ≤ j ∧ j < i ∧ HasP (gt l j) a b) ∨ HasU (gt l i) k a b)
noncomputable def uniF (l : List Pat) (i : Int) (a b : Int) : Bool := decide (∃ j : Int, 0 ≤ j ∧ j < i ∧ HasP (gt l j) a b)
theorem uniU_zero {l : List Pat} (h : May (gt l 0)) : uniU l 0 0 = fun _ _ => false := by
  funext a b
  refine decide_eq_false ?_
  rintro (⟨j, h0, h1, _⟩ | hu)
  · omega
  · have := hasU_iff.2 hu
    rw [hasU_zero h] at this
    cases this
theorem uniU_step {l : List Pat} {i r k : Int} (h : May (gt l i)) (h0 : 0 ≤ r) (h1 : r < (gt l i).rows) (h2 : gt (gt l i).start r ≤ k) (h3 : k < gt (gt l i).start (r + 1)) : uniU l i (k + 1) = fun a b => uniU l i k a b || (a == r && b == gt (gt l i).cols k) := by
  funext a b
  have hor := hasU_or h h0 h1 h2 h3 a b
  rw [Bool.eq_iff_iff, Bool.or_eq_true] at hor ⊢
  unfold uniU
  rw [decide_eq_true_iff, decide_eq_true_iff]
  rw [hasU_iff, hasU_iff] at hor
  rw [hor, or_assoc]
theorem uniU_next {l : List Pat} {i : Int} (h0 : 0 ≤ i) (h : May (gt l i)) (h' : i + 1 < l.length → May (gt l (i + 1))) (hz : ¬ i + 1 < l.length → True) : uniU l i (gt l i).cols.length = uniF l (i + 1) := by
  funext a b
  refine decide_eq_decide.2 ⟨fun hh => ?_, fun hh => ?_⟩
  · rcases hh with ⟨j, j0, j1, hj⟩ | hu
    · exact ⟨j, j0, by omega, hj⟩
    · refine ⟨i, h0, by omega, ?_⟩
      rw [← hasB_iff, ← hasU_all h, hasU_iff]
      exact hu
  · obtain ⟨j, j0, j1, hj⟩ := hh
    by_cases e : j = i
    · subst e
      refine .inr ?_
      rw [← hasU_iff, hasU_all h, hasB_iff]
      exact hj
    · exact .inl ⟨j, j0, by omega, hj⟩
theorem uniU_begin {l : List Pat} {i : Int} (h : May (gt l i)) : uniF l i = uniU l i 0 := by
  funext a b
  refine decide_eq_decide.2 ⟨fun hh => .inl hh, fun hh => ?_⟩
  rcases hh with hh | hu
  · exact hh
  · have := hasU_iff.2 hu
    rw [hasU_zero h] at this
    cases this
theorem uni_end (l : List Pat) : uniF l l.length = unionB l := by
  funext a b
  refine decide_eq_decide.2 ⟨fun ⟨j, j0, j1, hj⟩ => ⟨gt l j, gt_mem j0 j1, hj⟩, fun ⟨p, hp, hh⟩ => ?_⟩
  obtain ⟨j, j0, j1, rfl⟩ := mem_gt hp
  exact ⟨j, j0, j1, hh⟩
theorem uni_none (l : List Pat) : (fun _ _ => false : Int → Int → Bool) = uniF l 0 := by
  funext a b
  refine (decide_eq_false ?_).symm
  rintro ⟨j, h0, h1, _⟩
  omega
end Go.Proofs.Ytofngbaefbbeiaa
