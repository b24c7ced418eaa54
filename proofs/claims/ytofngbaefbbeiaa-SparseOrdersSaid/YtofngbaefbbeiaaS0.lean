/- A small logic for the walks: known temporaries as a list, own memory as a list of resources, all else unchanged. Control. -/
import Derived.Test.YtofngbaefbbeiaaProg
import Derived.WalkKit
import Derived.WalkSpells
import Derived.WalkLawsBesides
import Derived.OrdersHeld
import Derived.Deep.LoopGhost
set_option linter.unusedVariables false
set_option linter.unusedSimpArgs false
namespace Go.Proofs.Ytofngbaefbbeiaa
open Go.RowKit

/-! ### temporaries -/
abbrev Tm := List (Nat × Value)
def look : Tm → Nat → Option Value
  | [], _ => none
  | (i, v) :: r, j => cond (Nat.beq i j) (some v) (look r j)
def ev (Γ : Tm) : Operand → Option Value
  | .tmp t => look Γ t
  | .const v => some v
  | .global g => some (.pointer (some ⟨g, 0, none⟩))
  | .func f => some (.func (.func f) #[] #[])
structure Sees (n : Nat) (a : Act) (Γ : Tm) : Prop where
  size : a.tmps.size = n
  defers : a.defers = []
  get : ∀ i v, look Γ i = some v → a.tmps[i]? = some v
theorem Sees.eval {n : Nat} {a : Act} {Γ : Tm} (h : Sees n a Γ) {x : Operand} {v : Value} (hx : ev Γ x = some v) : a.eval x = v := by
  cases x with
  | tmp t => simp only [Act.eval, Array.getD_eq_getD_getElem?]; rw [h.get t v hx]; rfl
  | const u => simpa [ev, Act.eval] using hx
  | global g => simpa [ev, Act.eval] using hx
  | func f => simpa [ev, Act.eval] using hx
theorem Sees.put {n : Nat} {a : Act} {Γ : Tm} (h : Sees n a Γ) {d : Option Tmp} {i : Nat} (hd : d = some i) (hdn : Nat.blt i n = true) (v : Value) : Sees n (a.put d v) ((i, v) :: Γ) := by
  subst hd
  have hi : i < n := by simpa [Nat.blt_eq] using hdn
  refine ⟨by simp [Act.put, h.size], by simp [Act.put, h.defers], fun j u hj => ?_⟩
  simp only [Act.put, Array.getElem?_setIfInBounds]
  simp only [look] at hj
  by_cases e : i = j
  · subst e
    have hb : Nat.beq i i = true := Nat.beq_refl i
    rw [hb] at hj
    simp only [cond_true, Option.some.injEq] at hj
    simp [h.size, hi, hj]
  · have hb : Nat.beq i j = false := by
      cases hc : Nat.beq i j
      · rfl
      · exact absurd (Nat.eq_of_beq_eq_true hc) e
    rw [hb] at hj
    simp only [e, if_false]
    exact h.get j u hj
/-- forget and reorder -/
def tmLe (Γ' Γ : Tm) : Prop := ∀ p ∈ Γ', look Γ p.1 = some p.2
theorem look_mem : ∀ (Γ : Tm) (i : Nat) (v : Value), look Γ i = some v → (i, v) ∈ Γ
  | [], _, _, h => by simp [look] at h
  | (k, u) :: r, i, v, h => by
    unfold look at h
    cases hb : Nat.beq k i
    · rw [hb] at h; exact List.mem_cons_of_mem _ (look_mem r i v h)
    · rw [hb] at h
      have e := Nat.eq_of_beq_eq_true hb
      simp only [cond_true, Option.some.injEq] at h
      rw [← e, ← h]; exact List.mem_cons_self
theorem Sees.less {n : Nat} {a : Act} {Γ Γ' : Tm} (h : Sees n a Γ) (hl : tmLe Γ' Γ) : Sees n a Γ' :=
  ⟨h.size, h.defers, fun i v hv => h.get i v (hl _ (look_mem Γ' i v hv))⟩
theorem tmLe.nil {Γ : Tm} : tmLe [] Γ := fun _ h => by cases h
theorem tmLe.cons {Γ Γ' : Tm} {i : Nat} {v : Value} (h : look Γ i = some v) (hl : tmLe Γ' Γ) : tmLe ((i, v) :: Γ') Γ := fun p hp => by
  rcases List.mem_cons.1 hp with rfl | hp
  · exact h
  · exact hl p hp

theorem look_to {Γ : Tm} {i : Nat} {u v : Value} (h : look Γ i = some u) (e : u = v) : look Γ i = some v := e ▸ h

/-! ### memory -/
/-- w' is w but for the blocks D and new ones -/
structure Only (D : List Nat) (w w' : World) : Prop where
  os : w'.os = w.os
  tape : w'.tape = w.tape
  output : w'.output = w.output
  size : w.heap.size ≤ w'.heap.size
  block : ∀ b, b < w.heap.size → b ∉ D → w'.heap[b]? = w.heap[b]?
theorem Only.refl (D : List Nat) (w : World) : Only D w w := ⟨rfl, rfl, rfl, Nat.le_refl _, fun _ _ _ => rfl⟩
theorem Only.trans {D : List Nat} {a b c : World} (h : Only D a b) (k : Only D b c) : Only D a c :=
  ⟨k.os.trans h.os, k.tape.trans h.tape, k.output.trans h.output, Nat.le_trans h.size k.size, fun i hi hD => (k.block i (Nat.lt_of_lt_of_le hi h.size) hD).trans (h.block i hi hD)⟩
theorem Only.mono {D D' : List Nat} {a b : World} (h : Only D a b) (hD : ∀ x ∈ D, x ∈ D') : Only D' a b :=
  ⟨h.os, h.tape, h.output, h.size, fun i hi hn => h.block i hi (fun hx => hn (hD i hx))⟩
theorem Only.below {w w' : World} (h : Below w.heap.size w w') : Only [] w w' := ⟨h.os, h.tape, h.output, h.size, fun i hi _ => h.block i hi⟩
theorem Only.to_below {w w' : World} (h : Only [] w w') : Below w.heap.size w w' := ⟨h.os, h.tape, h.output, h.size, fun i hi => h.block i hi (by simp)⟩
theorem Only.drew (D : List Nat) (w : World) : Only D w w.drew := ⟨rfl, rfl, rfl, Nat.le_refl _, fun _ _ _ => rfl⟩
theorem Only.drewN (D : List Nat) (w : World) (n : Nat) : Only D w (w.drewN n) := ⟨rfl, rfl, rfl, Nat.le_refl _, fun _ _ _ => rfl⟩
theorem Only.alloc (D : List Nat) (w : World) (o : Obj) : Only D w (w.alloc o) :=
  ⟨rfl, rfl, rfl, by simp, fun b hb _ => Below.heap_alloc w o b hb⟩
theorem Only.setCell {D : List Nat} (w : World) {p : Addr} (hp : p.block ∈ D) (u : Value) : Only D w (w.setCell p u) :=
  ⟨rfl, rfl, rfl, by simp [World.setCell], fun b hb hD => Below.heap_setCell w p u b (fun e => hD (e ▸ hp))⟩
theorem Only.grown {D : List Nat} {w w' : World} {row : Option Nat} (h : w.grownBy w' row) (hr : ∀ b, row = some b → b ∈ D) : Only D w w' :=
  ⟨h.os, h.tape, h.output, h.size, fun b hb hD => h.block b hb (fun e => hD (hr b e.symm))⟩

/-- a piece of memory: the blocks on which it hangs, and what is said of them -/
structure Res where
  fp : List Nat
  ok : World → Prop
  st : ∀ w w' : World, (∀ b ∈ fp, w'.heap[b]? = w.heap[b]?) → ok w → ok w'
structure St (w0 : World) (D : List Nat) (σ : List Res) (w : World) : Prop where
  only : Only D w0 w
  ok : ∀ r ∈ σ, r.ok w
  lt : ∀ r ∈ σ, ∀ b ∈ r.fp, b < w.heap.size
  new : ∀ r ∈ σ, ∀ b ∈ r.fp, b ∈ D ∨ w0.heap.size ≤ b
  nd : (σ.flatMap Res.fp).Nodup
theorem St.refl (w : World) (D : List Nat) : St w D [] w := ⟨Only.refl _ _, by simp, by simp, by simp, by simp⟩
/-- nothing of ours has changed -/
theorem St.same {w0 w w' : World} {D : List Nat} {σ : List Res} (h : St w0 D σ w) (ho : Only [] w w') : St w0 D σ w' :=
  ⟨h.only.trans (ho.mono (by simp)), fun r hr => r.st w w' (fun b hb => ho.block b (h.lt r hr b hb) (by simp)) (h.ok r hr), fun r hr b hb => Nat.lt_of_lt_of_le (h.lt r hr b hb) ho.size, h.new, h.nd⟩
/-- a new piece -/
theorem St.push {w0 w w' : World} {D : List Nat} {σ : List Res} (h : St w0 D σ w) (ho : Only [] w w') (r : Res) (hr : r.ok w') (hfp : ∀ b ∈ r.fp, w.heap.size ≤ b ∧ b < w'.heap.size) (hnd : r.fp.Nodup) : St w0 D (r :: σ) w' := by
  have h' := h.same ho
  refine ⟨h'.only, ?_, ?_, ?_, ?_⟩
  · intro q hq; rcases List.mem_cons.1 hq with rfl | hq
    · exact hr
    · exact h'.ok q hq
  · intro q hq; rcases List.mem_cons.1 hq with rfl | hq
    · exact fun b hb => (hfp b hb).2
    · exact h'.lt q hq
  · intro q hq; rcases List.mem_cons.1 hq with rfl | hq
    · exact fun b hb => .inr (Nat.le_trans h.only.size (hfp b hb).1)
    · exact h'.new q hq
  · rw [List.flatMap_cons, List.nodup_append]
    refine ⟨hnd, h.nd, fun a ha b hb e => ?_⟩
    subst e
    obtain ⟨q, hq, hqa⟩ := List.mem_flatMap.1 hb
    have h1 := (hfp a ha).1
    have h2 := h.lt q hq a hqa
    omega
/-- pieces σ1 have become σ2 -/
theorem St.turn {w0 w w' : World} {D : List Nat} {σ1 σ2 σ : List Res} (h : St w0 D (σ1 ++ σ) w) (ho : Only (σ1.flatMap Res.fp) w w') (hr : ∀ r ∈ σ2, r.ok w')
    (hfp : ∀ b ∈ σ2.flatMap Res.fp, (b ∈ σ1.flatMap Res.fp ∨ w.heap.size ≤ b) ∧ b < w'.heap.size) (hnd : (σ2.flatMap Res.fp).Nodup) : St w0 D (σ2 ++ σ) w' := by
  have hnd0 := h.nd
  rw [List.flatMap_append, List.nodup_append] at hnd0
  obtain ⟨n1, n2, n12⟩ := hnd0
  have hfar : ∀ r ∈ σ, ∀ b ∈ r.fp, b ∉ σ1.flatMap Res.fp := fun r hr b hb h1 => n12 b h1 b (List.mem_flatMap.2 ⟨r, hr, hb⟩) rfl
  have hlt1 : ∀ b ∈ σ1.flatMap Res.fp, b < w.heap.size ∧ (b ∈ D ∨ w0.heap.size ≤ b) := fun b hb => by
    obtain ⟨r, hr, hb⟩ := List.mem_flatMap.1 hb
    exact ⟨h.lt r (List.mem_append_left _ hr) b hb, h.new r (List.mem_append_left _ hr) b hb⟩
  refine ⟨⟨ho.os.trans h.only.os, ho.tape.trans h.only.tape, ho.output.trans h.only.output, Nat.le_trans h.only.size ho.size, fun b hb hD => ?_⟩, ?_, ?_, ?_, ?_⟩
  · refine (ho.block b (Nat.lt_of_lt_of_le hb h.only.size) (fun h1 => ?_)).trans (h.only.block b hb hD)
    rcases (hlt1 b h1).2 with h2 | h2
    · exact hD h2
    · omega
  · intro q hq
    rcases List.mem_append.1 hq with hq | hq
    · exact hr q hq
    · exact q.st w w' (fun b hb => ho.block b (h.lt q (List.mem_append_right _ hq) b hb) (hfar q hq b hb)) (h.ok q (List.mem_append_right _ hq))
  · intro q hq b hb
    rcases List.mem_append.1 hq with hq | hq
    · exact (hfp b (List.mem_flatMap.2 ⟨q, hq, hb⟩)).2
    · exact Nat.lt_of_lt_of_le (h.lt q (List.mem_append_right _ hq) b hb) ho.size
  · intro q hq b hb
    rcases List.mem_append.1 hq with hq | hq
    · rcases (hfp b (List.mem_flatMap.2 ⟨q, hq, hb⟩)).1 with h1 | h1
      · exact (hlt1 b h1).2
      · exact .inr (Nat.le_trans h.only.size h1)
    · exact h.new q (List.mem_append_right _ hq) b hb
  · rw [List.flatMap_append, List.nodup_append]
    refine ⟨hnd, n2, fun a ha b hb e => ?_⟩
    subst e
    obtain ⟨q, hq, hqa⟩ := List.mem_flatMap.1 hb
    rcases (hfp a ha).1 with h1 | h1
    · exact hfar q hq a hqa h1
    · have := h.lt q (List.mem_append_right _ hq) a hqa; omega
/-- the pieces in another order -/
theorem St.perm {w0 w : World} {D : List Nat} {σ σ' : List Res} (h : St w0 D σ w) (hp : σ'.Perm σ) : St w0 D σ' w :=
  ⟨h.only, fun r hr => h.ok r (hp.mem_iff.1 hr), fun r hr => h.lt r (hp.mem_iff.1 hr), fun r hr => h.new r (hp.mem_iff.1 hr), (List.Perm.nodup_iff (hp.flatMap_right Res.fp)).2 h.nd⟩
theorem perm_front {α : Type _} : ∀ (l : List α) (i : Nat) (r : α), l[i]? = some r → (r :: l.eraseIdx i).Perm l
  | [], _, _, h => by simp at h
  | a :: l, 0, r, h => by simp at h; subst h; exact List.Perm.refl _
  | a :: l, i + 1, r, h => by
    have ih := perm_front l i r (by simpa using h)
    rw [List.eraseIdx_cons_succ]
    exact (List.Perm.swap a r _).trans (ih.cons a)
theorem eraseIdx_set_self {α : Type _} : ∀ (l : List α) (i : Nat) (r : α), (l.set i r).eraseIdx i = l.eraseIdx i
  | [], _, _ => rfl
  | a :: l, 0, r => rfl
  | a :: l, i + 1, r => by simp [eraseIdx_set_self l i r]
theorem St.front {w0 w : World} {D : List Nat} {σ : List Res} (h : St w0 D σ w) (i : Nat) {r : Res} (hi : σ[i]? = some r) : St w0 D (r :: σ.eraseIdx i) w := by
  exact h.perm (perm_front σ i r hi)
theorem St.drop {w0 w : World} {D : List Nat} {r : Res} {σ : List Res} (h : St w0 D (r :: σ) w) : St w0 D σ w :=
  ⟨h.only, fun q hq => h.ok q (List.mem_cons_of_mem _ hq), fun q hq => h.lt q (List.mem_cons_of_mem _ hq), fun q hq => h.new q (List.mem_cons_of_mem _ hq), by
    have := h.nd
    rw [List.flatMap_cons, List.nodup_append] at this
    exact this.2.1⟩
theorem St.at_ {w0 w : World} {D : List Nat} {σ : List Res} (h : St w0 D σ w) (i : Nat) {r : Res} (hi : σ[i]? = some r) : r.ok w :=
  h.ok r (List.mem_of_getElem? hi)
/-- piece number i turned -/
theorem St.set_ {w0 w w' : World} {D : List Nat} {σ : List Res} (h : St w0 D σ w) (i : Nat) {r r' : Res} (hi : σ[i]? = some r) (ho : Only r.fp w w') (hr : r'.ok w')
    (hfp : ∀ b ∈ r'.fp, (b ∈ r.fp ∨ w.heap.size ≤ b) ∧ b < w'.heap.size) (hnd : r'.fp.Nodup) : St w0 D (σ.set i r') w' := by
  obtain ⟨hlt, rfl⟩ := List.getElem?_eq_some_iff.1 hi
  have h1 : St w0 D ([σ[i]] ++ σ.eraseIdx i) w := h.front i hi
  have h2 : St w0 D ([r'] ++ σ.eraseIdx i) w' := h1.turn (by simpa using ho) (by simpa using hr) (by simpa using hfp) (by simpa using hnd)
  refine h2.perm ?_
  have h3 := perm_front (σ.set i r') i r' (by simp [hlt])
  rw [eraseIdx_set_self] at h3
  exact h3.symm

/-! ### code -/
abbrev QQ := Exit → Tm → List Res → Prop
def conc (n : Nat) (w0 : World) (D : List Nat) (Q : QQ) : Exit → Act → World → Prop
  | .panic _, _, _ => False
  | .outgrown, _, _ => False
  | ex, a, w => ∃ Γ σ, Sees n a Γ ∧ St w0 D σ w ∧ Q ex Γ σ
structure WC (P : Program) (n : Nat) (w0 : World) (D : List Nat) (c : Code) (Q : QQ) (Γ : Tm) (σ : List Res) : Prop where
  run : ∀ a w, Sees n a Γ → St w0 D σ w → c.wp P (conc n w0 D Q) a w
def thenQ (K : Tm → List Res → Prop) (Q : QQ) : QQ := fun ex Γ σ => match ex with | .normal => K Γ σ | ex => Q ex Γ σ
def blkQ (id : Nat) (Q : QQ) : QQ := fun ex Γ σ => match ex with | .exit i => cond (Nat.beq i id) (Q .normal Γ σ) (Q (.exit i) Γ σ) | ex => Q ex Γ σ

section
variable {P : Program} {n : Nat} {w0 : World} {D : List Nat} {Q : QQ} {Γ : Tm} {σ : List Res}
theorem thenQ_normal {K : Tm → List Res → Prop} (h : K Γ σ) : thenQ K Q .normal Γ σ := h
theorem thenQ_exit {K : Tm → List Res → Prop} {i : Nat} (h : Q (.exit i) Γ σ) : thenQ K Q (.exit i) Γ σ := h
theorem thenQ_ret {K : Tm → List Res → Prop} (h : Q .ret Γ σ) : thenQ K Q .ret Γ σ := h
theorem blkQ_normal {id : Nat} (h : Q .normal Γ σ) : blkQ id Q .normal Γ σ := h
theorem blkQ_ret {id : Nat} (h : Q .ret Γ σ) : blkQ id Q .ret Γ σ := h
theorem blkQ_hit {id : Nat} (h : Q .normal Γ σ) : blkQ id Q (.exit id) Γ σ := by
  show cond (Nat.beq id id) _ _
  rw [Nat.beq_refl]; exact h
theorem blkQ_miss {id i : Nat} (hn : Nat.beq i id = false) (h : Q (.exit i) Γ σ) : blkQ id Q (.exit i) Γ σ := by
  show cond (Nat.beq i id) _ _
  rw [hn]; exact h

theorem wc_conseq {c : Code} {Γ' : Tm} (h : WC P n w0 D c Q Γ' σ) (hl : tmLe Γ' Γ) : WC P n w0 D c Q Γ σ := .mk fun a w hs hst => h.run a w (hs.less hl) hst
theorem wc_drop {c : Code} {r : Res} (h : WC P n w0 D c Q Γ σ) : WC P n w0 D c Q Γ (r :: σ) := .mk fun a w hs hst => h.run a w hs hst.drop
theorem wc_front {c : Code} (i : Nat) {r : Res} (hi : σ[i]? = some r) (h : WC P n w0 D c Q Γ (r :: σ.eraseIdx i)) : WC P n w0 D c Q Γ σ := .mk fun a w hs hst => h.run a w hs (hst.front i hi)
theorem wc_skip (h : Q .normal Γ σ) : WC P n w0 D .skip Q Γ σ := .mk fun a w hs hst => wp_skip ⟨Γ, σ, hs, hst, h⟩
theorem wc_exit {id : Nat} (h : Q (.exit id) Γ σ) : WC P n w0 D (.exit id) Q Γ σ := .mk fun a w hs hst => wp_exit ⟨Γ, σ, hs, hst, h⟩
theorem wc_ret (h : Q .ret Γ σ) : WC P n w0 D .ret Q Γ σ := .mk fun a w hs hst => wp_ret ⟨Γ, σ, hs, hst, h⟩
theorem wc_seq {x y : Code} (h : WC P n w0 D x (thenQ (WC P n w0 D y Q) Q) Γ σ) : WC P n w0 D (x.seq y) Q Γ σ := .mk fun a w hs hst =>
  wp_seq (wp_mono (h.run a w hs hst) fun ex a' w' hq => by
    cases ex with
    | normal => obtain ⟨Γ', σ', hs', hst', hq⟩ := hq; exact hq.run a' w' hs' hst'
    | panic c => exact hq.elim
    | outgrown => exact hq.elim
    | exit i => exact hq
    | goto l => exact hq
    | ret => exact hq)
theorem wc_block {id : Nat} {c : Code} (h : WC P n w0 D c (blkQ id Q) Γ σ) : WC P n w0 D (.block id c) Q Γ σ := .mk fun a w hs hst =>
  wp_block (wp_mono (h.run a w hs hst) fun ex a' w' hq => by
    cases ex with
    | normal => exact hq
    | panic c => exact hq.elim
    | outgrown => exact hq.elim
    | exit i =>
      obtain ⟨Γ', σ', hs', hst', hq⟩ := hq
      show if i = id then _ else _
      by_cases e : i = id
      · subst e
        rw [if_pos rfl]
        refine ⟨Γ', σ', hs', hst', ?_⟩
        have : cond (Nat.beq i i) (Q .normal Γ' σ') (Q (.exit i) Γ' σ') := hq
        rwa [Nat.beq_refl] at this
      · rw [if_neg e]
        refine ⟨Γ', σ', hs', hst', ?_⟩
        have : cond (Nat.beq i id) (Q .normal Γ' σ') (Q (.exit i) Γ' σ') := hq
        have hb : Nat.beq i id = false := by
          cases hc : Nat.beq i id
          · rfl
          · exact absurd (Nat.eq_of_beq_eq_true hc) e
        rwa [hb] at this
    | goto l => exact hq
    | ret => exact hq)
theorem wc_cond {c : Operand} {x y : Code} {b : Bool} (hc : ev Γ c = some (.bool b)) (ht : b = true → WC P n w0 D x Q Γ σ) (hf : b = false → WC P n w0 D y Q Γ σ) : WC P n w0 D (.cond c x y) Q Γ σ :=
  .mk fun a w hs hst => wp_cond_split (hs.eval hc) (fun e => (ht e).run a w hs hst) (fun e => (hf e).run a w hs hst)
theorem wc_true {c : Operand} {x y : Code} (hc : ev Γ c = some (.bool true)) (h : WC P n w0 D x Q Γ σ) : WC P n w0 D (.cond c x y) Q Γ σ := wc_cond hc (fun _ => h) (fun e => by cases e)
theorem wc_false {c : Operand} {x y : Code} (hc : ev Γ c = some (.bool false)) (h : WC P n w0 D y Q Γ σ) : WC P n w0 D (.cond c x y) Q Γ σ := wc_cond hc (fun e => by cases e) (fun _ => h)

/-- a loop: x runs over the states at its head -/
theorem wc_loop {c : Code} {α : Type} (pre : α → Prop) (T : α → Tm) (M : α → List Res) (μ : α → Nat) (x0 : α) (hp : pre x0) (hT : tmLe (T x0) Γ) (hM : M x0 = σ)
    (round : ∀ x, pre x → WC P n w0 D c (thenQ (fun Γ' σ' => ∃ x', pre x' ∧ tmLe (T x') Γ' ∧ M x' = σ' ∧ μ x' < μ x) Q) (T x) (M x)) : WC P n w0 D (.loop c) Q Γ σ := by
  refine ⟨fun a w hs hst => ?_⟩
  refine wp_loop_ghost (fun m a w => ∃ x, μ x = m ∧ pre x ∧ Sees n a (T x) ∧ St w0 D (M x) w) (μ x0) ⟨x0, rfl, hp, hs.less hT, hM ▸ hst⟩ ?_
  rintro m a w ⟨x, rfl, hpx, hs, hst⟩
  refine wp_mono ((round x hpx).run a w hs hst) fun ex a' w' hq => ?_
  cases ex with
  | normal => obtain ⟨Γ', σ', hs', hst', x', h0, h1, h2, h3⟩ := hq; exact ⟨μ x', h3, x', rfl, h0, hs'.less h1, h2 ▸ hst'⟩
  | panic c => exact hq.elim
  | outgrown => exact hq.elim
  | exit i => exact hq
  | goto l => exact hq
  | ret => exact hq
end
end Go.Proofs.Ytofngbaefbbeiaa
