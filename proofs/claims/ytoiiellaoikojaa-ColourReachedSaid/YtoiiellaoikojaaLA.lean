/- A small logic for the walks: known temporaries as a list, own memory as a list of resources, all else unchanged. Control. A small logic for the walks: operations. A small logic for the walks: values, own blocks, rows, calls. A small logic for the walks: new memory, stores, append, calls, results. A small logic for the walks: calls, results, regions that draw, slicing. A small logic for the walks: regions that draw their order; slicing. -/
import Derived.Test.YtoiiellaoikojaaProg
import Derived.WalkKit
import Derived.WalkSpells
import Derived.WalkLawsBesides
import Derived.OrdersHeld
import Derived.Deep.LoopGhost
import Derived.Deep.OwnRows
import Derived.Great.BuildSlice
import Derived.Maps.AppendAt
import Derived.Deep.Quiet
set_option linter.unusedVariables false
set_option linter.unusedSimpArgs false
set_option maxHeartbeats 8000000
namespace Go.Proofs.Ytoiiellaoikojaa
open Go.RowKit
/-! ### temporaries -/
abbrev Tm := List (Nat × Value)
def look : Tm → Nat → Option Value
  | [], _ => none
  | (i, v) :: r, j => cond (Nat.beq i j) (some v) (look r j)
def ev (Γ : Tm) : Operand → Option Value
  | .tmp t => look Γ t
  | .const v => some v
  | .global g => some (.pointer (some ⟨g, 0, none⟩))
  | .func f => some (.func (.func f) #[] #[])
structure Sees (n : Nat) (a : Act) (Γ : Tm) : Prop where
  size : a.tmps.size = n
  defers : a.defers = []
  get : ∀ i v, look Γ i = some v → a.tmps[i]? = some v
theorem Sees.eval {n : Nat} {a : Act} {Γ : Tm} (h : Sees n a Γ) {x : Operand} {v : Value} (hx : ev Γ x = some v) : a.eval x = v := by
  cases x with
  | tmp t => simp only [Act.eval, Array.getD_eq_getD_getElem?]; rw [h.get t v hx]; rfl
  | const u => simpa [ev, Act.eval] using hx
  | global g => simpa [ev, Act.eval] using hx
  | func f => simpa [ev, Act.eval] using hx
theorem Sees.put {n : Nat} {a : Act} {Γ : Tm} (h : Sees n a Γ) {d : Option Tmp} {i : Nat} (hd : d = some i) (hdn : Nat.blt i n = true) (v : Value) : Sees n (a.put d v) ((i, v) :: Γ) := by
  subst hd
  have hi : i < n := by simpa [Nat.blt_eq] using hdn
  refine ⟨by simp [Act.put, h.size], by simp [Act.put, h.defers], fun j u hj => ?_⟩
  simp only [Act.put, Array.getElem?_setIfInBounds]
  simp only [look] at hj
  by_cases e : i = j
  · subst e
    have hb : Nat.beq i i = true := Nat.beq_refl i
    rw [hb] at hj
    simp only [cond_true, Option.some.injEq] at hj
    simp [h.size, hi, hj]
  · have hb : Nat.beq i j = false := by
      cases hc : Nat.beq i j
      · rfl
      · exact absurd (Nat.eq_of_beq_eq_true hc) e
    rw [hb] at hj
    simp only [e, if_false]
    exact h.get j u hj
/-- forget and reorder -/
def tmLe (Γ' Γ : Tm) : Prop := ∀ p ∈ Γ', look Γ p.1 = some p.2
theorem look_mem : ∀ (Γ : Tm) (i : Nat) (v : Value), look Γ i = some v → (i, v) ∈ Γ
  | [], _, _, h => by simp [look] at h
  | (k, u) :: r, i, v, h => by
    unfold look at h
    cases hb : Nat.beq k i
    · rw [hb] at h; exact List.mem_cons_of_mem _ (look_mem r i v h)
    · rw [hb] at h
      have e := Nat.eq_of_beq_eq_true hb
      simp only [cond_true, Option.some.injEq] at h
      rw [← e, ← h]; exact List.mem_cons_self
theorem Sees.less {n : Nat} {a : Act} {Γ Γ' : Tm} (h : Sees n a Γ) (hl : tmLe Γ' Γ) : Sees n a Γ' :=
  ⟨h.size, h.defers, fun i v hv => h.get i v (hl _ (look_mem Γ' i v hv))⟩
theorem tmLe.nil {Γ : Tm} : tmLe [] Γ := fun _ h => by cases h
theorem tmLe.cons {Γ Γ' : Tm} {i : Nat} {v : Value} (h : look Γ i = some v) (hl : tmLe Γ' Γ) : tmLe ((i, v) :: Γ') Γ := fun p hp => by
  rcases List.mem_cons.1 hp with rfl | hp
  · exact h
  · exact hl p hp

theorem look_to {Γ : Tm} {i : Nat} {u v : Value} (h : look Γ i = some u) (e : u = v) : look Γ i = some v := e ▸ h

/-! ### memory -/
/-- w' is w but for the blocks D and new ones -/
structure Only (D : List Nat) (w w' : World) : Prop where
  os : w'.os = w.os
  tape : w'.tape = w.tape
  output : w'.output = w.output
  size : w.heap.size ≤ w'.heap.size
  block : ∀ b, b < w.heap.size → b ∉ D → w'.heap[b]? = w.heap[b]?
theorem Only.refl (D : List Nat) (w : World) : Only D w w := ⟨rfl, rfl, rfl, Nat.le_refl _, fun _ _ _ => rfl⟩
theorem Only.trans {D : List Nat} {a b c : World} (h : Only D a b) (k : Only D b c) : Only D a c :=
  ⟨k.os.trans h.os, k.tape.trans h.tape, k.output.trans h.output, Nat.le_trans h.size k.size, fun i hi hD => (k.block i (Nat.lt_of_lt_of_le hi h.size) hD).trans (h.block i hi hD)⟩
theorem Only.mono {D D' : List Nat} {a b : World} (h : Only D a b) (hD : ∀ x ∈ D, x ∈ D') : Only D' a b :=
  ⟨h.os, h.tape, h.output, h.size, fun i hi hn => h.block i hi (fun hx => hn (hD i hx))⟩
theorem Only.below {w w' : World} (h : Below w.heap.size w w') : Only [] w w' := ⟨h.os, h.tape, h.output, h.size, fun i hi _ => h.block i hi⟩
theorem Only.to_below {w w' : World} (h : Only [] w w') : Below w.heap.size w w' := ⟨h.os, h.tape, h.output, h.size, fun i hi => h.block i hi (by simp)⟩
theorem Only.drew (D : List Nat) (w : World) : Only D w w.drew := ⟨rfl, rfl, rfl, Nat.le_refl _, fun _ _ _ => rfl⟩
theorem Only.drewN (D : List Nat) (w : World) (n : Nat) : Only D w (w.drewN n) := ⟨rfl, rfl, rfl, Nat.le_refl _, fun _ _ _ => rfl⟩
theorem Only.alloc (D : List Nat) (w : World) (o : Obj) : Only D w (w.alloc o) :=
  ⟨rfl, rfl, rfl, by simp, fun b hb _ => Below.heap_alloc w o b hb⟩
theorem Only.setCell {D : List Nat} (w : World) {p : Addr} (hp : p.block ∈ D) (u : Value) : Only D w (w.setCell p u) :=
  ⟨rfl, rfl, rfl, by simp [World.setCell], fun b hb hD => Below.heap_setCell w p u b (fun e => hD (e ▸ hp))⟩
theorem Only.grown {D : List Nat} {w w' : World} {row : Option Nat} (h : w.grownBy w' row) (hr : ∀ b, row = some b → b ∈ D) : Only D w w' :=
  ⟨h.os, h.tape, h.output, h.size, fun b hb hD => h.block b hb (fun e => hD (hr b e.symm))⟩

/-- a piece of memory: the blocks on which it hangs, and what is said of them -/
structure Res where
  fp : List Nat
  ok : World → Prop
  st : ∀ w w' : World, (∀ b ∈ fp, w'.heap[b]? = w.heap[b]?) → ok w → ok w'
structure St (w0 : World) (D : List Nat) (σ : List Res) (w : World) : Prop where
  only : Only D w0 w
  ok : ∀ r ∈ σ, r.ok w
  lt : ∀ r ∈ σ, ∀ b ∈ r.fp, b < w.heap.size
  new : ∀ r ∈ σ, ∀ b ∈ r.fp, b ∈ D ∨ w0.heap.size ≤ b
  nd : (σ.flatMap Res.fp).Nodup
theorem St.refl (w : World) (D : List Nat) : St w D [] w := ⟨Only.refl _ _, by simp, by simp, by simp, by simp⟩
/-- nothing of ours has changed -/
theorem St.same {w0 w w' : World} {D : List Nat} {σ : List Res} (h : St w0 D σ w) (ho : Only [] w w') : St w0 D σ w' :=
  ⟨h.only.trans (ho.mono (by simp)), fun r hr => r.st w w' (fun b hb => ho.block b (h.lt r hr b hb) (by simp)) (h.ok r hr), fun r hr b hb => Nat.lt_of_lt_of_le (h.lt r hr b hb) ho.size, h.new, h.nd⟩
/-- a new piece -/
theorem St.push {w0 w w' : World} {D : List Nat} {σ : List Res} (h : St w0 D σ w) (ho : Only [] w w') (r : Res) (hr : r.ok w') (hfp : ∀ b ∈ r.fp, w.heap.size ≤ b ∧ b < w'.heap.size) (hnd : r.fp.Nodup) : St w0 D (r :: σ) w' := by
  have h' := h.same ho
  refine ⟨h'.only, ?_, ?_, ?_, ?_⟩
  · intro q hq; rcases List.mem_cons.1 hq with rfl | hq
    · exact hr
    · exact h'.ok q hq
  · intro q hq; rcases List.mem_cons.1 hq with rfl | hq
    · exact fun b hb => (hfp b hb).2
    · exact h'.lt q hq
  · intro q hq; rcases List.mem_cons.1 hq with rfl | hq
    · exact fun b hb => .inr (Nat.le_trans h.only.size (hfp b hb).1)
    · exact h'.new q hq
  · rw [List.flatMap_cons, List.nodup_append]
    refine ⟨hnd, h.nd, fun a ha b hb e => ?_⟩
    subst e
    obtain ⟨q, hq, hqa⟩ := List.mem_flatMap.1 hb
    have h1 := (hfp a ha).1
    have h2 := h.lt q hq a hqa
    omega
/-- pieces σ1 have become σ2 -/
theorem St.turn {w0 w w' : World} {D : List Nat} {σ1 σ2 σ : List Res} (h : St w0 D (σ1 ++ σ) w) (ho : Only (σ1.flatMap Res.fp) w w') (hr : ∀ r ∈ σ2, r.ok w')
    (hfp : ∀ b ∈ σ2.flatMap Res.fp, (b ∈ σ1.flatMap Res.fp ∨ w.heap.size ≤ b) ∧ b < w'.heap.size) (hnd : (σ2.flatMap Res.fp).Nodup) : St w0 D (σ2 ++ σ) w' := by
  have hnd0 := h.nd
  rw [List.flatMap_append, List.nodup_append] at hnd0
  obtain ⟨n1, n2, n12⟩ := hnd0
  have hfar : ∀ r ∈ σ, ∀ b ∈ r.fp, b ∉ σ1.flatMap Res.fp := fun r hr b hb h1 => n12 b h1 b (List.mem_flatMap.2 ⟨r, hr, hb⟩) rfl
  have hlt1 : ∀ b ∈ σ1.flatMap Res.fp, b < w.heap.size ∧ (b ∈ D ∨ w0.heap.size ≤ b) := fun b hb => by
    obtain ⟨r, hr, hb⟩ := List.mem_flatMap.1 hb
    exact ⟨h.lt r (List.mem_append_left _ hr) b hb, h.new r (List.mem_append_left _ hr) b hb⟩
  refine ⟨⟨ho.os.trans h.only.os, ho.tape.trans h.only.tape, ho.output.trans h.only.output, Nat.le_trans h.only.size ho.size, fun b hb hD => ?_⟩, ?_, ?_, ?_, ?_⟩
  · refine (ho.block b (Nat.lt_of_lt_of_le hb h.only.size) (fun h1 => ?_)).trans (h.only.block b hb hD)
    rcases (hlt1 b h1).2 with h2 | h2
    · exact hD h2
    · omega
  · intro q hq
    rcases List.mem_append.1 hq with hq | hq
    · exact hr q hq
    · exact q.st w w' (fun b hb => ho.block b (h.lt q (List.mem_append_right _ hq) b hb) (hfar q hq b hb)) (h.ok q (List.mem_append_right _ hq))
  · intro q hq b hb
    rcases List.mem_append.1 hq with hq | hq
    · exact (hfp b (List.mem_flatMap.2 ⟨q, hq, hb⟩)).2
    · exact Nat.lt_of_lt_of_le (h.lt q (List.mem_append_right _ hq) b hb) ho.size
  · intro q hq b hb
    rcases List.mem_append.1 hq with hq | hq
    · rcases (hfp b (List.mem_flatMap.2 ⟨q, hq, hb⟩)).1 with h1 | h1
      · exact (hlt1 b h1).2
      · exact .inr (Nat.le_trans h.only.size h1)
    · exact h.new q (List.mem_append_right _ hq) b hb
  · rw [List.flatMap_append, List.nodup_append]
    refine ⟨hnd, n2, fun a ha b hb e => ?_⟩
    subst e
    obtain ⟨q, hq, hqa⟩ := List.mem_flatMap.1 hb
    rcases (hfp a ha).1 with h1 | h1
    · exact hfar q hq a hqa h1
    · have := h.lt q (List.mem_append_right _ hq) a hqa; omega
/-- the pieces in another order -/
theorem St.perm {w0 w : World} {D : List Nat} {σ σ' : List Res} (h : St w0 D σ w) (hp : σ'.Perm σ) : St w0 D σ' w :=
  ⟨h.only, fun r hr => h.ok r (hp.mem_iff.1 hr), fun r hr => h.lt r (hp.mem_iff.1 hr), fun r hr => h.new r (hp.mem_iff.1 hr), (List.Perm.nodup_iff (hp.flatMap_right Res.fp)).2 h.nd⟩
theorem perm_front {α : Type _} : ∀ (l : List α) (i : Nat) (r : α), l[i]? = some r → (r :: l.eraseIdx i).Perm l
  | [], _, _, h => by simp at h
  | a :: l, 0, r, h => by simp at h; subst h; exact List.Perm.refl _
  | a :: l, i + 1, r, h => by
    have ih := perm_front l i r (by simpa using h)
    rw [List.eraseIdx_cons_succ]
    exact (List.Perm.swap a r _).trans (ih.cons a)
theorem eraseIdx_set_self {α : Type _} : ∀ (l : List α) (i : Nat) (r : α), (l.set i r).eraseIdx i = l.eraseIdx i
  | [], _, _ => rfl
  | a :: l, 0, r => rfl
  | a :: l, i + 1, r => by simp [eraseIdx_set_self l i r]
theorem St.front {w0 w : World} {D : List Nat} {σ : List Res} (h : St w0 D σ w) (i : Nat) {r : Res} (hi : σ[i]? = some r) : St w0 D (r :: σ.eraseIdx i) w := by
  exact h.perm (perm_front σ i r hi)
theorem St.drop {w0 w : World} {D : List Nat} {r : Res} {σ : List Res} (h : St w0 D (r :: σ) w) : St w0 D σ w :=
  ⟨h.only, fun q hq => h.ok q (List.mem_cons_of_mem _ hq), fun q hq => h.lt q (List.mem_cons_of_mem _ hq), fun q hq => h.new q (List.mem_cons_of_mem _ hq), by
    have := h.nd
    rw [List.flatMap_cons, List.nodup_append] at this
    exact this.2.1⟩
theorem St.at_ {w0 w : World} {D : List Nat} {σ : List Res} (h : St w0 D σ w) (i : Nat) {r : Res} (hi : σ[i]? = some r) : r.ok w :=
  h.ok r (List.mem_of_getElem? hi)
/-- piece number i turned -/
theorem St.set_ {w0 w w' : World} {D : List Nat} {σ : List Res} (h : St w0 D σ w) (i : Nat) {r r' : Res} (hi : σ[i]? = some r) (ho : Only r.fp w w') (hr : r'.ok w')
    (hfp : ∀ b ∈ r'.fp, (b ∈ r.fp ∨ w.heap.size ≤ b) ∧ b < w'.heap.size) (hnd : r'.fp.Nodup) : St w0 D (σ.set i r') w' := by
  obtain ⟨hlt, rfl⟩ := List.getElem?_eq_some_iff.1 hi
  have h1 : St w0 D ([σ[i]] ++ σ.eraseIdx i) w := h.front i hi
  have h2 : St w0 D ([r'] ++ σ.eraseIdx i) w' := h1.turn (by simpa using ho) (by simpa using hr) (by simpa using hfp) (by simpa using hnd)
  refine h2.perm ?_
  have h3 := perm_front (σ.set i r') i r' (by simp [hlt])
  rw [eraseIdx_set_self] at h3
  exact h3.symm

/-! ### code -/
abbrev QQ := Exit → Tm → List Res → Prop
def conc (n : Nat) (w0 : World) (D : List Nat) (Q : QQ) : Exit → Act → World → Prop
  | .panic _, _, _ => False
  | .outgrown, _, _ => False
  | ex, a, w => ∃ Γ σ, Sees n a Γ ∧ St w0 D σ w ∧ Q ex Γ σ
structure WC (P : Program) (n : Nat) (w0 : World) (D : List Nat) (c : Code) (Q : QQ) (Γ : Tm) (σ : List Res) : Prop where
  run : ∀ a w, Sees n a Γ → St w0 D σ w → c.wp P (conc n w0 D Q) a w
def thenQ (K : Tm → List Res → Prop) (Q : QQ) : QQ := fun ex Γ σ => match ex with | .normal => K Γ σ | ex => Q ex Γ σ
def blkQ (id : Nat) (Q : QQ) : QQ := fun ex Γ σ => match ex with | .exit i => cond (Nat.beq i id) (Q .normal Γ σ) (Q (.exit i) Γ σ) | ex => Q ex Γ σ

section
variable {P : Program} {n : Nat} {w0 : World} {D : List Nat} {Q : QQ} {Γ : Tm} {σ : List Res}
theorem thenQ_normal {K : Tm → List Res → Prop} (h : K Γ σ) : thenQ K Q .normal Γ σ := h
theorem thenQ_exit {K : Tm → List Res → Prop} {i : Nat} (h : Q (.exit i) Γ σ) : thenQ K Q (.exit i) Γ σ := h
theorem thenQ_ret {K : Tm → List Res → Prop} (h : Q .ret Γ σ) : thenQ K Q .ret Γ σ := h
theorem blkQ_normal {id : Nat} (h : Q .normal Γ σ) : blkQ id Q .normal Γ σ := h
theorem blkQ_ret {id : Nat} (h : Q .ret Γ σ) : blkQ id Q .ret Γ σ := h
theorem blkQ_hit {id : Nat} (h : Q .normal Γ σ) : blkQ id Q (.exit id) Γ σ := by
  show cond (Nat.beq id id) _ _
  rw [Nat.beq_refl]; exact h
theorem blkQ_miss {id i : Nat} (hn : Nat.beq i id = false) (h : Q (.exit i) Γ σ) : blkQ id Q (.exit i) Γ σ := by
  show cond (Nat.beq i id) _ _
  rw [hn]; exact h

theorem wc_conseq {c : Code} {Γ' : Tm} (h : WC P n w0 D c Q Γ' σ) (hl : tmLe Γ' Γ) : WC P n w0 D c Q Γ σ := .mk fun a w hs hst => h.run a w (hs.less hl) hst
theorem wc_drop {c : Code} {r : Res} (h : WC P n w0 D c Q Γ σ) : WC P n w0 D c Q Γ (r :: σ) := .mk fun a w hs hst => h.run a w hs hst.drop
theorem wc_front {c : Code} (i : Nat) {r : Res} (hi : σ[i]? = some r) (h : WC P n w0 D c Q Γ (r :: σ.eraseIdx i)) : WC P n w0 D c Q Γ σ := .mk fun a w hs hst => h.run a w hs (hst.front i hi)
theorem wc_skip (h : Q .normal Γ σ) : WC P n w0 D .skip Q Γ σ := .mk fun a w hs hst => wp_skip ⟨Γ, σ, hs, hst, h⟩
theorem wc_exit {id : Nat} (h : Q (.exit id) Γ σ) : WC P n w0 D (.exit id) Q Γ σ := .mk fun a w hs hst => wp_exit ⟨Γ, σ, hs, hst, h⟩
theorem wc_ret (h : Q .ret Γ σ) : WC P n w0 D .ret Q Γ σ := .mk fun a w hs hst => wp_ret ⟨Γ, σ, hs, hst, h⟩
theorem wc_seq {x y : Code} (h : WC P n w0 D x (thenQ (WC P n w0 D y Q) Q) Γ σ) : WC P n w0 D (x.seq y) Q Γ σ := .mk fun a w hs hst =>
  wp_seq (wp_mono (h.run a w hs hst) fun ex a' w' hq => by
    cases ex with
    | normal => obtain ⟨Γ', σ', hs', hst', hq⟩ := hq; exact hq.run a' w' hs' hst'
    | panic c => exact hq.elim
    | outgrown => exact hq.elim
    | exit i => exact hq
    | goto l => exact hq
    | ret => exact hq)
theorem wc_block {id : Nat} {c : Code} (h : WC P n w0 D c (blkQ id Q) Γ σ) : WC P n w0 D (.block id c) Q Γ σ := .mk fun a w hs hst =>
  wp_block (wp_mono (h.run a w hs hst) fun ex a' w' hq => by
    cases ex with
    | normal => exact hq
    | panic c => exact hq.elim
    | outgrown => exact hq.elim
    | exit i =>
      obtain ⟨Γ', σ', hs', hst', hq⟩ := hq
      show if i = id then _ else _
      by_cases e : i = id
      · subst e
        rw [if_pos rfl]
        refine ⟨Γ', σ', hs', hst', ?_⟩
        have : cond (Nat.beq i i) (Q .normal Γ' σ') (Q (.exit i) Γ' σ') := hq
        rwa [Nat.beq_refl] at this
      · rw [if_neg e]
        refine ⟨Γ', σ', hs', hst', ?_⟩
        have : cond (Nat.beq i id) (Q .normal Γ' σ') (Q (.exit i) Γ' σ') := hq
        have hb : Nat.beq i id = false := by
          cases hc : Nat.beq i id
          · rfl
          · exact absurd (Nat.eq_of_beq_eq_true hc) e
        rwa [hb] at this
    | goto l => exact hq
    | ret => exact hq)
theorem wc_cond {c : Operand} {x y : Code} {b : Bool} (hc : ev Γ c = some (.bool b)) (ht : b = true → WC P n w0 D x Q Γ σ) (hf : b = false → WC P n w0 D y Q Γ σ) : WC P n w0 D (.cond c x y) Q Γ σ :=
  .mk fun a w hs hst => wp_cond_split (hs.eval hc) (fun e => (ht e).run a w hs hst) (fun e => (hf e).run a w hs hst)
theorem wc_true {c : Operand} {x y : Code} (hc : ev Γ c = some (.bool true)) (h : WC P n w0 D x Q Γ σ) : WC P n w0 D (.cond c x y) Q Γ σ := wc_cond hc (fun _ => h) (fun e => by cases e)
theorem wc_false {c : Operand} {x y : Code} (hc : ev Γ c = some (.bool false)) (h : WC P n w0 D y Q Γ σ) : WC P n w0 D (.cond c x y) Q Γ σ := wc_cond hc (fun e => by cases e) (fun _ => h)

/-- a loop: x runs over the states at its head -/
theorem wc_loop {c : Code} {α : Type} (pre : α → Prop) (T : α → Tm) (M : α → List Res) (μ : α → Nat) (x0 : α) (hp : pre x0) (hT : tmLe (T x0) Γ) (hM : M x0 = σ)
    (round : ∀ x, pre x → WC P n w0 D c (thenQ (fun Γ' σ' => ∃ x', pre x' ∧ tmLe (T x') Γ' ∧ M x' = σ' ∧ μ x' < μ x) Q) (T x) (M x)) : WC P n w0 D (.loop c) Q Γ σ := by
  refine ⟨fun a w hs hst => ?_⟩
  refine wp_loop_ghost (fun m a w => ∃ x, μ x = m ∧ pre x ∧ Sees n a (T x) ∧ St w0 D (M x) w) (μ x0) ⟨x0, rfl, hp, hs.less hT, hM ▸ hst⟩ ?_
  rintro m a w ⟨x, rfl, hpx, hs, hst⟩
  refine wp_mono ((round x hpx).run a w hs hst) fun ex a' w' hq => ?_
  cases ex with
  | normal => obtain ⟨Γ', σ', hs', hst', x', h0, h1, h2, h3⟩ := hq; exact ⟨μ x', h3, x', rfl, h0, hs'.less h1, h2 ▸ hst'⟩
  | panic c => exact hq.elim
  | outgrown => exact hq.elim
  | exit i => exact hq
  | goto l => exact hq
  | ret => exact hq
end
/-! ### types -/
def agg? (P : Program) (t : TypeId) : Option Bool := match P.underlying t with | some (.struct _) => some true | some (.array ..) => some true | some _ => some false | none => none
def size? (P : Program) (t : TypeId) : Option Nat := (P.info? t).map (·.size)
def zero? (P : Program) (t : TypeId) : Option Value := (P.info? t).bind (·.zero)
def bytes? (P : Program) (t : TypeId) : Option Nat := (P.info? t).map (·.bytes)
def elem? (P : Program) (t : TypeId) : Option TypeId := match P.underlying t with | some (.slice e) => some e | _ => none
def fOff (P : Program) (t : TypeId) (f : Nat) : Option Nat := match P.underlying t with
  | some (.struct fs) => (fs[f]?).bind fun fl => (size? P fl.type).bind fun n => if n = 0 then none else some fl.offset
  | _ => none

section
variable {P : Program} {w : World}
theorem run_isAgg {t : TypeId} {b : Bool} (h : agg? P t = some b) : (isAgg t).run P w = .ok b w := by
  unfold agg? at h
  cases hu : P.underlying t with
  | none => rw [hu] at h; cases h
  | some d => rw [hu] at h; cases d <;> simp at h <;> subst h <;> simp [isAgg, run_underlying hu]
theorem run_sizeOf' {t : TypeId} {n : Nat} (h : size? P t = some n) : (sizeOf t).run P w = .ok n w := by
  unfold size? at h
  cases hi : P.info? t with
  | none => rw [hi] at h; cases h
  | some i => rw [hi] at h; simp at h; subst h; simp [sizeOf, typeInfo, hi]
theorem run_zeroValue' {t : TypeId} {v : Value} (h : zero? P t = some v) : (zeroValue t).run P w = .ok v w := by
  unfold zero? at h
  cases hi : P.info? t with
  | none => rw [hi] at h; cases h
  | some i => rw [hi] at h; simp at h; simp [zeroValue, typeInfo, hi, h]
theorem elem?_spec {t e : TypeId} (h : elem? P t = some e) : P.underlying t = some (.slice e) := by
  unfold elem? at h
  cases hu : P.underlying t with
  | none => rw [hu] at h; cases h
  | some d => rw [hu] at h; cases d <;> simp at h; subst h; rfl
theorem run_fieldAt {t : TypeId} {f k : Nat} (h : fOff P t f = some k) (ad : Addr) : (Instr.fieldAt t (.pointer (some ad)) f).run P w = .ok (.pointer (some (ad.add k))) w := by
  unfold fOff at h
  cases hu : P.underlying t with
  | none => rw [hu] at h; cases h
  | some d =>
    rw [hu] at h
    cases d <;> simp only [reduceCtorEq] at h
    rename_i fs
    cases hf : fs[f]? with
    | none => rw [hf] at h; cases h
    | some fl =>
      rw [hf] at h
      simp only [Option.bind_some] at h
      cases hs : size? P fl.type with
      | none => rw [hs] at h; cases h
      | some n =>
        rw [hs] at h
        simp only [Option.bind_some] at h
        split at h
        · cases h
        · rename_i hn
          simp only [Option.some.injEq] at h
          subst h
          simp [Instr.fieldAt, run_underlying hu, hf, Instr.sureAddr, fieldPlace, run_sizeOf' hs, Result.andThen, hn]
end

theorem add_own (b o k : Nat) : (⟨b, o, none⟩ : Addr).add k = ⟨b, o + k, none⟩ := by unfold Addr.add; split <;> simp_all

/-! ### one operation -/
def gd (Γ : Tm) (ops : Array Oper) (o : Oper) : Option Bool := match o.guard with
  | none => some true
  | some (j, want) => match (ops[j]?).bind (·.dst) with
    | some d => match look Γ d with | some (.bool b) => some (b == want) | some _ => some false | none => none
    | none => none
theorem gd_spec {n : Nat} {a : Act} {Γ : Tm} {ops : Array Oper} {o : Oper} {g : Bool} (hs : Sees n a Γ) (h : gd Γ ops o = some g) : Region.wanted o (yielded ops a.tmps) = g := by
  unfold gd at h
  unfold Region.wanted
  cases hg : o.guard with
  | none => rw [hg] at h; simpa using h
  | some p =>
    obtain ⟨j, want⟩ := p
    rw [hg] at h
    simp only at h ⊢
    unfold yielded
    cases hd : (ops[j]?).bind (·.dst) with
    | none => rw [hd] at h; cases h
    | some d =>
      rw [hd] at h
      simp only [Option.bind_some] at h ⊢
      cases hl : look Γ d with
      | none => rw [hl] at h; cases h
      | some v =>
        rw [hl] at h
        have hg := hs.get d _ hl
        rw [hg]
        cases v <;> simp at h
        case bool b => subst h; cases b <;> cases want <;> rfl
        all_goals (subst h; simp)

section
variable {P : Program} {n : Nat} {w0 : World} {D : List Nat} {Γ : Tm} {σ : List Res} {ops : Array Oper} {o : Oper} {K : Tm → List Res → Prop}
structure OpOK (P : Program) (n : Nat) (w0 : World) (D : List Nat) (ops : Array Oper) (o : Oper) (K : Tm → List Res → Prop) (Γ : Tm) (σ : List Res) : Prop where
  run : ∀ (a : Act) (w : World), Sees n a Γ → St w0 D σ w → ∀ (Q : Exit → Act → World → Prop) (K' : Act → World → Prop), (∀ a w Γ σ, Sees n a Γ → St w0 D σ w → K Γ σ → K' a w) →
    if Region.wanted o (yielded ops a.tmps) = true then o.wp P a w K' Q else K' (a.put o.dst undef) w

structure WL (P : Program) (n : Nat) (w0 : World) (D : List Nat) (ops : Array Oper) (os : List Oper) (Q : QQ) (Γ : Tm) (σ : List Res) : Prop where
  run : ∀ a w, Sees n a Γ → St w0 D σ w → wpList P ops (conc n w0 D Q) os a w
theorem wl_nil {Q : QQ} (h : Q .normal Γ σ) : WL P n w0 D ops [] Q Γ σ := .mk fun a w hs hst => wpList_nil ⟨Γ, σ, hs, hst, h⟩
theorem wl_op {Q : QQ} {os : List Oper} (h : OpOK P n w0 D ops o (fun Γ σ => WL P n w0 D ops os Q Γ σ) Γ σ) : WL P n w0 D ops (o :: os) Q Γ σ := .mk fun a w hs hst =>
  wpList_step fun K hK => h.run a w hs hst _ K (fun a w Γ σ hs hst hk => hK a w (hk.run a w hs hst))
theorem wc_region {Q : QQ} {id : Nat} {l : List Oper} (h : WL P n w0 D l.toArray l Q Γ σ) : WC P n w0 D (.region id l.toArray false) Q Γ σ := .mk fun a w hs hst => wp_region_lit (h.run a w hs hst)

/-- an operation that yields v whatever the world is like, as far as our pieces go -/
structure ValOK (P : Program) (w0 : World) (D : List Nat) (σ : List Res) (Γ : Tm) (o : Oper) (v : Value) : Prop where
  run : ∀ w, St w0 D σ w → ∀ f : Operand → Value, (∀ x u, ev Γ x = some u → f x = u) → (execOp f o).run P w = .ok (.value v) w
theorem ok_val {v : Value} (hg : gd Γ ops o = some true) {dd : Nat} (hd : o.dst = some dd) (hdn : Nat.blt dd n = true) (hv : ValOK P w0 D σ Γ o v) (h : K ((dd, v) :: Γ) σ) : OpOK P n w0 D ops o K Γ σ := by
  refine ⟨fun a w hs hst Q K' hK => ?_⟩
  rw [if_pos (gd_spec hs hg)]
  unfold Oper.wp
  rw [hv.run w hst a.eval (fun x u hx => hs.eval hx)]
  exact hK _ _ _ _ (hs.put hd hdn v) hst h
theorem ok_pass (hg : gd Γ ops o = some false) {dd : Nat} (hd : o.dst = some dd) (hdn : Nat.blt dd n = true) (h : K ((dd, undef) :: Γ) σ) : OpOK P n w0 D ops o K Γ σ := by
  refine ⟨fun a w hs hst Q K' hK => ?_⟩
  rw [if_neg (by rw [gd_spec hs hg]; simp)]
  exact hK _ _ _ _ (hs.put hd hdn undef) hst h

/-- values that hang on nothing but the temporaries -/
def pev (Γ : Tm) (o : Oper) : Option Value := match o.op with
  | .move x => ev Γ x
  | .assign x => ev Γ x
  | .pick c x y => match ev Γ c with | some (.bool true) => ev Γ x | some (.bool false) => ev Γ y | _ => none
  | .unOp .not _ x => match ev Γ x with | some (.bool b) => some (.bool (!b)) | _ => none
  | .extract x i => match ev Γ x with | some (.tuple vs) => vs[i]? | _ => none
  | .nilCheck x => match ev Γ x with | some (.pointer (some a)) => some (.pointer (some a)) | _ => none
  | _ => none
theorem val_pure {v : Value} (h : pev Γ o = some v) : ValOK P w0 D σ Γ o v := by
  refine ⟨fun w hst f hf => ?_⟩
  unfold pev at h
  split at h <;> rename_i hop
  · simp [execOp, hop, hf _ _ h]
  · simp [execOp, hop, hf _ _ h]
  · split at h
    · rename_i hc; simp [execOp, hop, hf _ _ hc, hf _ _ h, asBool]
    · rename_i hc; simp [execOp, hop, hf _ _ hc, hf _ _ h, asBool]
    · cases h
  · split at h
    · rename_i hc; simp at h; subst h; simp [execOp, hop, hf _ _ hc, Op.unary]
    · cases h
  · split at h
    · rename_i hc; simp [execOp, hop, hf _ _ hc, Instr.extract, h]
    · cases h
  · split at h
    · rename_i hc; simp at h; subst h; simp [execOp, hop, hf _ _ hc]
    · cases h
  · cases h
end
/-! ### pieces -/
/-- a block that is known whole -/
def blk (b : Nat) (cs : List Value) (t : TypeId) : Res where
  fp := [b]
  ok := fun w => w.heap[b]? = some (.cells cs.toArray t (0, 0))
  st := fun w w' h hw => (h b (by simp)).trans hw
def ownB (A : Option Addr) : List Nat := match A with | some a => [a.block] | none => []
theorem ownsRow_st {w w' : World} {e : TypeId} {s n : Nat} {A : Option Addr} {k c : Nat} {vs : List Value} (h : w.ownsRow 0 e s (.slice A k c) n vs) (hb : ∀ b ∈ ownB A, w'.heap[b]? = w.heap[b]?) : w'.ownsRow 0 e s (.slice A k c) n vs := by
  obtain ⟨h1, h2⟩ := h
  refine ⟨h1, ?_⟩
  rcases h2 with h2 | ⟨g, cap, cur, h2, h3, h4, h5⟩
  · exact .inl h2
  · refine .inr ⟨g, cap, cur, h2, h3, ?_, h5⟩
    have : A = some ⟨g, 0, none⟩ := by injection h2
    subst this
    rw [hb g (by simp [ownB])]; exact h4
/-- a slice of one-cell elements of the call's own: the list xs, written by f -/
def osl {α : Type} (e : TypeId) (f : α → Value) (A : Option Addr) (c : Nat) (xs : List α) : Res where
  fp := ownB A
  ok := fun w => w.ownsRow 0 e 1 (.slice A xs.length c) xs.length (xs.map f)
  st := fun w w' h hw => ownsRow_st hw h

def nth : List Value → Nat → Option Value
  | [], _ => none
  | v :: _, 0 => some v
  | _ :: l, k + 1 => nth l k
theorem nth_get : ∀ (l : List Value) (k : Nat), nth l k = l[k]?
  | [], _ => by simp [nth]
  | v :: _, 0 => by simp [nth]
  | _ :: l, k + 1 => by simpa [nth] using nth_get l k
/-- an int -/
def vi (x : Int) : Value := .int .i64 x
def vb (x : Bool) : Value := .bool x
def gt {α : Type} [Inhabited α] (xs : List α) (i : Int) : α := xs.getD i.toNat default

/-- 'pointer to element i' -/
def elA (A : Option Addr) (s : Nat) (i : Int) : Addr := (A.getD ⟨0, 0, none⟩).add (i.toNat * s)

/-- a slice that lies in old memory and reads as xs -/
def Rds {α : Type} (f : α → Value) (w : World) (A : Option Addr) (c : Nat) (xs : List α) : Prop :=
  xs.length ≤ c ∧ c ≤ 9223372036854775807 ∧ (0 < xs.length → ∃ ad, A = some ad ∧ ∀ j (h : j < xs.length), w.cell? (ad.add j) = some (f xs[j]))
def RdO {α : Type} (f : α → Value) (w0 : World) (D : List Nat) (A : Option Addr) (c : Nat) (xs : List α) : Prop := ∀ w, Only D w0 w → Rds f w A c xs
theorem Rds.only {α : Type} {f : α → Value} {w w' : World} {A : Option Addr} {c : Nat} {xs : List α} (h : Rds f w A c xs) (ho : Only [] w w') : Rds f w' A c xs :=
  ⟨h.1, h.2.1, fun hn => by
    obtain ⟨ad, e, hc⟩ := h.2.2 hn
    exact ⟨ad, e, fun j hj => (ho.to_below.cell (World.block_lt_of_cell? w _ (hc j hj))).trans (hc j hj)⟩⟩
theorem Rds.old {α : Type} {f : α → Value} {w : World} {A : Option Addr} {c : Nat} {xs : List α} (h : Rds f w A c xs) : RdO f w [] A c xs := fun _ ho => h.only ho
/-- old memory that is none of the blocks D -/
theorem Rds.oldD {α : Type} {f : α → Value} {w : World} {D : List Nat} {A : Option Addr} {c : Nat} {xs : List α} (h : Rds f w A c xs) (hD : ∀ ad, A = some ad → ad.block ∉ D) : RdO f w D A c xs := fun w' ho =>
  ⟨h.1, h.2.1, fun hn => by
    obtain ⟨ad, e, hc⟩ := h.2.2 hn
    refine ⟨ad, e, fun j hj => ?_⟩
    have hb : (ad.add j).block = ad.block := by unfold Addr.add; split <;> rfl
    exact (World.cell?_of_block (w := w) (ho.block _ (World.block_lt_of_cell? w _ (hc j hj)) (by rw [hb]; exact hD ad e))).trans (hc j hj)⟩
theorem Rds.len {α : Type} {f : α → Value} {w : World} {A : Option Addr} {c : Nat} {xs : List α} (h : Rds f w A c xs) : xs.length ≤ 9223372036854775807 := Nat.le_trans h.1 h.2.1
theorem RdO.now {α : Type} {f : α → Value} {w0 w : World} {D : List Nat} {σ : List Res} {A : Option Addr} {c : Nat} {xs : List α} (h : RdO f w0 D A c xs) (hst : St w0 D σ w) : Rds f w A c xs := h w hst.only
theorem osl_reads {α : Type} {e : TypeId} {f : α → Value} {A : Option Addr} {c : Nat} {xs : List α} {w : World} (h : (osl e f A c xs).ok w) : Rds f w A c xs := by
  have h0 : w.ownsRow 0 e 1 (.slice A xs.length c) xs.length (xs.map f) := h
  rcases h0.2 with ⟨h2, h3⟩ | ⟨g, cap, cur, h2, _, h4, h5, h6, h7, h8⟩
  · injection h2 with h4 h5 h6
    exact ⟨by omega, by omega, fun hn => absurd hn (by omega)⟩
  · injection h2 with e1 e2 e3
    subst e1 e3
    refine ⟨h5, by simpa [maxLen] using h6, fun hn => ⟨_, rfl, fun j hj => ?_⟩⟩
    exact h0.cells (g := g) rfl j _ (by simp [List.getElem?_eq_getElem hj])

section
variable {P : Program} {n : Nat} {w0 : World} {D : List Nat} {Γ : Tm} {σ : List Res} {ops : Array Oper} {o : Oper} {K : Tm → List Res → Prop}

/-! ### values -/
theorem val_field {t : TypeId} {x : Operand} {f k b i : Nat} (hop : o.op = .fieldAddr t x f) (hx : ev Γ x = some (.pointer (some ⟨b, i, none⟩))) (hk : fOff P t f = some k) :
    ValOK P w0 D σ Γ o (.pointer (some ⟨b, i + k, none⟩)) := by
  refine ⟨fun w hst g hg => ?_⟩
  simp [execOp, hop, hg _ _ hx, run_fieldAt hk, add_own]
/-- a cell that reads so in whatever state -/
theorem val_load {t : TypeId} {x : Operand} {ad : Addr} {v : Value} (hop : o.op = .load t x) (hx : ev Γ x = some (.pointer (some ad))) (ht : agg? P t = some false) (hv : ∀ w, St w0 D σ w → w.cell? ad = some v) :
    ValOK P w0 D σ Γ o v := by
  refine ⟨fun w hst g hg => ?_⟩
  simp [execOp, hop, hg _ _ hx, Instr.loadAt, Instr.sureAddr, loadVar, run_isAgg ht, hv w hst, Result.andThen]
/-- '&s[i]' -/
theorem val_index {t e : TypeId} {s : Nat} {x y : Operand} {A : Option Addr} {m c : Nat} {i : Int} {k : IntKind} (hop : o.op = .indexAddr t x y) (hx : ev Γ x = some (.slice A m c)) (hy : ev Γ y = some (.int k i)) (ht : elem? P t = some e) (hs : size? P e = some s)
    (h0 : 0 ≤ i) (h1 : i < m) (hA : ∃ ad, A = some ad) : ValOK P w0 D σ Γ o (.pointer (some (elA A s i))) := by
  refine ⟨fun w hst g hg => ?_⟩
  obtain ⟨ad, rfl⟩ := hA
  simp [execOp, hop, hg _ _ hx, hg _ _ hy, Instr.indexAt, run_underlying (elem?_spec ht), asIntOf, h0, h1, run_sizeOf' hs, Result.andThen, elA]
theorem Rds.some_ {α : Type} {f : α → Value} {w : World} {A : Option Addr} {c : Nat} {xs : List α} {i : Int} (h : Rds f w A c xs) (h0 : 0 ≤ i) (h1 : i < (xs.length : Int)) : ∃ ad, A = some ad := by
  obtain ⟨ad, e, _⟩ := h.2.2 (by omega)
  exact ⟨ad, e⟩
theorem Rds.cell {α : Type} [Inhabited α] {f : α → Value} {w : World} {A : Option Addr} {c : Nat} {xs : List α} {i : Int} (h : Rds f w A c xs) (h0 : 0 ≤ i) (h1 : i < (xs.length : Int)) : w.cell? (elA A 1 i) = some (f (gt xs i)) := by
  obtain ⟨ad, rfl, hc⟩ := h.2.2 (by omega)
  have hi : i.toNat < xs.length := by omega
  have := hc i.toNat hi
  simpa [elA, gt, List.getD_eq_getElem?_getD, List.getElem?_eq_getElem hi] using this

theorem val_makeFunc {fn : Fn} {first captured : Array Operand} {vs us : List Value} (hop : o.op = .makeFunc fn first captured) (h1 : first.toList.map (ev Γ) = vs.map some) (h2 : captured.toList.map (ev Γ) = us.map some) :
    ValOK P w0 D σ Γ o (.func fn vs.toArray us.toArray) := by
  refine ⟨fun w hst g hg => ?_⟩
  have key : ∀ (xs : List Operand) (vs : List Value), xs.map (ev Γ) = vs.map some → xs.map g = vs := by
    intro xs
    induction xs with
    | nil => intro vs h; cases vs with | nil => rfl | cons _ _ => simp at h
    | cons x xs ih =>
      intro vs h
      cases vs with
      | nil => simp at h
      | cons v vs =>
        simp only [List.map_cons, List.cons.injEq] at h ⊢
        exact ⟨hg _ _ h.1, ih vs h.2⟩
  have e1 : first.map g = vs.toArray := Array.toList_inj.1 (by rw [Array.toList_map]; exact key _ _ h1)
  have e2 : captured.map g = us.toArray := Array.toList_inj.1 (by rw [Array.toList_map]; exact key _ _ h2)
  simp [execOp, hop, e1, e2, Instr.makeFunc]

section arith
variable {t t2 : TypeId} {x y : Operand} {a b : Int}
theorem val_add (hop : o.op = .binOp .add t x y t2) (hx : ev Γ x = some (.int .i64 a)) (hy : ev Γ y = some (.int .i64 b)) (hr : -9223372036854775808 ≤ a + b ∧ a + b ≤ 9223372036854775807) : ValOK P w0 D σ Γ o (.int .i64 (a + b)) := by
  refine ⟨fun w hst g hg => ?_⟩
  have e := IntWalk.i64_in _ hr
  simp [execOp, hop, hg _ _ hx, hg _ _ hy, eqGuard, binOp, Op.intArith, Result.andThen, e]
theorem val_sub (hop : o.op = .binOp .sub t x y t2) (hx : ev Γ x = some (.int .i64 a)) (hy : ev Γ y = some (.int .i64 b)) (hr : -9223372036854775808 ≤ a - b ∧ a - b ≤ 9223372036854775807) : ValOK P w0 D σ Γ o (.int .i64 (a - b)) := by
  refine ⟨fun w hst g hg => ?_⟩
  have e := IntWalk.i64_in _ hr
  simp [execOp, hop, hg _ _ hx, hg _ _ hy, eqGuard, binOp, Op.intArith, Result.andThen, e]
theorem val_mul (hop : o.op = .binOp .mul t x y t2) (hx : ev Γ x = some (.int .i64 a)) (hy : ev Γ y = some (.int .i64 b)) (hr : -9223372036854775808 ≤ a * b ∧ a * b ≤ 9223372036854775807) : ValOK P w0 D σ Γ o (.int .i64 (a * b)) := by
  refine ⟨fun w hst g hg => ?_⟩
  have e := IntWalk.i64_in _ hr
  simp [execOp, hop, hg _ _ hx, hg _ _ hy, eqGuard, binOp, Op.intArith, Result.andThen, e]
/-- what a comparison of ints says -/
abbrev cmpP : BinOp → Int → Int → Prop
  | .eql, a, b => a = b
  | .neq, a, b => a ≠ b
  | .lss, a, b => a < b
  | .leq, a, b => a ≤ b
  | .gtr, a, b => b < a
  | .geq, a, b => b ≤ a
  | _, _, _ => False
def isCmp : BinOp → Bool
  | .eql | .neq | .lss | .leq | .gtr | .geq => true
  | _ => false
theorem val_cmp {op : BinOp} {k : IntKind} (hop : o.op = .binOp op t x y t2) (hc : isCmp op = true) (hx : ev Γ x = some (.int k a)) (hy : ev Γ y = some (.int k b)) {c : Bool} (hb : c = true ↔ cmpP op a b) : ValOK P w0 D σ Γ o (.bool c) := by
  refine ⟨fun w hst g hg => ?_⟩
  cases op <;> simp only [isCmp, reduceCtorEq] at hc <;> simp [execOp, hop, hg _ _ hx, hg _ _ hy, eqGuard, binOp, Op.intCmp, Result.andThen] <;>
    (simp only [cmpP] at hb; cases c <;> simp at hb ⊢ <;> omega)
theorem ok_cmp {op : BinOp} {k : IntKind} (hop : o.op = .binOp op t x y t2) (hc : isCmp op = true) (hx : ev Γ x = some (.int k a)) (hy : ev Γ y = some (.int k b)) (hg : gd Γ ops o = some true) {dd : Nat} (hd : o.dst = some dd) (hdn : Nat.blt dd n = true)
    (ht : cmpP op a b → K ((dd, .bool true) :: Γ) σ) (hf : ¬ cmpP op a b → K ((dd, .bool false) :: Γ) σ) : OpOK P n w0 D ops o K Γ σ := by
  by_cases h : cmpP op a b
  · exact ok_val hg hd hdn (val_cmp hop hc hx hy (by simp [h])) (ht h)
  · exact ok_val hg hd hdn (val_cmp hop hc hx hy (by simp [h])) (hf h)
/-- an or, an and, a test on a bool: part on it -/
theorem ok_part {b : Bool} (ht : b = true → OpOK P n w0 D ops o K Γ σ) (hf : b = false → OpOK P n w0 D ops o K Γ σ) : OpOK P n w0 D ops o K Γ σ := by
  cases b
  · exact hf rfl
  · exact ht rfl
end arith

theorem val_len {x : Operand} {t e : TypeId} {A : Option Addr} {m c : Nat} (hop : o.op = .call { callee := .builtin .len, args := #[x], argTypes := #[t] }) (hx : ev Γ x = some (.slice A m c)) (ht : elem? P t = some e) : ValOK P w0 D σ Γ o (.int .i64 m) := by
  refine ⟨fun w hst g hg => ?_⟩
  simp [execOp, hop, resolve, invoke, builtin, hg _ _ hx, Builtin.len_, run_underlying (elem?_spec ht), goInt, Result.andThen, Builtin.lenOf]
theorem val_build {t : TypeId} {parts : Array (Nat × Operand)} {ps : List (Nat × Value)} {cells : List Value} (hop : o.op = .build t parts) (hp : parts.toList.map (fun p => (p.1, ev Γ p.2)) = ps.map (fun p => (p.1, some p.2))) (hb : P.built t ps = some cells.toArray) :
    ValOK P w0 D σ Γ o (.agg cells.toArray) := by
  refine ⟨fun w hst g hg => ?_⟩
  have key : ∀ (xs : List (Nat × Operand)) (vs : List (Nat × Value)), xs.map (fun p => (p.1, ev Γ p.2)) = vs.map (fun p => (p.1, some p.2)) → xs.map (fun p => (p.1, g p.2)) = vs := by
    intro xs
    induction xs with
    | nil => intro vs h; cases vs with | nil => rfl | cons _ _ => simp at h
    | cons x xs ih =>
      intro vs h
      cases vs with
      | nil => simp at h
      | cons v vs =>
        simp only [List.map_cons, List.cons.injEq, Prod.mk.injEq] at h ⊢
        exact ⟨Prod.ext h.1.1 (hg _ _ h.1.2), ih vs h.2⟩
  have e1 : parts.map (fun p => (p.1, g p.2)) = ps.toArray := Array.toList_inj.1 (by rw [Array.toList_map]; exact key _ _ hp)
  have hr := run_build (P := P) w t ps.toArray cells.toArray (by simpa using hb)
  simp only [execOp, hop]
  rw [e1]
  simp [hr]
end
section
variable {P : Program} {n : Nat} {w0 : World} {D : List Nat} {Γ : Tm} {σ : List Res} {ops : Array Oper} {o : Oper} {K : Tm → List Res → Prop}

/-- an operation by its run -/
theorem ok_run (hg : gd Γ ops o = some true) {dd : Nat} (hd : o.dst = some dd) (hdn : Nat.blt dd n = true)
    (h : ∀ w, St w0 D σ w → ∀ f : Operand → Value, (∀ x u, ev Γ x = some u → f x = u) →
      ∃ v w' σ', (execOp f o).run P w = .ok (.value v) w' ∧ St w0 D σ' w' ∧ K ((dd, v) :: Γ) σ') : OpOK P n w0 D ops o K Γ σ := by
  refine ⟨fun a w hs hst Q K' hK => ?_⟩
  rw [if_pos (gd_spec hs hg)]
  unfold Oper.wp
  obtain ⟨v, w', σ', hr, hst', hk⟩ := h w hst a.eval (fun x u hx => hs.eval hx)
  rw [hr]
  exact hK _ _ _ _ (hs.put hd hdn v) hst' hk
theorem ok_skip (hg : gd Γ ops o = some true) (hd : o.dst = none)
    (h : ∀ w, St w0 D σ w → ∀ f : Operand → Value, (∀ x u, ev Γ x = some u → f x = u) →
      ∃ w' σ', (execOp f o).run P w = .ok .skip w' ∧ St w0 D σ' w' ∧ K Γ σ') : OpOK P n w0 D ops o K Γ σ := by
  refine ⟨fun a w hs hst Q K' hK => ?_⟩
  rw [if_pos (gd_spec hs hg)]
  unfold Oper.wp
  obtain ⟨w', σ', hr, hst', hk⟩ := h w hst a.eval (fun x u hx => hs.eval hx)
  rw [hr]
  simp only [Oper.upon, hd]
  exact hK _ _ _ _ hs hst' hk

theorem St.alloc {w : World} (h : St w0 D σ w) (cs : Array Value) (t : TypeId) : St w0 D (blk w.heap.size cs.toList t :: σ) (w.alloc (.cells cs t)) :=
  h.push (Only.alloc _ _ _) (blk w.heap.size cs.toList t) (by simpa [blk] using heap_alloc_new w _) (by simp [blk]) (by simp [blk])

theorem ok_alloc {t : TypeId} {z : Value} (hop : o.op = .alloc t) (hg : gd Γ ops o = some true) {dd : Nat} (hd : o.dst = some dd) (hdn : Nat.blt dd n = true) (hz : zero? P t = some z)
    (h : ∀ b, K ((dd, .pointer (some ⟨b, 0, none⟩)) :: Γ) (blk b z.cells.toList t :: σ)) : OpOK P n w0 D ops o K Γ σ :=
  ok_run hg hd hdn fun w hst f hf => ⟨_, w.alloc (.cells z.cells t), _, by simp [execOp, hop, Instr.alloc, run_zeroValue' hz, newVar, newRow, Result.andThen, newObj]; rfl, hst.alloc _ _, h _⟩
theorem ok_box {t : TypeId} {x : Operand} {v : Value} (hop : o.op = .box t x) (hx : ev Γ x = some v) (hg : gd Γ ops o = some true) {dd : Nat} (hd : o.dst = some dd) (hdn : Nat.blt dd n = true)
    (h : ∀ b, K ((dd, .pointer (some ⟨b, 0, none⟩)) :: Γ) (blk b v.cells.toList t :: σ)) : OpOK P n w0 D ops o K Γ σ :=
  ok_run hg hd hdn fun w hst f hf => ⟨_, w.alloc (.cells v.cells t), _, by simp [execOp, hop, hf _ _ hx, Instr.box, newVar, newRow, Result.andThen, newObj]; rfl, hst.alloc _ _, h _⟩
theorem ok_makeMap0 {t : TypeId} (hop : o.op = .makeMap t none) (hg : gd Γ ops o = some true) {dd : Nat} (hd : o.dst = some dd) (hdn : Nat.blt dd n = true) (r : Nat → Res) (hr : ∀ b, (r b).fp = [b]) (hok : ∀ w : World, (r w.heap.size).ok (w.alloc (.map #[] 0)))
    (h : ∀ b, K ((dd, .map (some b)) :: Γ) (r b :: σ)) : OpOK P n w0 D ops o K Γ σ :=
  ok_run hg hd hdn fun w hst f hf => ⟨_, w.alloc (.map #[] 0), _, by simp [execOp, hop, run_makeMap], hst.push (Only.alloc _ _ _) (r w.heap.size) (hok w) (by rw [hr]; simp) (by rw [hr]; simp), h _⟩

theorem Only.setRow {D : List Nat} (w : World) {b : Nat} (hb : b ∈ D) (cs : Array Value) : Only D w (w.setRow b cs) :=
  ⟨rfl, rfl, rfl, by simp [World.setRow], fun c hc hD => by
    have hne : b ≠ c := fun e => hD (e ▸ hb)
    simp [World.setRow, Array.getElem?_modify, hne]⟩
theorem St.setBlk {w : World} (hst : St w0 D σ w) (i : Nat) {b : Nat} {cs cs' : List Value} {t : TypeId} (hi : σ[i]? = some (blk b cs t)) : St w0 D (σ.set i (blk b cs' t)) (w.setRow b cs'.toArray) := by
  have hb : w.heap[b]? = some (.cells cs.toArray t (0, 0)) := hst.at_ i hi
  refine hst.set_ i hi (Only.setRow w (by simp [blk]) _) ?_ ?_ (by simp [blk])
  · show (w.setRow b cs'.toArray).heap[b]? = _
    simp [World.setRow, Array.getElem?_modify, hb]
  · intro c hc'
    simp [blk] at hc'
    subst hc'
    refine ⟨.inl (by simp [blk]), ?_⟩
    have := hst.lt _ (List.mem_of_getElem? hi) c (by simp [blk])
    simpa [World.setRow] using this
/-- what a block holds behind a store -/
def splice (cs : List Value) (k : Nat) (vs : List Value) : List Value := cs.take k ++ vs ++ cs.drop (k + vs.length)
/-- a store into a block that we know -/
theorem ok_store (i : Nat) {t t' : TypeId} {x y : Operand} {b k : Nat} {cs : List Value} {v : Value} {vs : List Value} (hop : o.op = .store t x y) (hx : ev Γ x = some (.pointer (some ⟨b, k, none⟩))) (hy : ev Γ y = some v) (hi : σ[i]? = some (blk b cs t'))
    (hg : gd Γ ops o = some true) (hd : o.dst = none) (hvs : v.cells.toList = vs) (hv : vs.all (·.oneCell') = true) (hs : size? P t = some vs.length) (hk : Nat.ble (k + vs.length) cs.length = true) (h : K Γ (σ.set i (blk b (splice cs k vs) t'))) : OpOK P n w0 D ops o K Γ σ :=
  ok_skip hg hd fun w hst f hf => by
    have hk := Nat.le_of_ble_eq_true hk
    have hb : w.heap[b]? = some (.cells cs.toArray t' (0, 0)) := hst.at_ i hi
    refine ⟨w.setRow b (splice cs k vs).toArray, _, ?_, hst.setBlk i hi, h⟩
    have hr := run_storeCells_at (P := P) b k t' vs 0 cs.toArray w hb (by simpa using hk) (by simpa using hv)
    have hn : v.cells.size = vs.length := by rw [← hvs]; simp
    simp [execOp, hop, hf _ _ hx, hf _ _ hy, Instr.storeAt, Instr.sureAddr, storeVar, run_sizeOf' hs, Result.andThen, hn, hvs, hr, splice]

/-! ### rows of the call's own -/
theorem St.pushRow {w : World} (h : St w0 D σ w) {α : Type} (e : TypeId) (f : α → Value) (xs : List α) (cs : Array Value) (hc : cs.size ≤ maxLen) (hl : xs.length ≤ cs.size) (hcs : cs.toList.take xs.length = xs.map f) :
    St w0 D (osl e f (some ⟨w.heap.size, 0, none⟩) cs.size xs :: σ) (w.alloc (.cells cs e)) := by
  refine h.push (Only.alloc _ _ _) _ ?_ (by simp [osl, ownB]) (by simp [osl, ownB])
  exact ⟨by simp, .inr ⟨w.heap.size, cs.size, cs, rfl, Nat.zero_le _, heap_alloc_new w _, hl, hc, by simp, by simpa using hcs⟩⟩
theorem ok_buildSlice {α : Type} (f : α → Value) (xs : List α) {t e : TypeId} {len : Nat} {parts : Array (Nat × Operand)} {ps : List (Nat × Value)} {z : Value} (hop : o.op = .buildSlice t len parts) (hp : parts.toList.map (fun p => (p.1, ev Γ p.2)) = ps.map (fun p => (p.1, some p.2)))
    (hg : gd Γ ops o = some true) {dd : Nat} (hd : o.dst = some dd) (hdn : Nat.blt dd n = true) (ht : elem? P t = some e) (hz : zero? P e = some z) (hs : size? P e = some 1) (hlen : xs.length = len) (hpos : 0 < len) (hsmall : len ≤ 1024)
    (hf : Instr.fill (fun i => some (i * 1, 1)) ((Array.range (len * 1)).map (z.cells[· % z.cells.size]!)) ps = some (xs.map f).toArray)
    (h : ∀ b, K ((dd, .slice (some ⟨b, 0, none⟩) xs.length xs.length) :: Γ) (osl e f (some ⟨b, 0, none⟩) xs.length xs :: σ)) : OpOK P n w0 D ops o K Γ σ :=
  ok_run hg hd hdn fun w hst g hgf => by
    have key : ∀ (xs : List (Nat × Operand)) (vs : List (Nat × Value)), xs.map (fun p => (p.1, ev Γ p.2)) = vs.map (fun p => (p.1, some p.2)) → xs.map (fun p => (p.1, g p.2)) = vs := by
      intro xs
      induction xs with
      | nil => intro vs h; cases vs with | nil => rfl | cons _ _ => simp at h
      | cons x xs ih =>
        intro vs h
        cases vs with
        | nil => simp at h
        | cons v vs =>
          simp only [List.map_cons, List.cons.injEq, Prod.mk.injEq] at h ⊢
          exact ⟨Prod.ext h.1.1 (hgf _ _ h.1.2), ih vs h.2⟩
    have e1 : parts.map (fun p => (p.1, g p.2)) = ps.toArray := Array.toList_inj.1 (by rw [Array.toList_map]; exact key _ _ hp)
    unfold zero? at hz
    unfold size? at hs
    cases hi : P.info? e with
    | none => rw [hi] at hz; cases hz
    | some ie =>
      rw [hi] at hz hs
      simp only [Option.bind_some, Option.map_some, Option.some.injEq] at hz hs
      have hr := run_buildSlice (P := P) w t e len ps.toArray (xs.map f).toArray ie z (elem?_spec ht) hi hz (by rw [hs]; simp; omega) (by rw [hs]; omega) (by rw [hs]; simpa using hf)
      have hp := hst.pushRow e f xs (xs.map f).toArray (by simp [maxLen]; omega) (by simp) (by simp [List.take_of_length_le])
      simp only [List.size_toArray, List.length_map] at hp
      refine ⟨_, w.alloc (.cells (xs.map f).toArray e), _, ?_, hp, h _⟩
      simp only [execOp, hop]
      rw [e1]
      simp [hr, hlen]
theorem madeCells_one (z : Value) (m : Nat) : madeCells #[z] m = (List.replicate m z).toArray := by
  apply Array.ext
  · simp [madeCells]
  · intro i h1 h2
    simp [madeCells, Nat.mod_one]
theorem ok_makeSlice {α : Type} (f : α → Value) (z : α) {t e : TypeId} {x y : Operand} {l c : Int} {bytes : Nat} (hop : o.op = .makeSlice t x y) (hx : ev Γ x = some (.int .i64 l)) (hy : ev Γ y = some (.int .i64 c))
    (hg : gd Γ ops o = some true) {dd : Nat} (hd : o.dst = some dd) (hdn : Nat.blt dd n = true) (ht : elem? P t = some e) (hz : zero? P e = some (f z)) (hz1 : (f z).cells = #[f z]) (hs : size? P e = some 1) (hb : bytes? P e = some bytes)
    (h0 : 0 ≤ l) (hlc : l ≤ c) (hcb : (bytes : Int) * c ≤ 281474976710656) (hc : c ≤ 281474976710656)
    (h : ∀ b, K ((dd, .slice (some ⟨b, 0, none⟩) (List.replicate l.toNat z).length c.toNat) :: Γ) (osl e f (some ⟨b, 0, none⟩) c.toNat (List.replicate l.toNat z) :: σ)) : OpOK P n w0 D ops o K Γ σ :=
  ok_run hg hd hdn fun w hst g hgf => by
    unfold zero? at hz
    unfold size? at hs
    unfold bytes? at hb
    cases hi : P.info? e with
    | none => rw [hi] at hz; cases hz
    | some ie =>
      rw [hi] at hz hs hb
      simp only [Option.bind_some, Option.map_some, Option.some.injEq] at hz hs hb
      have hr := run_make (P := P) w t e ie (f z) (elem?_spec ht) hi hz .i64 .i64 l c h0 hlc (by rw [hb]; exact hcb) (by omega)
      rw [hs, hz1, Nat.mul_one] at hr
      have hp := hst.pushRow e f (List.replicate l.toNat z) (madeCells #[f z] c.toNat) (by simp [size_madeCells, maxLen]; omega) (by simp [size_madeCells]; omega) (by rw [madeCells_one]; simp; omega)
      rw [size_madeCells] at hp
      refine ⟨.slice (some ⟨w.heap.size, 0, none⟩) l.toNat c.toNat, w.alloc (.cells (madeCells #[f z] c.toNat) e), _, ?_, hp, by have := h w.heap.size; rwa [List.length_replicate] at this⟩
      simp [execOp, hop, hgf _ _ hx, hgf _ _ hy, hr]

/-- append(s, x): s a row of the call's own, x a slice that reads so -/
theorem ok_append (i : Nat) {α : Type} (f : α → Value) {t e : TypeId} {x y : Operand} {A B : Option Addr} {c d : Nat} {xs ys : List α} {z : Value} {bytes : Nat} (hop : o.op = .call { callee := .builtin .append, args := #[x, y], argTypes := #[t, t] })
    (hx : ev Γ x = some (.slice A xs.length c)) (hy : ev Γ y = some (.slice B ys.length d)) (hi : σ[i]? = some (osl e f A c xs)) (hg : gd Γ ops o = some true) {dd : Nat} (hd : o.dst = some dd) (hdn : Nat.blt dd n = true)
    (ht : elem? P t = some e) (hz : zero? P e = some z) (hz1 : z.cells.size = 1) (hs : size? P e = some 1) (hb : bytes? P e = some bytes) (hB : ∃ ad, B = some ad) (hys : ∀ w, St w0 D σ w → Rds f w B d ys) (h1 : ∀ v, (f v).oneCell' = true)
    (hl : xs.length + ys.length ≤ 9223372036854775807) (hbytes : (xs.length + ys.length) * bytes ≤ 140737488355328)
    (h : ∀ A' c', K ((dd, .slice A' (xs ++ ys).length c') :: Γ) (σ.set i (osl e f A' c' (xs ++ ys)))) : OpOK P n w0 D ops o K Γ σ :=
  ok_run hg hd hdn fun w hst g hgf => by
    unfold zero? at hz
    unfold size? at hs
    unfold bytes? at hb
    obtain ⟨ad, rfl⟩ := hB
    cases hie : P.info? e with
    | none => rw [hie] at hz; cases hz
    | some ie =>
      rw [hie] at hz hs hb
      simp only [Option.bind_some, Option.map_some, Option.some.injEq] at hz hs hb
      have hown : w.ownsRow 0 e 1 (.slice A xs.length c) xs.length (xs.map f) := hst.at_ i hi
      have hrd := hys w hst
      have hcells : ∀ j u, (ys.map f)[j]? = some u → w.cell? (ad.add j) = some u := by
        intro j u hu
        have hj : j < ys.length := by have := (List.getElem?_eq_some_iff.1 hu).1; simpa using this
        obtain ⟨ad', e1, hc⟩ := hrd.2.2 (by omega)
        obtain rfl : ad = ad' := by simpa using e1
        rw [hc j hj]
        simpa [List.getElem?_eq_getElem hj] using hu
      obtain ⟨v', w', hr, hown', hgrow, hnil, hat⟩ := run_append_own_at (P := P) w 0 t o.type e ie z 1 bytes (elem?_spec ht) hie hz hs hb hz1 (by omega) (.slice A xs.length c) xs.length (xs.map f) hown ad ys.length d (ys.map f) (by simp) hcells (by simpa using fun a _ => h1 a) (by simpa [maxLen] using hl) hbytes (Nat.zero_le _)
      have hv : ∃ A' c', v' = .slice A' (xs ++ ys).length c' := by
        rcases hown'.2 with ⟨h2, h3⟩ | ⟨g', cap, cur, h2, _⟩
        · exact ⟨none, 0, by rw [h2, List.length_append, h3]⟩
        · exact ⟨_, cap, by rw [h2, List.length_append]⟩
      obtain ⟨A', c', rfl⟩ := hv
      refine ⟨.slice A' (xs ++ ys).length c', w', _, ?_, hst.set_ i hi (Only.grown hgrow ?_) (by show w'.ownsRow _ _ _ _ _ _; rw [List.map_append, List.length_append]; rw [List.length_append] at hown'; exact hown') ?_ ?_, h A' c'⟩
      · simp [execOp, hop, resolve, invoke, builtin, hgf _ _ hx, hgf _ _ hy, hr, Result.andThen]
      · intro b hb'
        cases A with
        | none => simp [Value.ownBlock] at hb'
        | some a => simp [Value.ownBlock] at hb'; simp [osl, ownB, hb']
      · intro b hb'
        cases A' with
        | none => simp [osl, ownB] at hb'
        | some a' =>
          simp [osl, ownB] at hb'
          subst hb'
          have hlt := (hown'.lt a'.block rfl).2
          refine ⟨?_, hlt⟩
          rcases hat with hat | hat
          · cases A with
            | none => simp [Value.ownBlock] at hat
            | some a => simp [Value.ownBlock] at hat; exact .inl (by simp [osl, ownB, hat])
          · simp [Value.ownBlock] at hat; exact .inr (by omega)
      · cases A' <;> simp [osl, ownB]

def spliceA (cs : Array Value) (k : Nat) (vs : List Value) : Array Value := (cs.toList.take k ++ vs ++ cs.toList.drop (k + vs.length)).toArray
/-- s[i] = v in a row of the call's own: the pointer is &s[i] -/
theorem ok_storeRow (i : Nat) {α : Type} (f : α → Value) {t e : TypeId} {x y : Operand} {A : Option Addr} {c : Nat} {xs : List α} {j : Int} {v : α} (hop : o.op = .store t x y)
    (hx : ev Γ x = some (.pointer (some (elA A 1 j)))) (hy : ev Γ y = some (f v)) (hi : σ[i]? = some (osl e f A c xs)) (hg : gd Γ ops o = some true) (hd : o.dst = none) (hv : (f v).oneCell' = true) (hs : size? P t = some 1)
    (h0 : 0 ≤ j) (h1 : j < xs.length) (h : K Γ (σ.set i (osl e f A c (xs.set j.toNat v)))) : OpOK P n w0 D ops o K Γ σ :=
  ok_skip hg hd fun w hst g hgf => by
    have hown : w.ownsRow 0 e 1 (.slice A xs.length c) xs.length (xs.map f) := hst.at_ i hi
    rcases hown.2 with ⟨h2, h3⟩ | ⟨gb, cap, cur, h2, h3, hb, h5, h6, h7, h8⟩
    · omega
    · injection h2 with e1 e2 e3
      subst e1 e3
      have hj : j.toNat < cur.size := by omega
      have hc : w.cell? ⟨gb, j.toNat, none⟩ = some cur[j.toNat] := by simp [World.cell?, hb, hj]
      have hfz : w.frozen? ⟨gb, j.toNat, none⟩ = false := by simp [World.frozen?, hb]
      have hcells : (f v).cells = #[f v] := by
        generalize f v = u at hv
        cases u <;> simp [Value.oneCell'] at hv <;> rfl
      have hr := run_storeCells_at (P := P) gb j.toNat e [f v] 0 cur w hb (by simp; omega) (by simpa using hv)
      refine ⟨w.setRow gb (spliceA cur j.toNat [f v]), _, ?_, hst.set_ i hi (Only.setRow w (by simp [osl, ownB]) _) ?_ ?_ (by simp [osl, ownB]), h⟩
      · simp [elA, add_own] at hx
        simp [execOp, hop, hgf _ _ hx, hgf _ _ hy, Instr.storeAt, Instr.sureAddr, storeVar, run_sizeOf' hs, Result.andThen, hcells, hr, spliceA]
      · refine ⟨by simp, .inr ⟨gb, c, spliceA cur j.toNat [f v], by simp, Nat.zero_le _, by simp [World.setRow, Array.getElem?_modify, hb], by simpa using h5, h6, ?_, ?_⟩⟩
        · simp [spliceA]; omega
        · simp only [spliceA, Nat.mul_one, List.length_set, List.length_singleton]
          rw [Nat.mul_one] at h8
          have hsp : cur.toList.take j.toNat ++ [f v] ++ cur.toList.drop (j.toNat + 1) = cur.toList.set j.toNat (f v) := by
            rw [List.set_eq_take_append_cons_drop]; simp [hj]
          rw [hsp, List.take_set, h8, List.map_set]
      · intro b hb'
        simp [osl, ownB] at hb'
        subst hb'
        refine ⟨.inl (by simp [osl, ownB]), ?_⟩
        have := hst.lt _ (List.mem_of_getElem? hi) b (by simp [osl, ownB])
        simpa [World.setRow] using this
end
/-! ### what a call says -/
/-- pieces that are there, apart -/
structure Own (σ : List Res) (w : World) : Prop where
  ok : ∀ r ∈ σ, r.ok w
  lt : ∀ r ∈ σ, ∀ b ∈ r.fp, b < w.heap.size
  nd : (σ.flatMap Res.fp).Nodup
theorem Own.nil (w : World) : Own [] w := ⟨by simp, by simp, by simp⟩
theorem Own.st {σ : List Res} {w : World} (h : Own σ w) : St w (σ.flatMap Res.fp) σ w :=
  ⟨Only.refl _ _, h.ok, h.lt, fun r hr b hb => .inl (List.mem_flatMap.2 ⟨r, hr, hb⟩), h.nd⟩
theorem St.own {w0 w : World} {D : List Nat} {σ : List Res} (h : St w0 D σ w) : Own σ w := ⟨h.ok, h.lt, h.nd⟩
theorem St.ownl {w0 w : World} {D : List Nat} {σ1 σ2 : List Res} (h : St w0 D (σ1 ++ σ2) w) : Own σ1 w :=
  ⟨fun r hr => h.ok r (List.mem_append_left _ hr), fun r hr => h.lt r (List.mem_append_left _ hr), by
    have := h.nd
    rw [List.flatMap_append, List.nodup_append] at this
    exact this.1⟩
/-- it returns vf x, for some x of which φ holds; the pieces σ1 have become ρ x; all else is as it was -/
def Ret {α : Type} (σ1 : List Res) (vf : α → Value) (ρ : α → List Res) (φ : α → Prop) (w : World) : Ending → World → Prop := fun e w' =>
  ∃ x, e = .returned (vf x) ∧ φ x ∧ Only (σ1.flatMap Res.fp) w w' ∧ (∀ r ∈ ρ x, r.ok w') ∧ (∀ b ∈ (ρ x).flatMap Res.fp, (b ∈ σ1.flatMap Res.fp ∨ w.heap.size ≤ b) ∧ b < w'.heap.size) ∧ ((ρ x).flatMap Res.fp).Nodup

/-- it returns v, and all is as it was -/
def one (v : Value) (w : World) : Ending → World → Prop := Ret [] (fun _ : Unit => v) (fun _ => []) (fun _ => True) w
section
variable {P : Program} {n : Nat} {w0 : World} {D : List Nat} {Γ : Tm} {σ : List Res} {ops : Array Oper} {o : Oper} {K : Tm → List Res → Prop}

/-- is it a function with a body? -/
def bodied (P : Program) (f : FuncId) : Bool := match P.funcs[f]? with | some fn => fn.body.isSome && (fn.name != "runtime.NumGoroutine") | none => false
theorem run_callFunc {f : FuncId} (h : bodied P f = true) (args : Array Value) (w : World) : (callFunc f args).run P w = .ok (.enter f args) w := by
  unfold bodied at h
  cases hf : P.funcs[f]? with
  | none => rw [hf] at h; cases h
  | some fn =>
    rw [hf] at h
    simp only [Bool.and_eq_true] at h
    have h2 : (fn.name == "runtime.NumGoroutine") = false := by have := h.2; simpa [bne] using this
    have h1 : fn.body.isNone = false := by cases hb : fn.body <;> simp [hb] at h ⊢
    have h3 : ¬ fn.name = "runtime.NumGoroutine" := by simpa using h2
    have h4 : ¬ fn.body = none := by intro e; rw [e] at h1; cases h1
    simp [callFunc, hf, h3, h4]
theorem args_map {f : Operand → Value} (hf : ∀ x u, ev Γ x = some u → f x = u) : ∀ (xs : List Operand) (vs : List Value), xs.map (ev Γ) = vs.map some → xs.map f = vs := by
  intro xs
  induction xs with
  | nil => intro vs h; cases vs with | nil => rfl | cons _ _ => simp at h
  | cons x xs ih =>
    intro vs h
    cases vs with
    | nil => simp at h
    | cons v vs =>
      simp only [List.map_cons, List.cons.injEq] at h ⊢
      exact ⟨hf _ _ h.1, ih vs h.2⟩
/-- a call of a function by its name; the first m pieces are handed in -/
theorem ok_call {α : Type} (σ1 σ2 : List Res) {f : FuncId} {args : Array Operand} {tys : Array TypeId} {vs : List Value} {vf : α → Value} {ρ : α → List Res} {φ : α → Prop} (hop : o.op = .call { callee := .value (.func f), args := args, argTypes := tys })
    (ha : args.toList.map (ev Γ) = vs.map some) (hb : bodied P f = true) (hg : gd Γ ops o = some true) {dd : Nat} (hd : o.dst = some dd) (hdn : Nat.blt dd n = true) (hσ : (σ1 ++ σ2).Perm σ)
    (hc : ∀ w, St w0 D σ w → Calls P f vs.toArray w (Ret σ1 vf ρ φ w)) (h : ∀ x, φ x → K ((dd, vf x) :: Γ) (ρ x ++ σ2)) : OpOK P n w0 D ops o K Γ σ := by
  refine ⟨fun a w hs hst Q K' hK => ?_⟩
  rw [if_pos (gd_spec hs hg)]
  unfold Oper.wp
  have e1 : args.map a.eval = vs.toArray := Array.toList_inj.1 (by rw [Array.toList_map]; exact args_map (fun x u hx => hs.eval hx) _ _ ha)
  have hr : (execOp a.eval o).run P w = .ok (.enter f vs.toArray) w := by
    simp only [execOp, hop, resolve, e1]
    simp [Act.eval, Deferred.ofValue, invoke, run_callFunc hb, Result.andThen]
  rw [hr]
  simp only [Oper.upon]
  refine (hc w hst).mono ?_
  rintro e w' ⟨x, rfl, hφ, ho, hok, hfp, hnd⟩
  exact hK _ _ _ _ (hs.put hd hdn _) ((hst.perm hσ).turn ho hok hfp hnd) (h x hφ)
/-- a call of a function value -/
theorem ok_callv {α : Type} (σ1 σ2 : List Res) {g : Operand} {f : FuncId} {first captured : List Value} {args : Array Operand} {tys : Array TypeId} {vs : List Value} {vf : α → Value} {ρ : α → List Res} {φ : α → Prop} (hop : o.op = .call { callee := .value g, args := args, argTypes := tys })
    (hgv : ev Γ g = some (.func (.func f) first.toArray captured.toArray)) (ha : args.toList.map (ev Γ) = vs.map some) (hb : bodied P f = true) (hg : gd Γ ops o = some true) {dd : Nat} (hd : o.dst = some dd) (hdn : Nat.blt dd n = true) (hσ : (σ1 ++ σ2).Perm σ)
    (hc : ∀ w, St w0 D σ w → Calls P f (first ++ vs ++ captured).toArray w (Ret σ1 vf ρ φ w)) (h : ∀ x, φ x → K ((dd, vf x) :: Γ) (ρ x ++ σ2)) : OpOK P n w0 D ops o K Γ σ := by
  refine ⟨fun a w hs hst Q K' hK => ?_⟩
  rw [if_pos (gd_spec hs hg)]
  unfold Oper.wp
  have e1 : args.map a.eval = vs.toArray := Array.toList_inj.1 (by rw [Array.toList_map]; exact args_map (fun x u hx => hs.eval hx) _ _ ha)
  have hr : (execOp a.eval o).run P w = .ok (.enter f (first ++ vs ++ captured).toArray) w := by
    simp only [execOp, hop, resolve, e1, hs.eval hgv]
    simp [Deferred.ofValue, invoke, run_callFunc hb, Result.andThen]
  rw [hr]
  simp only [Oper.upon]
  refine (hc w hst).mono ?_
  rintro e w' ⟨x, rfl, hφ, ho, hok, hfp, hnd⟩
  exact hK _ _ _ _ (hs.put hd hdn _) ((hst.perm hσ).turn ho hok hfp hnd) (h x hφ)

/-- a call that yields one value and leaves all as it was -/
theorem ok_call1 {f : FuncId} {args : Array Operand} {tys : Array TypeId} {vs : List Value} {v : Value} (hc : ∀ w, St w0 D σ w → Calls P f vs.toArray w (one v w)) (hop : o.op = .call { callee := .value (.func f), args := args, argTypes := tys })
    (ha : args.toList.map (ev Γ) = vs.map some) (hb : bodied P f = true) (hg : gd Γ ops o = some true) {dd : Nat} (hd : o.dst = some dd) (hdn : Nat.blt dd n = true) (h : K ((dd, v) :: Γ) σ) : OpOK P n w0 D ops o K Γ σ :=
  ok_call [] σ hop ha hb hg hd hdn (List.Perm.refl _) hc (fun _ _ => h)

/-! ### results -/
/-- a result variable holds v -/
def RV (P : Program) (n : Nat) (w0 : World) (D : List Nat) (Γ : Tm) (σ : List Res) (r : ResultVar) (v : Value) : Prop :=
  ∀ (a : Act) (w : World), Sees n a Γ → St w0 D σ w → (match r with | .tmp t => (pure (a.tmps.getD t undef) : Sem Value) | .cell b t => do loadVar t (← asAddr (a.tmps.getD b undef))).run P w = .ok v w
theorem rv_tmp {t : Tmp} {v : Value} (h : look Γ t = some v) : RV P n w0 D Γ σ (.tmp t) v := by
  intro a w hs hst
  simp [hs.get t v h]
theorem rv_agg (i : Nat) {t t' : TypeId} {d b m : Nat} {cs vs : List Value} (hx : look Γ d = some (.pointer (some ⟨b, 0, none⟩))) (hi : σ[i]? = some (blk b cs t')) (ht : agg? P t = some true) (hm : size? P t = some m) (hv : cs = vs) (hl : vs.length = m) :
    RV P n w0 D Γ σ (.cell d t) (.agg vs.toArray) := by
  intro a w hs hst
  have hb : w.heap[b]? = some (.cells cs.toArray t' (0, 0)) := hst.at_ i hi
  have hc : (loadCells ⟨b, 0, none⟩ vs.length).run P w = .ok vs.toArray w := by
    refine run_loadCells_list _ _ vs (fun j v hj => ?_)
    rw [add_own]
    simp only [World.cell?, hb]
    subst hv
    simpa using hj
  rw [hl] at hc
  simp [hs.get d _ hx, asAddr, loadVar, run_isAgg ht, run_sizeOf' hm, hc, Result.andThen]
theorem rv_cell (i : Nat) {t t' : TypeId} {d b : Nat} {cs : List Value} {v : Value} (hx : look Γ d = some (.pointer (some ⟨b, 0, none⟩))) (hi : σ[i]? = some (blk b cs t')) (ht : agg? P t = some false) (hv : nth cs 0 = some v) :
    RV P n w0 D Γ σ (.cell d t) v := by
  intro a w hs hst
  have hb : w.heap[b]? = some (.cells cs.toArray t' (0, 0)) := hst.at_ i hi
  have hc : w.cell? ⟨b, 0, none⟩ = some v := by rw [nth_get] at hv; simp [World.cell?, hb, hv]
  simp [hs.get d _ hx, asAddr, loadVar, run_isAgg ht, hc, Result.andThen]
/-- all results -/
inductive RVs (P : Program) (n : Nat) (w0 : World) (D : List Nat) (Γ : Tm) (σ : List Res) : List ResultVar → List Value → Prop where
  | nil : RVs P n w0 D Γ σ [] []
  | cons {r : ResultVar} {v : Value} {rs : List ResultVar} {vs : List Value} : RV P n w0 D Γ σ r v → RVs P n w0 D Γ σ rs vs → RVs P n w0 D Γ σ (r :: rs) (v :: vs)
def packed (vs : List Value) : Value := match vs with | [v] => v | vs => .tuple vs.toArray
/-- one result, as the model reads it -/
def resv (tmps : Array Value) : ResultVar → Sem Value
  | .tmp t => pure (tmps.getD t undef)
  | .cell b t => do loadVar t (← asAddr (tmps.getD b undef))
theorem RVs.run {rs : List ResultVar} {vs : List Value} (h : RVs P n w0 D Γ σ rs vs) (a : Act) (w : World) (hs : Sees n a Γ) (hst : St w0 D σ w) :
    (rs.mapM (resv a.tmps)).run P w = .ok vs w := by
  induction h with
  | nil => simp
  | @cons r v rs vs h1 _ ih =>
    rw [List.mapM_cons]
    have h2 : (resv a.tmps r).run P w = .ok v w := by
      have := h1 a w hs hst
      cases r <;> exact this
    simp only [Sem.run_bind, h2, Result.andThen_ok, ih, Sem.run_pure]
theorem run_results {fn : Func} {rs : List ResultVar} {vs : List Value} (hf : fn.results.toList = rs) (h : RVs P n w0 D Γ σ rs vs) (a : Act) (w : World) (hs : Sees n a Γ) (hst : St w0 D σ w) : (results fn a.tmps).run P w = .ok (packed vs) w := by
  have hr := h.run a w hs hst
  have e : results fn a.tmps = (do let vs ← fn.results.mapM (resv a.tmps); pure (if h : vs.size = 1 then vs[0] else .tuple vs)) := by
    unfold results
    congr 1
  rw [e, Array.mapM_eq_mapM_toList, hf]
  have e2 : (List.toArray <$> rs.mapM (resv a.tmps)).run P w = .ok vs.toArray w := by
    rw [map_eq_pure_bind]
    simp only [Sem.run_bind, hr, Result.andThen_ok, Sem.run_pure]
  simp only [Sem.run_bind, e2, Result.andThen_ok, Sem.run_pure, Result.ok.injEq, and_true]
  unfold packed
  rcases vs with _ | ⟨v, _ | ⟨v', vs⟩⟩ <;> simp

/-- the arguments as temporaries -/
def argsT : Nat → List Value → Tm
  | _, [] => []
  | k, v :: vs => (k, v) :: argsT (k + 1) vs
theorem argsT_look : ∀ (vs : List Value) (k i : Nat) (v : Value), look (argsT k vs) i = some v → k ≤ i ∧ vs[i - k]? = some v
  | [], _, _, _, h => by simp [argsT, look] at h
  | u :: vs, k, i, v, h => by
    unfold argsT look at h
    cases hb : Nat.beq k i
    · simp only [hb, cond_false] at h
      obtain ⟨h1, h2⟩ := argsT_look vs (k + 1) i v h
      refine ⟨by omega, ?_⟩
      rw [show i - k = (i - (k + 1)) + 1 by omega]
      simpa using h2
    · simp only [hb, cond_true, Option.some.injEq] at h
      obtain rfl := Nat.eq_of_beq_eq_true hb
      exact ⟨Nat.le_refl _, by simp [h]⟩
/-- an append that stays as it is -/
def cat (a b : List Res) : List Res := a ++ b
/-- a function from its body -/
theorem calls_wc {α : Type} {f : FuncId} {fn : Func} {c : Code} {vs : List Value} {w : World} (D : List Nat) (σ1 : List Res) {vf : α → Value} {ρ : α → List Res} {φ : α → Prop} (rs : List ResultVar) (vsf : α → List Value)
    (hf : P.funcs[f]? = some fn) (hb : fn.body = some c) (hr : fn.results.toList = rs) (hvf : ∀ x, vf x = packed (vsf x)) (hn : fn.ntmps = n) (hl : Nat.ble vs.length n = true) (hown : Own σ1 w) (hD : σ1.flatMap Res.fp = D)
    (h : WC P n w D c (fun ex Γ σ => match ex with
      | .normal => ∃ x rest, RVs P n w D Γ σ rs (vsf x) ∧ φ x ∧ (cat (ρ x) rest).Perm σ
      | .ret => ∃ x rest, RVs P n w D Γ σ rs (vsf x) ∧ φ x ∧ (cat (ρ x) rest).Perm σ
      | _ => False) (argsT 0 vs) σ1) : Calls P f vs.toArray w (Ret σ1 vf ρ φ w) := by
  subst hD
  refine calls_of_wp hf hb (wp_mono (h.run _ _ ⟨by have := Nat.le_of_ble_eq_true hl; simp [hn]; omega, rfl, fun i v hi => ?_⟩ hown.st) ?_)
  · have h1 : vs[i]? = some v := by simpa using (argsT_look vs 0 i v hi).2
    have h2 : i < vs.length := (List.getElem?_eq_some_iff.1 h1).1
    simpa [Array.getElem?_append, h2] using (List.getElem?_eq_some_iff.1 h1).2
  · intro ex a w' hq
    have key : (∃ Γ σ, Sees n a Γ ∧ St w (σ1.flatMap Res.fp) σ w' ∧ ∃ x rest, RVs P n w (σ1.flatMap Res.fp) Γ σ rs (vsf x) ∧ φ x ∧ (cat (ρ x) rest).Perm σ) → a.defers = [] ∧ ∃ v, (results fn a.tmps).run P w' = .ok v w' ∧ Ret σ1 vf ρ φ w (.returned v) w' := by
      rintro ⟨Γ, σ, hs, hst0, x, rest, hrv, hφ, hperm⟩
      have hst := hst0.perm hperm
      refine ⟨hs.defers, _, run_results hr hrv a w' hs hst0, x, by rw [hvf], hφ, hst.only, fun r hr => hst.ok r (List.mem_append_left _ hr), fun b hb => ?_, ?_⟩
      · obtain ⟨r, hr, hb⟩ := List.mem_flatMap.1 hb
        exact ⟨hst.new r (List.mem_append_left _ hr) b hb, hst.lt r (List.mem_append_left _ hr) b hb⟩
      · exact hst.ownl.nd
    cases ex with
    | normal => exact key hq
    | ret => exact key hq
    | panic c => exact hq.elim
    | outgrown => exact hq.elim
    | exit i => obtain ⟨_, _, _, _, hf⟩ := hq; exact hf.elim
    | goto i => obtain ⟨_, _, _, _, hf⟩ := hq; exact hf.elim
end
section
variable {P : Program} {n : Nat} {w0 : World} {D : List Nat} {Γ : Tm} {σ : List Res} {ops : Array Oper} {o : Oper}

/-! ### a region that draws: it only reads, and calls what yields one value -/
structure WQ (P : Program) (n : Nat) (w0 : World) (D : List Nat) (σ : List Res) (ops : Array Oper) (K : Tm → Prop) (os : List Oper) (Γ : Tm) : Prop where
  run : ∀ a, Sees n a Γ → wpQuiet P ops (St w0 D σ) (fun a' => ∃ Γ', Sees n a' Γ' ∧ K Γ') os a
theorem wq_nil {K : Tm → Prop} (h : K Γ) : WQ P n w0 D σ ops K [] Γ := .mk fun a hs => wpQuiet_nil ⟨Γ, hs, h⟩
theorem wq_val {K : Tm → Prop} {os : List Oper} {v : Value} (hg : gd Γ ops o = some true) {dd : Nat} (hd : o.dst = some dd) (hdn : Nat.blt dd n = true) (hv : ValOK P w0 D σ Γ o v) (h : WQ P n w0 D σ ops K os ((dd, v) :: Γ)) : WQ P n w0 D σ ops K (o :: os) Γ := .mk fun a hs =>
  wpQuiet_step fun K' hK => by
    rw [if_pos (gd_spec hs hg)]
    refine ⟨v, fun w hw => ?_, hK _ (h.run _ (hs.put hd hdn v))⟩
    unfold Oper.quietAt
    rw [hv.run w hw a.eval (fun x u hx => hs.eval hx)]
    exact ⟨rfl, rfl⟩
theorem wq_pass {K : Tm → Prop} {os : List Oper} (hg : gd Γ ops o = some false) {dd : Nat} (hd : o.dst = some dd) (hdn : Nat.blt dd n = true) (h : WQ P n w0 D σ ops K os ((dd, undef) :: Γ)) : WQ P n w0 D σ ops K (o :: os) Γ := .mk fun a hs =>
  wpQuiet_step fun K' hK => by
    rw [if_neg (by rw [gd_spec hs hg]; simp)]
    exact hK _ (h.run _ (hs.put hd hdn undef))
theorem wq_call {K : Tm → Prop} {os : List Oper} {f : FuncId} {args : Array Operand} {tys : Array TypeId} {vs : List Value} {v : Value} (hc : ∀ w, St w0 D σ w → Calls P f vs.toArray w (one v w)) (hop : o.op = .call { callee := .value (.func f), args := args, argTypes := tys })
    (ha : args.toList.map (ev Γ) = vs.map some) (hb : bodied P f = true) (hg : gd Γ ops o = some true) {dd : Nat} (hd : o.dst = some dd) (hdn : Nat.blt dd n = true)
    (h : WQ P n w0 D σ ops K os ((dd, v) :: Γ)) : WQ P n w0 D σ ops K (o :: os) Γ := .mk fun a hs =>
  wpQuiet_step fun K' hK => by
    rw [if_pos (gd_spec hs hg)]
    refine ⟨v, fun w hw => ?_, hK _ (h.run _ (hs.put hd hdn v))⟩
    unfold Oper.quietAt
    have e1 : args.map a.eval = vs.toArray := Array.toList_inj.1 (by rw [Array.toList_map]; exact args_map (fun x u hx => hs.eval hx) _ _ ha)
    have hr : (execOp a.eval o).run P w = .ok (.enter f vs.toArray) w := by
      simp only [execOp, hop, resolve, e1]
      simp [Act.eval, Deferred.ofValue, invoke, run_callFunc hb, Result.andThen]
    rw [hr]
    refine ⟨rfl, (hc w hw).mono ?_⟩
    rintro e w' ⟨x, rfl, _, ho, _⟩
    exact ⟨rfl, hw.same ho⟩
theorem wq_part {K : Tm → Prop} {os : List Oper} {φ : Prop} (ht : φ → WQ P n w0 D σ ops K os Γ) (hf : ¬ φ → WQ P n w0 D σ ops K os Γ) : WQ P n w0 D σ ops K os Γ := by
  by_cases h : φ
  · exact ht h
  · exact hf h
theorem wq_cmp {K : Tm → Prop} {os : List Oper} {t t2 : TypeId} {x y : Operand} {a b : Int} {op : BinOp} {k : IntKind} (hop : o.op = .binOp op t x y t2) (hc : isCmp op = true) (hx : ev Γ x = some (.int k a)) (hy : ev Γ y = some (.int k b)) (hg : gd Γ ops o = some true) {dd : Nat} (hd : o.dst = some dd) (hdn : Nat.blt dd n = true)
    (ht : cmpP op a b → WQ P n w0 D σ ops K os ((dd, .bool true) :: Γ)) (hf : ¬ cmpP op a b → WQ P n w0 D σ ops K os ((dd, .bool false) :: Γ)) : WQ P n w0 D σ ops K (o :: os) Γ := by
  by_cases h : cmpP op a b
  · exact wq_val hg hd hdn (val_cmp hop hc hx hy (by simp [h])) (ht h)
  · exact wq_val hg hd hdn (val_cmp hop hc hx hy (by simp [h])) (hf h)

/-! ### a region that draws, in general -/
structure WA (P : Program) (n : Nat) (w0 : World) (D : List Nat) (σS : List Res) (ops : Array Oper) (Q : QQ) (fuel : Nat) (listed : Array Bool) (Γ : Tm) (σ : List Res) : Prop where
  run : ∀ a w, Sees n a Γ → St w0 D σ w → wpAnyH P .any ops (conc n w0 D Q) (St w0 D σS) fuel listed a w
theorem wa_begin {Q : QQ} {id : Nat} (hm : P.follows .mixedOrders = true) (h : WA P n w0 D σ ops Q ops.size (Array.replicate ops.size false) Γ σ) : WC P n w0 D (.region id ops true) Q Γ σ := .mk fun a w hs hst =>
  wp_region_held hm (h.run a _ hs (hst.same (Only.drew [] w)))
theorem St.suffix {w : World} {τ σS : List Res} (h : St w0 D (τ ++ σS) w) : St w0 D σS w := by
  induction τ with
  | nil => exact h
  | cons r τ ih => exact ih h.drop
theorem wa_take (i : Nat) (τ : List Res) {σS : List Res} {Q : QQ} {fuel : Nat} {listed : Array Bool} {oi : Oper} {v : Value} (hσ : σ = τ ++ σS) (hi : ops[i]? = some oi) (hs : Region.noSelect ops = true) (hf : Region.free .any ops listed i = true) (hr : (Region.ready .any ops listed).contains i = true)
    (hg : gd Γ ops oi = some true) {dd : Nat} (hd : oi.dst = some dd) (hdn : Nat.blt dd n = true) (hv : ValOK P w0 D σS Γ oi v) (h : WA P n w0 D σS ops Q fuel (listed.setIfInBounds i true) ((dd, v) :: Γ) σ) : WA P n w0 D σS ops Q (fuel + 1) listed Γ σ := .mk fun a w hse hst => by
  refine wpAnyH_take hi hs hf hr (fun _ _ _ h => h) (.inl ⟨gd_spec hse hg, fun w hw => hv.run w hw a.eval (fun x u hx => hse.eval hx)⟩) ?_ (h.run _ w (hse.put hd hdn v) hst)
  subst hσ
  exact hst.suffix
theorem wa_takepass (i : Nat) (τ : List Res) {σS : List Res} {Q : QQ} {fuel : Nat} {listed : Array Bool} {oi : Oper} (hσ : σ = τ ++ σS) (hi : ops[i]? = some oi) (hs : Region.noSelect ops = true) (hf : Region.free .any ops listed i = true) (hr : (Region.ready .any ops listed).contains i = true)
    (hg : gd Γ ops oi = some false) {dd : Nat} (hd : oi.dst = some dd) (hdn : Nat.blt dd n = true) (h : WA P n w0 D σS ops Q fuel (listed.setIfInBounds i true) ((dd, undef) :: Γ) σ) : WA P n w0 D σS ops Q (fuel + 1) listed Γ σ := .mk fun a w hse hst => by
  refine wpAnyH_take hi hs hf hr (fun _ _ _ h => h) (.inr ⟨gd_spec hse hg, rfl⟩) ?_ (h.run _ w (hse.put hd hdn undef) hst)
  subst hσ
  exact hst.suffix
theorem wa_op {σS : List Res} {Q : QQ} {fuel : Nat} {listed : Array Bool} {i : Nat} {oi : Oper} (hi : ops[i]? = some oi) (h : OpOK P n w0 D ops oi (fun Γ σ => (∃ τ, σ = τ ++ σS) ∧ WA P n w0 D σS ops Q fuel (listed.setIfInBounds i true) Γ σ) Γ σ)
    (a : Act) (w : World) (hse : Sees n a Γ) (hst : St w0 D σ w) : wpOp P ops (conc n w0 D Q) i (fun a' w' => St w0 D σS w' ∧ wpAnyH P .any ops (conc n w0 D Q) (St w0 D σS) fuel (listed.setIfInBounds i true) a' w') a w :=
  wpOp_step hi fun K' hK => h.run a w hse hst _ K' fun a w Γ σ hse hst ⟨⟨τ, hτ⟩, hk⟩ => hK a w ⟨by subst hτ; exact hst.suffix, hk.run a w hse hst⟩
theorem wa_one (i : Nat) {σS : List Res} {Q : QQ} {fuel : Nat} {listed : Array Bool} {oi : Oper} (hi : ops[i]? = some oi) (hr : Region.ready .any ops listed = [i])
    (h : OpOK P n w0 D ops oi (fun Γ σ => (∃ τ, σ = τ ++ σS) ∧ WA P n w0 D σS ops Q fuel (listed.setIfInBounds i true) Γ σ) Γ σ) : WA P n w0 D σS ops Q (fuel + 1) listed Γ σ := .mk fun a w hse hst =>
  wpAnyH_all hr (by simp) fun j hj => by
    obtain rfl : j = i := by simpa using hj
    exact wa_op hi h a w hse hst
theorem wa_two (i j : Nat) {σS : List Res} {Q : QQ} {fuel : Nat} {listed : Array Bool} {oi oj : Oper} (hi : ops[i]? = some oi) (hj : ops[j]? = some oj) (hr : Region.ready .any ops listed = [i, j])
    (h1 : OpOK P n w0 D ops oi (fun Γ σ => (∃ τ, σ = τ ++ σS) ∧ WA P n w0 D σS ops Q fuel (listed.setIfInBounds i true) Γ σ) Γ σ)
    (h2 : OpOK P n w0 D ops oj (fun Γ σ => (∃ τ, σ = τ ++ σS) ∧ WA P n w0 D σS ops Q fuel (listed.setIfInBounds j true) Γ σ) Γ σ) : WA P n w0 D σS ops Q (fuel + 1) listed Γ σ := .mk fun a w hse hst =>
  wpAnyH_all hr (by simp) fun k hk => by
    rcases List.mem_cons.1 hk with rfl | hk
    · exact wa_op hi h1 a w hse hst
    · obtain rfl : k = j := by simpa using hk
      exact wa_op hj h2 a w hse hst
theorem wa_done {σS : List Res} {Q : QQ} {fuel : Nat} {listed : Array Bool} (hr : Region.ready .any ops listed = []) (h : Q .normal Γ σ) : WA P n w0 D σS ops Q fuel listed Γ σ := .mk fun a w hse hst =>
  wpAnyH_done hr ⟨Γ, σ, hse, hst, h⟩ fuel

/-! ### slicing -/
def sub {α : Type} (xs : List α) (lo hi : Int) : List α := (xs.drop lo.toNat).take (hi.toNat - lo.toNat)
theorem sub_length {α : Type} (xs : List α) {lo hi : Int} (h0 : 0 ≤ lo) (h1 : lo ≤ hi) (h2 : hi ≤ xs.length) : (sub xs lo hi).length = hi.toNat - lo.toNat := by
  unfold sub; simp; omega
/-- s[lo:hi], s in memory that reads as xs: a slice that reads as a piece of xs -/
theorem run_sub {α : Type} {f : α → Value} {w : World} {A : Option Addr} {c : Nat} {xs : List α} {t e : TypeId} (h : Rds f w A c xs) (ht : elem? P t = some e) (hs : size? P e = some 1) {lo hi : Int} (h0 : 0 ≤ lo) (h1 : lo ≤ hi) (h2 : hi ≤ xs.length) :
    (Instr.sliceAt t (.slice A xs.length c) (some (.int .i64 lo)) (some (.int .i64 hi)) none).run P w = .ok (.slice (if c = lo.toNat then A else A.map (·.add lo.toNat)) (sub xs lo hi).length (c - lo.toNat)) w ∧
    Rds f w (if c = lo.toNat then A else A.map (·.add lo.toNat)) (c - lo.toNat) (sub xs lo hi) := by
  have hu := elem?_spec ht
  have hlc := h.1
  refine ⟨?_, ?_⟩
  · have hc : (hi : Int) ≤ c := by omega
    rw [sub_length xs h0 h1 h2]
    have e1 : 0 ≤ hi ∧ hi ≤ (c : Int) := by omega
    have e2 : 0 ≤ lo ∧ lo ≤ (hi.toNat : Int) := by omega
    have e3 : lo ≤ max hi 0 := by omega
    simp [Instr.sliceAt, Instr.slice, run_underlying hu, Instr.sliceBounds, Instr.sliceBound, asIntOf, e1, e2, e3, h0, run_sizeOf' hs, Result.andThen]
  · refine ⟨by rw [sub_length xs h0 h1 h2]; omega, by have := h.2.1; omega, fun hn => ?_⟩
    rw [sub_length xs h0 h1 h2] at hn
    obtain ⟨ad, rfl, hc⟩ := h.2.2 (by omega)
    rw [if_neg (by omega)]
    refine ⟨_, rfl, fun j hj => ?_⟩
    rw [sub_length xs h0 h1 h2] at hj
    have e3 : (ad.add lo.toNat).add j = ad.add (lo.toNat + j) := by
      unfold Addr.add
      by_cases hi : lo.toNat = 0 <;> by_cases hj : j = 0 <;> simp [hi, hj, Nat.add_assoc]
    rw [e3, hc (lo.toNat + j) (by omega)]
    simp [sub]

theorem val_slice {α : Type} {f : α → Value} {A : Option Addr} {c : Nat} {xs : List α} {t e : TypeId} {x l h : Operand} {lo hi : Int} (hop : o.op = .slice t x (some l) (some h) none) (hx : ev Γ x = some (.slice A xs.length c)) (hl : ev Γ l = some (.int .i64 lo)) (hh : ev Γ h = some (.int .i64 hi))
    (hr : ∀ w, St w0 D σ w → Rds f w A c xs) (ht : elem? P t = some e) (hs : size? P e = some 1) (h0 : 0 ≤ lo) (h1 : lo ≤ hi) (h2 : hi ≤ xs.length) :
    ValOK P w0 D σ Γ o (.slice (if c = lo.toNat then A else A.map (·.add lo.toNat)) (sub xs lo hi).length (c - lo.toNat)) := by
  refine ⟨fun w hst g hg => ?_⟩
  have := (run_sub (hr w hst) ht hs h0 h1 h2).1
  simp [execOp, hop, hg _ _ hx, hg _ _ hl, hg _ _ hh, this]
theorem RdO.sub_ {α : Type} {f : α → Value} {A : Option Addr} {c : Nat} {xs : List α} {t e : TypeId} {lo hi : Int} (h : RdO f w0 D A c xs) (ht : elem? P t = some e) (hs : size? P e = some 1) (h0 : 0 ≤ lo) (h1 : lo ≤ hi) (h2 : hi ≤ xs.length) :
    RdO f w0 D (if c = lo.toNat then A else A.map (·.add lo.toNat)) (c - lo.toNat) (sub xs lo hi) := fun w ho => (run_sub (h w ho) ht hs h0 h1 h2).2
theorem ok_slice {K : Tm → List Res → Prop} {α : Type} {f : α → Value} {A : Option Addr} {c : Nat} {xs : List α} {t e : TypeId} {x l h : Operand} {lo hi : Int} (hr : RdO f w0 D A c xs) (hop : o.op = .slice t x (some l) (some h) none) (hx : ev Γ x = some (.slice A xs.length c)) (hl : ev Γ l = some (.int .i64 lo)) (hh : ev Γ h = some (.int .i64 hi))
    (hg : gd Γ ops o = some true) {dd : Nat} (hd : o.dst = some dd) (hdn : Nat.blt dd n = true) (ht : elem? P t = some e) (hs : size? P e = some 1) (h0 : 0 ≤ lo) (h1 : lo ≤ hi) (h2 : hi ≤ xs.length)
    (hk : ∀ A' c', RdO f w0 D A' c' (sub xs lo hi) → K ((dd, .slice A' (sub xs lo hi).length c') :: Γ) σ) : OpOK P n w0 D ops o K Γ σ :=
  ok_val hg hd hdn (val_slice hop hx hl hh (fun w hst => hr.now hst) ht hs h0 h1 h2) (hk _ _ (hr.sub_ ht hs h0 h1 h2))
theorem wq_slice {K : Tm → Prop} {os : List Oper} {α : Type} {f : α → Value} {A : Option Addr} {c : Nat} {xs : List α} {t e : TypeId} {x l h : Operand} {lo hi : Int} (hr : RdO f w0 D A c xs) (hop : o.op = .slice t x (some l) (some h) none) (hx : ev Γ x = some (.slice A xs.length c)) (hl : ev Γ l = some (.int .i64 lo)) (hh : ev Γ h = some (.int .i64 hi))
    (hg : gd Γ ops o = some true) {dd : Nat} (hd : o.dst = some dd) (hdn : Nat.blt dd n = true) (ht : elem? P t = some e) (hs : size? P e = some 1) (h0 : 0 ≤ lo) (h1 : lo ≤ hi) (h2 : hi ≤ xs.length)
    (hk : ∀ A' c', RdO f w0 D A' c' (sub xs lo hi) → WQ P n w0 D σ ops K os ((dd, .slice A' (sub xs lo hi).length c') :: Γ)) : WQ P n w0 D σ ops K (o :: os) Γ :=
  wq_val hg hd hdn (val_slice hop hx hl hh (fun w hst => hr.now hst) ht hs h0 h1 h2) (hk _ _ (hr.sub_ ht hs h0 h1 h2))
theorem wpQuiet_mono {C : World → Prop} {Q Q' : Act → Prop} (hq : ∀ a, Q a → Q' a) : ∀ (os : List Oper) (a : Act), wpQuiet P ops C Q os a → wpQuiet P ops C Q' os a
  | [], a, h => hq a h
  | o :: os, a, h => by
    unfold wpQuiet at h ⊢
    by_cases hw : Region.wanted o (yielded ops a.tmps) = true
    · rw [if_pos hw] at h ⊢; exact Oper.quiet_mono (fun a => wpQuiet_mono hq os a) h
    · rw [if_neg hw] at h ⊢; exact wpQuiet_mono hq os _ h
theorem wc_quiet {Q : QQ} {id : Nat} {l : List Oper} (hm : P.follows .mixedOrders = true) (hB : Region.lexB .any l.toArray = true) (h : WQ P n w0 D σ l.toArray (fun Γ' => Q .normal Γ' σ) l Γ) : WC P n w0 D (.region id l.toArray true) Q Γ σ := .mk fun a w hs hst =>
  wp_region_quiet (C := St w0 D σ) hm hB (hst.same (Only.drew [] w)) (by
    refine wpQuiet_mono ?_ _ _ (h.run a hs)
    rintro a' ⟨Γ', hs', hq⟩ w' hw'
    exact ⟨Γ', σ, hs', hw', hq⟩)
end
end Go.Proofs.Ytoiiellaoikojaa
