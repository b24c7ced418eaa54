/- A small logic for the walks: values, own blocks, rows, calls. -/
import Derived.Test.YtofngbaefbbeiaaS1
import Derived.Deep.OwnRows
import Derived.Great.BuildSlice
import Derived.Maps.AppendAt
set_option linter.unusedVariables false
set_option linter.unusedSimpArgs false
namespace Go.Proofs.Ytofngbaefbbeiaa
open Go.RowKit

/-! ### pieces -/
/-- a block that is known whole -/
def blk (b : Nat) (cs : List Value) (t : TypeId) : Res where
  fp := [b]
  ok := fun w => w.heap[b]? = some (.cells cs.toArray t (0, 0))
  st := fun w w' h hw => (h b (by simp)).trans hw
def ownB (A : Option Addr) : List Nat := match A with | some a => [a.block] | none => []
theorem ownsRow_st {w w' : World} {e : TypeId} {s n : Nat} {A : Option Addr} {k c : Nat} {vs : List Value} (h : w.ownsRow 0 e s (.slice A k c) n vs) (hb : ∀ b ∈ ownB A, w'.heap[b]? = w.heap[b]?) : w'.ownsRow 0 e s (.slice A k c) n vs := by
  obtain ⟨h1, h2⟩ := h
  refine ⟨h1, ?_⟩
  rcases h2 with h2 | ⟨g, cap, cur, h2, h3, h4, h5⟩
  · exact .inl h2
  · refine .inr ⟨g, cap, cur, h2, h3, ?_, h5⟩
    have : A = some ⟨g, 0, none⟩ := by injection h2
    subst this
    rw [hb g (by simp [ownB])]; exact h4
/-- a slice of one-cell elements of the call's own: the list xs, written by f -/
def osl {α : Type} (e : TypeId) (f : α → Value) (A : Option Addr) (c : Nat) (xs : List α) : Res where
  fp := ownB A
  ok := fun w => w.ownsRow 0 e 1 (.slice A xs.length c) xs.length (xs.map f)
  st := fun w w' h hw => ownsRow_st hw h

def nth : List Value → Nat → Option Value
  | [], _ => none
  | v :: _, 0 => some v
  | _ :: l, k + 1 => nth l k
theorem nth_get : ∀ (l : List Value) (k : Nat), nth l k = l[k]?
  | [], _ => by simp [nth]
  | v :: _, 0 => by simp [nth]
  | _ :: l, k + 1 => by simpa [nth] using nth_get l k
/-- an int -/
def vi (x : Int) : Value := .int .i64 x
def vb (x : Bool) : Value := .bool x
def gt {α : Type} [Inhabited α] (xs : List α) (i : Int) : α := xs.getD i.toNat default

/-- 'pointer to element i' -/
def elA (A : Option Addr) (s : Nat) (i : Int) : Addr := (A.getD ⟨0, 0, none⟩).add (i.toNat * s)

/-- a slice that lies in old memory and reads as xs -/
def Rds {α : Type} (f : α → Value) (w : World) (A : Option Addr) (c : Nat) (xs : List α) : Prop :=
  xs.length ≤ c ∧ c ≤ 9223372036854775807 ∧ (0 < xs.length → ∃ ad, A = some ad ∧ ∀ j (h : j < xs.length), w.cell? (ad.add j) = some (f xs[j]))
def RdO {α : Type} (f : α → Value) (w0 : World) (D : List Nat) (A : Option Addr) (c : Nat) (xs : List α) : Prop := ∀ w, Only D w0 w → Rds f w A c xs
theorem Rds.only {α : Type} {f : α → Value} {w w' : World} {A : Option Addr} {c : Nat} {xs : List α} (h : Rds f w A c xs) (ho : Only [] w w') : Rds f w' A c xs :=
  ⟨h.1, h.2.1, fun hn => by
    obtain ⟨ad, e, hc⟩ := h.2.2 hn
    exact ⟨ad, e, fun j hj => (ho.to_below.cell (World.block_lt_of_cell? w _ (hc j hj))).trans (hc j hj)⟩⟩
theorem Rds.old {α : Type} {f : α → Value} {w : World} {A : Option Addr} {c : Nat} {xs : List α} (h : Rds f w A c xs) : RdO f w [] A c xs := fun _ ho => h.only ho
/-- old memory that is none of the blocks D -/
theorem Rds.oldD {α : Type} {f : α → Value} {w : World} {D : List Nat} {A : Option Addr} {c : Nat} {xs : List α} (h : Rds f w A c xs) (hD : ∀ ad, A = some ad → ad.block ∉ D) : RdO f w D A c xs := fun w' ho =>
  ⟨h.1, h.2.1, fun hn => by
    obtain ⟨ad, e, hc⟩ := h.2.2 hn
    refine ⟨ad, e, fun j hj => ?_⟩
    have hb : (ad.add j).block = ad.block := by unfold Addr.add; split <;> rfl
    exact (World.cell?_of_block (w := w) (ho.block _ (World.block_lt_of_cell? w _ (hc j hj)) (by rw [hb]; exact hD ad e))).trans (hc j hj)⟩
theorem Rds.len {α : Type} {f : α → Value} {w : World} {A : Option Addr} {c : Nat} {xs : List α} (h : Rds f w A c xs) : xs.length ≤ 9223372036854775807 := Nat.le_trans h.1 h.2.1
theorem RdO.now {α : Type} {f : α → Value} {w0 w : World} {D : List Nat} {σ : List Res} {A : Option Addr} {c : Nat} {xs : List α} (h : RdO f w0 D A c xs) (hst : St w0 D σ w) : Rds f w A c xs := h w hst.only
theorem osl_reads {α : Type} {e : TypeId} {f : α → Value} {A : Option Addr} {c : Nat} {xs : List α} {w : World} (h : (osl e f A c xs).ok w) : Rds f w A c xs := by
  have h0 : w.ownsRow 0 e 1 (.slice A xs.length c) xs.length (xs.map f) := h
  rcases h0.2 with ⟨h2, h3⟩ | ⟨g, cap, cur, h2, _, h4, h5, h6, h7, h8⟩
  · injection h2 with h4 h5 h6
    exact ⟨by omega, by omega, fun hn => absurd hn (by omega)⟩
  · injection h2 with e1 e2 e3
    subst e1 e3
    refine ⟨h5, by simpa [maxLen] using h6, fun hn => ⟨_, rfl, fun j hj => ?_⟩⟩
    exact h0.cells (g := g) rfl j _ (by simp [List.getElem?_eq_getElem hj])

section
variable {P : Program} {n : Nat} {w0 : World} {D : List Nat} {Γ : Tm} {σ : List Res} {ops : Array Oper} {o : Oper} {K : Tm → List Res → Prop}

/-! ### values -/
theorem val_field {t : TypeId} {x : Operand} {f k b i : Nat} (hop : o.op = .fieldAddr t x f) (hx : ev Γ x = some (.pointer (some ⟨b, i, none⟩))) (hk : fOff P t f = some k) :
    ValOK P w0 D σ Γ o (.pointer (some ⟨b, i + k, none⟩)) := by
  refine ⟨fun w hst g hg => ?_⟩
  simp [execOp, hop, hg _ _ hx, run_fieldAt hk, add_own]
/-- a cell that reads so in whatever state -/
theorem val_load {t : TypeId} {x : Operand} {ad : Addr} {v : Value} (hop : o.op = .load t x) (hx : ev Γ x = some (.pointer (some ad))) (ht : agg? P t = some false) (hv : ∀ w, St w0 D σ w → w.cell? ad = some v) :
    ValOK P w0 D σ Γ o v := by
  refine ⟨fun w hst g hg => ?_⟩
  simp [execOp, hop, hg _ _ hx, Instr.loadAt, Instr.sureAddr, loadVar, run_isAgg ht, hv w hst, Result.andThen]
/-- '&s[i]' -/
theorem val_index {t e : TypeId} {s : Nat} {x y : Operand} {A : Option Addr} {m c : Nat} {i : Int} {k : IntKind} (hop : o.op = .indexAddr t x y) (hx : ev Γ x = some (.slice A m c)) (hy : ev Γ y = some (.int k i)) (ht : elem? P t = some e) (hs : size? P e = some s)
    (h0 : 0 ≤ i) (h1 : i < m) (hA : ∃ ad, A = some ad) : ValOK P w0 D σ Γ o (.pointer (some (elA A s i))) := by
  refine ⟨fun w hst g hg => ?_⟩
  obtain ⟨ad, rfl⟩ := hA
  simp [execOp, hop, hg _ _ hx, hg _ _ hy, Instr.indexAt, run_underlying (elem?_spec ht), asIntOf, h0, h1, run_sizeOf' hs, Result.andThen, elA]
theorem Rds.some_ {α : Type} {f : α → Value} {w : World} {A : Option Addr} {c : Nat} {xs : List α} {i : Int} (h : Rds f w A c xs) (h0 : 0 ≤ i) (h1 : i < (xs.length : Int)) : ∃ ad, A = some ad := by
  obtain ⟨ad, e, _⟩ := h.2.2 (by omega)
  exact ⟨ad, e⟩
theorem Rds.cell {α : Type} [Inhabited α] {f : α → Value} {w : World} {A : Option Addr} {c : Nat} {xs : List α} {i : Int} (h : Rds f w A c xs) (h0 : 0 ≤ i) (h1 : i < (xs.length : Int)) : w.cell? (elA A 1 i) = some (f (gt xs i)) := by
  obtain ⟨ad, rfl, hc⟩ := h.2.2 (by omega)
  have hi : i.toNat < xs.length := by omega
  have := hc i.toNat hi
  simpa [elA, gt, List.getD_eq_getElem?_getD, List.getElem?_eq_getElem hi] using this

theorem val_makeFunc {fn : Fn} {first captured : Array Operand} {vs us : List Value} (hop : o.op = .makeFunc fn first captured) (h1 : first.toList.map (ev Γ) = vs.map some) (h2 : captured.toList.map (ev Γ) = us.map some) :
    ValOK P w0 D σ Γ o (.func fn vs.toArray us.toArray) := by
  refine ⟨fun w hst g hg => ?_⟩
  have key : ∀ (xs : List Operand) (vs : List Value), xs.map (ev Γ) = vs.map some → xs.map g = vs := by
    intro xs
    induction xs with
    | nil => intro vs h; cases vs with | nil => rfl | cons _ _ => simp at h
    | cons x xs ih =>
      intro vs h
      cases vs with
      | nil => simp at h
      | cons v vs =>
        simp only [List.map_cons, List.cons.injEq] at h ⊢
        exact ⟨hg _ _ h.1, ih vs h.2⟩
  have e1 : first.map g = vs.toArray := Array.toList_inj.1 (by rw [Array.toList_map]; exact key _ _ h1)
  have e2 : captured.map g = us.toArray := Array.toList_inj.1 (by rw [Array.toList_map]; exact key _ _ h2)
  simp [execOp, hop, e1, e2, Instr.makeFunc]

section arith
variable {t t2 : TypeId} {x y : Operand} {a b : Int}
theorem val_add (hop : o.op = .binOp .add t x y t2) (hx : ev Γ x = some (.int .i64 a)) (hy : ev Γ y = some (.int .i64 b)) (hr : -9223372036854775808 ≤ a + b ∧ a + b ≤ 9223372036854775807) : ValOK P w0 D σ Γ o (.int .i64 (a + b)) := by
  refine ⟨fun w hst g hg => ?_⟩
  have e := IntWalk.i64_in _ hr
  simp [execOp, hop, hg _ _ hx, hg _ _ hy, eqGuard, binOp, Op.intArith, Result.andThen, e]
theorem val_sub (hop : o.op = .binOp .sub t x y t2) (hx : ev Γ x = some (.int .i64 a)) (hy : ev Γ y = some (.int .i64 b)) (hr : -9223372036854775808 ≤ a - b ∧ a - b ≤ 9223372036854775807) : ValOK P w0 D σ Γ o (.int .i64 (a - b)) := by
  refine ⟨fun w hst g hg => ?_⟩
  have e := IntWalk.i64_in _ hr
  simp [execOp, hop, hg _ _ hx, hg _ _ hy, eqGuard, binOp, Op.intArith, Result.andThen, e]
theorem val_mul (hop : o.op = .binOp .mul t x y t2) (hx : ev Γ x = some (.int .i64 a)) (hy : ev Γ y = some (.int .i64 b)) (hr : -9223372036854775808 ≤ a * b ∧ a * b ≤ 9223372036854775807) : ValOK P w0 D σ Γ o (.int .i64 (a * b)) := by
  refine ⟨fun w hst g hg => ?_⟩
  have e := IntWalk.i64_in _ hr
  simp [execOp, hop, hg _ _ hx, hg _ _ hy, eqGuard, binOp, Op.intArith, Result.andThen, e]
/-- what a comparison of ints says -/
abbrev cmpP : BinOp → Int → Int → Prop
  | .eql, a, b => a = b
  | .neq, a, b => a ≠ b
  | .lss, a, b => a < b
  | .leq, a, b => a ≤ b
  | .gtr, a, b => b < a
  | .geq, a, b => b ≤ a
  | _, _, _ => False
def isCmp : BinOp → Bool
  | .eql | .neq | .lss | .leq | .gtr | .geq => true
  | _ => false
theorem val_cmp {op : BinOp} {k : IntKind} (hop : o.op = .binOp op t x y t2) (hc : isCmp op = true) (hx : ev Γ x = some (.int k a)) (hy : ev Γ y = some (.int k b)) {c : Bool} (hb : c = true ↔ cmpP op a b) : ValOK P w0 D σ Γ o (.bool c) := by
  refine ⟨fun w hst g hg => ?_⟩
  cases op <;> simp only [isCmp, reduceCtorEq] at hc <;> simp [execOp, hop, hg _ _ hx, hg _ _ hy, eqGuard, binOp, Op.intCmp, Result.andThen] <;>
    (simp only [cmpP] at hb; cases c <;> simp at hb ⊢ <;> omega)
theorem ok_cmp {op : BinOp} {k : IntKind} (hop : o.op = .binOp op t x y t2) (hc : isCmp op = true) (hx : ev Γ x = some (.int k a)) (hy : ev Γ y = some (.int k b)) (hg : gd Γ ops o = some true) {dd : Nat} (hd : o.dst = some dd) (hdn : Nat.blt dd n = true)
    (ht : cmpP op a b → K ((dd, .bool true) :: Γ) σ) (hf : ¬ cmpP op a b → K ((dd, .bool false) :: Γ) σ) : OpOK P n w0 D ops o K Γ σ := by
  by_cases h : cmpP op a b
  · exact ok_val hg hd hdn (val_cmp hop hc hx hy (by simp [h])) (ht h)
  · exact ok_val hg hd hdn (val_cmp hop hc hx hy (by simp [h])) (hf h)
/-- an or, an and, a test on a bool: part on it -/
theorem ok_part {b : Bool} (ht : b = true → OpOK P n w0 D ops o K Γ σ) (hf : b = false → OpOK P n w0 D ops o K Γ σ) : OpOK P n w0 D ops o K Γ σ := by
  cases b
  · exact hf rfl
  · exact ht rfl
end arith

theorem val_len {x : Operand} {t e : TypeId} {A : Option Addr} {m c : Nat} (hop : o.op = .call { callee := .builtin .len, args := #[x], argTypes := #[t] }) (hx : ev Γ x = some (.slice A m c)) (ht : elem? P t = some e) : ValOK P w0 D σ Γ o (.int .i64 m) := by
  refine ⟨fun w hst g hg => ?_⟩
  simp [execOp, hop, resolve, invoke, builtin, hg _ _ hx, Builtin.len_, run_underlying (elem?_spec ht), goInt, Result.andThen, Builtin.lenOf]
theorem val_build {t : TypeId} {parts : Array (Nat × Operand)} {ps : List (Nat × Value)} {cells : List Value} (hop : o.op = .build t parts) (hp : parts.toList.map (fun p => (p.1, ev Γ p.2)) = ps.map (fun p => (p.1, some p.2))) (hb : P.built t ps = some cells.toArray) :
    ValOK P w0 D σ Γ o (.agg cells.toArray) := by
  refine ⟨fun w hst g hg => ?_⟩
  have key : ∀ (xs : List (Nat × Operand)) (vs : List (Nat × Value)), xs.map (fun p => (p.1, ev Γ p.2)) = vs.map (fun p => (p.1, some p.2)) → xs.map (fun p => (p.1, g p.2)) = vs := by
    intro xs
    induction xs with
    | nil => intro vs h; cases vs with | nil => rfl | cons _ _ => simp at h
    | cons x xs ih =>
      intro vs h
      cases vs with
      | nil => simp at h
      | cons v vs =>
        simp only [List.map_cons, List.cons.injEq, Prod.mk.injEq] at h ⊢
        exact ⟨Prod.ext h.1.1 (hg _ _ h.1.2), ih vs h.2⟩
  have e1 : parts.map (fun p => (p.1, g p.2)) = ps.toArray := Array.toList_inj.1 (by rw [Array.toList_map]; exact key _ _ hp)
  have hr := run_build (P := P) w t ps.toArray cells.toArray (by simpa using hb)
  simp only [execOp, hop]
  rw [e1]
  simp [hr]
end
end Go.Proofs.Ytofngbaefbbeiaa
