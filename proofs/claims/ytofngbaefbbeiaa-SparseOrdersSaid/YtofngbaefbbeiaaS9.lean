/- Elements without size; look-ups; a cut. -/
import Derived.Test.YtofngbaefbbeiaaS8
set_option linter.unusedVariables false
set_option linter.unusedSimpArgs false
set_option maxHeartbeats 1000000
namespace Go.Proofs.Ytofngbaefbbeiaa
open Go.RowKit Go.Maps
section
variable {P : Program} {n : Nat} {w0 : World} {D : List Nat} {Γ : Tm} {σ : List Res} {ops : Array Oper} {o : Oper} {K : Tm → List Res → Prop} {R : Nat} {ms : List Nat} {i : Int} {Z : Value → Prop}
/-- a piece of code whose ways meet behind it -/
theorem wc_cut {β : Type} {x y : Code} {Q : QQ} (pre : β → Prop) (T : β → Tm) (M : β → List Res) (h1 : WC P n w0 D x (fun ex Γ' σ' => match ex with | .normal => ∃ z, pre z ∧ tmLe (T z) Γ' ∧ (M z).Perm σ' | _ => False) Γ σ)
    (h2 : ∀ z, pre z → WC P n w0 D y Q (T z) (M z)) : WC P n w0 D (x.seq y) Q Γ σ := .mk fun a w hs hst =>
  wp_seq (wp_mono (h1.run a w hs hst) fun ex a' w' hq => by
    cases ex with
    | normal => obtain ⟨Γ', σ', hs', hst', z, hz, ht, hm⟩ := hq; exact (h2 z hz).run a' w' (hs'.less ht) (hst'.perm hm)
    | panic c => exact hq.elim
    | outgrown => exact hq.elim
    | exit i => obtain ⟨_, _, _, _, hf⟩ := hq; exact hf.elim
    | goto l => obtain ⟨_, _, _, _, hf⟩ := hq; exact hf.elim
    | ret => obtain ⟨_, _, _, _, hf⟩ := hq; exact hf.elim)

/-- the same, behind wc_seq -/
theorem wc_cutK {β : Type} {x y : Code} {Q : QQ} (pre : β → Prop) (T : β → Tm) (M : β → List Res) (h1 : WC P n w0 D x (fun ex Γ' σ' => match ex with | .normal => ∃ z, pre z ∧ tmLe (T z) Γ' ∧ (M z).Perm σ' | _ => False) Γ σ)
    (h2 : ∀ z, pre z → WC P n w0 D y Q (T z) (M z)) : WC P n w0 D x (thenQ (WC P n w0 D y Q) Q) Γ σ := .mk fun a w hs hst =>
  wp_mono (h1.run a w hs hst) fun ex a' w' hq => by
    cases ex with
    | normal =>
      obtain ⟨Γ', σ', hs', hst', z, hz, ht, hm⟩ := hq
      exact ⟨T z, M z, hs'.less ht, hst'.perm hm, h2 z hz⟩
    | panic c => exact hq.elim
    | outgrown => exact hq.elim
    | exit i => obtain ⟨_, _, _, _, hf⟩ := hq; exact hf.elim
    | goto l => obtain ⟨_, _, _, _, hf⟩ := hq; exact hf.elim
    | ret => obtain ⟨_, _, _, _, hf⟩ := hq; exact hf.elim

/-! ### regions that draw, in two stages -/
def takeOK (ops : Array Oper) (listed : Array Bool) (i : Nat) : Bool := Region.noSelect ops && (Region.free .any ops listed i && (Region.ready .any ops listed).contains i)
section
variable {σS : List Res} {Q : QQ} {fuel : Nat} {listed : Array Bool} {oi : Oper} {dd : Nat}
theorem wa_v (i : Nat) (τ : List Res) (hi : ops[i]? = some oi) (hk : takeOK ops listed i = true) (hσ : σ = τ ++ σS) {v : Value} (hg : gd Γ ops oi = some true) (hd : oi.dst = some dd) (hdn : Nat.blt dd n = true) (hv : ValOK P w0 D σS Γ oi v) (h : WA P n w0 D σS ops Q fuel (listed.setIfInBounds i true) ((dd, v) :: Γ) σ) : WA P n w0 D σS ops Q (fuel + 1) listed Γ σ := by
  simp only [takeOK, Bool.and_eq_true] at hk
  exact wa_take i τ hσ hi hk.1 hk.2.1 hk.2.2 hg hd hdn hv h
theorem wa_ld (i : Nat) (τ : List Res) (hi : ops[i]? = some oi) (hk : takeOK ops listed i = true) (hσ : σ = τ ++ σS) {t : TypeId} {x : Operand} {pv : Value} {b : Bool} (hop : oi.op = .load t x) (hg : gd Γ ops oi = some true) (hd : oi.dst = some dd) (hdn : Nat.blt dd n = true) (hx : ev Γ x = some pv) (hb : agg? P t = some b)
    (h : LD P w0 D σS t b pv (fun v => WA P n w0 D σS ops Q fuel (listed.setIfInBounds i true) ((dd, v) :: Γ) σ)) : WA P n w0 D σS ops Q (fuel + 1) listed Γ σ := by
  obtain ⟨v, h1, h2⟩ := h.run
  exact wa_v i τ hi hk hσ hg hd hdn (val_of_ld hop hx h1) h2
theorem wa_bi (i : Nat) (τ : List Res) (hi : ops[i]? = some oi) (hk : takeOK ops listed i = true) (hσ : σ = τ ++ σS) {op : BinOp} {t t2 : TypeId} {x y : Operand} {k : IntKind} {a b : Int} (hop : oi.op = .binOp op t x y t2) (hg : gd Γ ops oi = some true) (hd : oi.dst = some dd) (hdn : Nat.blt dd n = true) (hx : ev Γ x = some (.int k a)) (hy : ev Γ y = some (.int k b))
    (h : BI op k a b (fun v => WA P n w0 D σS ops Q fuel (listed.setIfInBounds i true) ((dd, v) :: Γ) σ)) : WA P n w0 D σS ops Q (fuel + 1) listed Γ σ := by
  obtain ⟨v, h1, h2⟩ := h.run
  exact wa_v i τ hi hk hσ hg hd hdn (val_of_bi hop hx hy h1) h2
theorem wa_ix (i : Nat) (τ : List Res) (hi : ops[i]? = some oi) (hk : takeOK ops listed i = true) (hσ : σ = τ ++ σS) {t e : TypeId} {s m c : Nat} {x y : Operand} {A : Option Addr} {j : Int} {k : IntKind} (hop : oi.op = .indexAddr t x y) (hg : gd Γ ops oi = some true) (hd : oi.dst = some dd) (hdn : Nat.blt dd n = true) (hx : ev Γ x = some (.slice A m c)) (hy : ev Γ y = some (.int k j)) (ht : elem? P t = some e) (hs : size? P e = some s)
    (h : IX P w0 D σS A m c j s (fun v => WA P n w0 D σS ops Q fuel (listed.setIfInBounds i true) ((dd, v) :: Γ) σ)) : WA P n w0 D σS ops Q (fuel + 1) listed Γ σ :=
  wa_v i τ hi hk hσ hg hd hdn (val_of_ix hop hx hy ht hs h.run.1) h.run.2
end
theorem arr0 {α : Type} (f : Nat → α) : (Array.range 0).map f = #[] := Array.eq_empty_of_size_eq_zero (by simp)
theorem fold0 {α β : Type} (g : β → α × Nat → β) (z : β) : Array.foldl g z (#[] : Array α).zipIdx 0 0 = z := by rfl
abbrev TK : TypeId := 105
abbrev TKs : TypeId := 154
/-- '[]T{x}' -/
theorem ok_build1 {α : Type} (f : α → Value) (v : α) {t e : TypeId} {x : Operand} {z : Value} (hop : o.op = .buildSlice t 1 #[(0, x)]) (hx : ev Γ x = some (f v)) (hg : gd Γ ops o = some true) {dd : Nat} (hd : o.dst = some dd) (hdn : Nat.blt dd n = true)
    (ht : elem? P t = some e) (hz : zero? P e = some z) (hz1 : z.cells.size = 1) (hs : size? P e = some 1) (hv : (f v).cells = #[f v])
    (h : ∀ b, K ((dd, .slice (some ⟨b, 0, none⟩) 1 1) :: Γ) (osl e f (some ⟨b, 0, none⟩) 1 [v] :: σ)) : OpOK P n w0 D ops o K Γ σ :=
  ok_buildSlice f [v] (ps := [(0, f v)]) (parts := #[(0, x)]) hop (by simp [hx]) hg hd hdn ht hz hs rfl (by decide) (by decide) (by
    have e : ((Array.range 1).map fun x => z.cells[x % z.cells.size]!).setIfInBounds 0 (f v) = #[f v] := Array.ext (by simp) (fun i h1 h2 => by
      have : i = 0 := by simp at h2; omega
      subst this
      simp)
    simpa [Instr.fill, hv] using e) h
/-- '[]mark{x}' -/
theorem ok_build0 {x : Operand} (hop : o.op = .buildSlice TKs 1 #[(0, x)]) (hx : ev Γ x = some (.agg #[])) (hg : gd Γ ops o = some true) {dd : Nat} (hd : o.dst = some dd) (hdn : Nat.blt dd n = true)
    (h : ∀ b, K ((dd, .slice (some ⟨b, 0, none⟩) 1 1) :: Γ) σ) : OpOK Try.prog n w0 D ops o K Γ σ :=
  ok_run hg hd hdn fun w hst f hf => by
    refine ⟨.slice (some ⟨w.heap.size, 0, none⟩) 1 1, w.alloc (.cells #[] TK), σ, ?_, hst.same (Only.alloc _ _ _), h _⟩
    have hz := ze_of (t := TK) (v := .agg #[]) rfl
    have hs := sz_of (t := TK) (k := 0) rfl
    simp [execOp, hop, hf _ _ hx, Instr.buildSlice, run_underlying (elem?_spec (el_of (t := TKs) (k := TK) rfl)), run_sizeOf' hs, Result.andThen, Instr.fill, newRow, newObj, Value.cells, arr0, fold0]
    rfl
/-- append(s, mark{}): no memory is in it -/
theorem ok_append0 {x y : Operand} {A B : Option Addr} {m c d : Nat} (hop : o.op = .call { callee := .builtin .append, args := #[x, y], argTypes := #[TKs, TKs] }) (hx : ev Γ x = some (.slice A m c)) (hy : ev Γ y = some (.slice B 1 d)) (hg : gd Γ ops o = some true) {dd : Nat} (hd : o.dst = some dd) (hdn : Nat.blt dd n = true)
    (hm : m < 9223372036854775807) (h : ∀ A' c', K ((dd, .slice A' (m + 1) c') :: Γ) σ) : OpOK Try.prog n w0 D ops o K Γ σ :=
  ok_run hg hd hdn fun w hst f hf => by
    have hz := ze_of (t := TK) (v := .agg #[]) rfl
    have hs := sz_of (t := TK) (k := 0) rfl
    have hb := by_of (t := TK) (k := 0) rfl
    have hi : (typeInfo TK).run Try.prog w = .ok ((Try.prog.info? TK).getD default) w ∧ ((Try.prog.info? TK).getD default).bytes = 0 := by
      unfold bytes? at hb
      cases he : Try.prog.info? TK with
      | none => rw [he] at hb; cases hb
      | some ie => rw [he] at hb; simp at hb; exact ⟨by simp [typeInfo, he], by simpa using hb⟩
    by_cases hc : m + 1 ≤ c
    · refine ⟨.slice A (m + 1) c, w, σ, ?_, hst, h _ _⟩
      cases A <;> cases B <;> simp [execOp, hop, resolve, invoke, builtin, hf _ _ hx, hf _ _ hy, Builtin.append_, run_underlying (elem?_spec (el_of (t := TKs) (k := TK) rfl)), run_sizeOf' hs, Result.andThen, Builtin.lenOf, hc, Builtin.firstCells, loadCells, loadCellsFrom, storeCells]
    · have hmax : ¬ ((9223372036854775807 : Int) < (m : Int) + 1) := by omega
      by_cases hfz : (Question.appendCap (m + 1) c TK).forced = true
      · refine ⟨.slice (some ⟨w.heap.size, 0, none⟩) (m + 1) 0, w.alloc (.cells #[] TK), σ, ?_, hst.same (Only.alloc _ _ _), h _ _⟩
        cases A <;> cases B <;> simp [execOp, hop, resolve, invoke, builtin, hf _ _ hx, hf _ _ hy, Builtin.append_, run_underlying (elem?_spec (el_of (t := TKs) (k := TK) rfl)), run_sizeOf' hs, Result.andThen, Builtin.lenOf, hc, Builtin.firstCells, loadCells, loadCellsFrom, storeCells, hi.1, hi.2, hmax, askRoom, run_zeroValue' hz, newRow, newObj, Builtin.zeroCells, Value.cells, arr0, hfz] <;> rfl
      · refine ⟨.slice (some ⟨w.drew.heap.size, 0, none⟩) (m + 1) ((Question.appendCap (m + 1) c TK).cut (w.tape w.drawn (Question.appendCap (m + 1) c TK))), w.drew.alloc (.cells #[] TK), σ, ?_, (hst.same (Only.drew _ _)).same (Only.alloc _ _ _), h _ _⟩
        cases A <;> cases B <;> simp [execOp, hop, resolve, invoke, builtin, hf _ _ hx, hf _ _ hy, Builtin.append_, run_underlying (elem?_spec (el_of (t := TKs) (k := TK) rfl)), run_sizeOf' hs, Result.andThen, Builtin.lenOf, hc, Builtin.firstCells, loadCells, loadCellsFrom, storeCells, hi.1, hi.2, hmax, askRoom, run_zeroValue' hz, newRow, newObj, Builtin.zeroCells, Value.cells, arr0, hfz] <;> rfl
end
end Go.Proofs.Ytofngbaefbbeiaa
