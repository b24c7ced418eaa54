/- A small logic for the walks: the steps as they are used. -/
import Derived.Test.YtofngbaefbbeiaaS5
import Derived.Test.YtofngbaefbbeiaaTy
set_option linter.unusedVariables false
set_option linter.unusedSimpArgs false
namespace Go.Proofs.Ytofngbaefbbeiaa
open Go.RowKit
section
variable {P : Program} {n : Nat} {w0 : World} {D : List Nat} {Γ : Tm} {σ : List Res} {ops : Array Oper} {o : Oper}
theorem wl_v {Q : QQ} {os : List Oper} {v : Value} {dd : Nat} (hg : gd Γ ops o = some true) (hd : o.dst = some dd) (hdn : Nat.blt dd n = true) (hv : ValOK P w0 D σ Γ o v) (h : WL P n w0 D ops os Q ((dd, v) :: Γ) σ) : WL P n w0 D ops (o :: os) Q Γ σ := wl_op (ok_val hg hd hdn hv h)
theorem wl_p {Q : QQ} {os : List Oper} {dd : Nat} (hg : gd Γ ops o = some false) (hd : o.dst = some dd) (hdn : Nat.blt dd n = true) (h : WL P n w0 D ops os Q ((dd, undef) :: Γ) σ) : WL P n w0 D ops (o :: os) Q Γ σ := wl_op (ok_pass hg hd hdn h)

theorem wl_call1 {Q : QQ} {os : List Oper} {dd : Nat} {f : FuncId} {args : Array Operand} {tys : Array TypeId} {vs : List Value} {v : Value} (hc : ∀ w, St w0 D σ w → Calls P f vs.toArray w (one v w)) (hop : o.op = .call { callee := .value (.func f), args := args, argTypes := tys })
    (ha : args.toList.map (ev Γ) = vs.map some) (hb : bodied P f = true) (hg : gd Γ ops o = some true) (hd : o.dst = some dd) (hdn : Nat.blt dd n = true) (h : WL P n w0 D ops os Q ((dd, v) :: Γ) σ) : WL P n w0 D ops (o :: os) Q Γ σ :=
  wl_op (ok_call1 hc hop ha hb hg hd hdn h)
theorem wl_callr {Q : QQ} {os : List Oper} {dd : Nat} {α : Type} (σ1 σ2 : List Res) {f : FuncId} {args : Array Operand} {tys : Array TypeId} {vs : List Value} {vf : α → Value} {ρ : α → List Res} {φ : α → Prop} (hc : ∀ w, St w0 D σ w → Calls P f vs.toArray w (Ret σ1 vf ρ φ w)) (hop : o.op = .call { callee := .value (.func f), args := args, argTypes := tys })
    (ha : args.toList.map (ev Γ) = vs.map some) (hb : bodied P f = true) (hg : gd Γ ops o = some true) (hd : o.dst = some dd) (hdn : Nat.blt dd n = true) (hσ : (σ1 ++ σ2).Perm σ) (h : ∀ x, φ x → WL P n w0 D ops os Q ((dd, vf x) :: Γ) (ρ x ++ σ2)) : WL P n w0 D ops (o :: os) Q Γ σ :=
  wl_op (ok_call σ1 σ2 hop ha hb hg hd hdn hσ hc h)
theorem wl_callv {Q : QQ} {os : List Oper} {dd : Nat} {α : Type} (σ1 σ2 : List Res) {g : Operand} {f : FuncId} {first captured : List Value} {args : Array Operand} {tys : Array TypeId} {vs : List Value} {vf : α → Value} {ρ : α → List Res} {φ : α → Prop} (hc : ∀ w, St w0 D σ w → Calls P f (first ++ vs ++ captured).toArray w (Ret σ1 vf ρ φ w)) (hop : o.op = .call { callee := .value g, args := args, argTypes := tys })
    (hgv : ev Γ g = some (.func (.func f) first.toArray captured.toArray)) (ha : args.toList.map (ev Γ) = vs.map some) (hb : bodied P f = true) (hg : gd Γ ops o = some true) (hd : o.dst = some dd) (hdn : Nat.blt dd n = true) (hσ : (σ1 ++ σ2).Perm σ) (h : ∀ x, φ x → WL P n w0 D ops os Q ((dd, vf x) :: Γ) (ρ x ++ σ2)) : WL P n w0 D ops (o :: os) Q Γ σ :=
  wl_op (ok_callv σ1 σ2 hop hgv ha hb hg hd hdn hσ hc h)
theorem St.keep {w : World} {σ1 σ2 : List Res} (h : St w0 D (σ1 ++ σ2) w) : St w0 D σ1 w :=
  ⟨h.only, h.ownl.ok, h.ownl.lt, fun r hr => h.new r (List.mem_append_left _ hr), h.ownl.nd⟩
theorem permOf {M σ' : List Res} (h : M.Perm σ') : ∃ rest, (M ++ rest).Perm σ' := ⟨[], by simpa using h⟩
/-- the loop, its pieces in whatever order -/
theorem wc_loopP {c : Code} {Q : QQ} {α : Type} (pre : α → Prop) (T : α → Tm) (M : α → List Res) (μ : α → Nat) (x0 : α) (hp : pre x0) (hT : tmLe (T x0) Γ) (hM : (M x0).Perm σ)
    (round : ∀ x, pre x → WC P n w0 D c (thenQ (fun Γ' σ' => ∃ x', pre x' ∧ tmLe (T x') Γ' ∧ (∃ rest, (M x' ++ rest).Perm σ') ∧ μ x' < μ x) Q) (T x) (M x)) : WC P n w0 D (.loop c) Q Γ σ := by
  refine ⟨fun a w hs hst => ?_⟩
  refine wp_loop_ghost (fun m a w => ∃ x, μ x = m ∧ pre x ∧ Sees n a (T x) ∧ St w0 D (M x) w) (μ x0) ⟨x0, rfl, hp, hs.less hT, hst.perm hM⟩ ?_
  rintro m a w ⟨x, rfl, hpx, hs, hst⟩
  refine wp_mono ((round x hpx).run a w hs hst) fun ex a' w' hq => ?_
  cases ex with
  | normal => obtain ⟨Γ', σ', hs', hst', x', h0, h1, ⟨rest, h2⟩, h3⟩ := hq; exact ⟨μ x', h3, x', rfl, h0, hs'.less h1, (hst'.perm h2).keep⟩
  | panic c => exact hq.elim
  | outgrown => exact hq.elim
  | exit i => exact hq
  | goto l => exact hq
  | ret => exact hq
/-! two stages: which operation it is; then how its value comes -/
/-- the value of a load -/
structure LD (P : Program) (w0 : World) (D : List Nat) (σ : List Res) (t : TypeId) (b : Bool) (pv : Value) (R : Value → Prop) : Prop where
  run : ∃ v, (∀ w, St w0 D σ w → (Instr.loadAt t pv).run P w = .ok v w) ∧ R v
/-- the value of an operation on two ints -/
structure BI (op : BinOp) (k : IntKind) (a b : Int) (R : Value → Prop) : Prop where
  run : ∃ v, (∀ (P : Program) (w : World), (binOp op 0 (.int k a) (.int k b)).run P w = .ok v w) ∧ R v
/-- the value of '&s[i]' -/
structure IX (P : Program) (w0 : World) (D : List Nat) (σ : List Res) (A : Option Addr) (m c : Nat) (i : Int) (s : Nat) (R : Value → Prop) : Prop where
  run : (0 ≤ i ∧ i < m ∧ ∀ w, St w0 D σ w → ∃ ad, A = some ad) ∧ R (.pointer (some (elA A s i)))
theorem binOp_int (op : BinOp) (t : TypeId) (k : IntKind) (a b : Int) : binOp op t (.int k a) (.int k b) = binOp op 0 (.int k a) (.int k b) := by cases op <;> rfl
theorem val_of_ld {t : TypeId} {x : Operand} {pv v : Value} (hop : o.op = .load t x) (hx : ev Γ x = some pv) (h : ∀ w, St w0 D σ w → (Instr.loadAt t pv).run P w = .ok v w) : ValOK P w0 D σ Γ o v :=
  ⟨fun w hst g hg => by simp [execOp, hop, hg _ _ hx, h w hst, Result.andThen]⟩
theorem val_of_bi {op : BinOp} {t t2 : TypeId} {x y : Operand} {k : IntKind} {a b : Int} {v : Value} (hop : o.op = .binOp op t x y t2) (hx : ev Γ x = some (.int k a)) (hy : ev Γ y = some (.int k b)) (h : ∀ (P : Program) (w : World), (binOp op 0 (.int k a) (.int k b)).run P w = .ok v w) : ValOK P w0 D σ Γ o v :=
  ⟨fun w hst g hg => by
    have h1 := h P w
    rw [← binOp_int op t] at h1
    have h2 : (eqGuard op t x y (.int k a) (.int k b)).run P w = .ok () w := by cases op <;> simp [eqGuard]
    simp [execOp, hop, hg _ _ hx, hg _ _ hy, h1, h2, Result.andThen]⟩
theorem val_of_ix {t e : TypeId} {s m c : Nat} {x y : Operand} {A : Option Addr} {i : Int} {k : IntKind} (hop : o.op = .indexAddr t x y) (hx : ev Γ x = some (.slice A m c)) (hy : ev Γ y = some (.int k i)) (ht : elem? P t = some e) (hs : size? P e = some s)
    (h : 0 ≤ i ∧ i < m ∧ ∀ w, St w0 D σ w → ∃ ad, A = some ad) : ValOK P w0 D σ Γ o (.pointer (some (elA A s i))) :=
  ⟨fun w hst => (val_index hop hx hy ht hs h.1 h.2.1 (h.2.2 w hst)).run w hst⟩

section bi
variable {k : IntKind} {a b : Int} {R : Value → Prop}
theorem bi_cmp {op : BinOp} {c : Bool} (hc : isCmp op = true) (hb : c = true ↔ cmpP op a b) (h : R (.bool c)) : BI op k a b R := ⟨.bool c, fun P w => by
  cases op <;> simp only [isCmp, reduceCtorEq] at hc <;> simp [binOp, Op.intCmp, Result.andThen] <;>
    (simp only [cmpP] at hb; cases c <;> simp at hb ⊢ <;> omega), h⟩
theorem bi_eql_t (h : a = b) (hr : R (.bool true)) : BI .eql k a b R := bi_cmp rfl (by simp [cmpP, h]) hr
theorem bi_eql_f (h : a ≠ b) (hr : R (.bool false)) : BI .eql k a b R := bi_cmp rfl (by simp [cmpP, h]) hr
theorem bi_neq_t (h : a ≠ b) (hr : R (.bool true)) : BI .neq k a b R := bi_cmp rfl (by simp [cmpP, h]) hr
theorem bi_neq_f (h : a = b) (hr : R (.bool false)) : BI .neq k a b R := bi_cmp rfl (by simp [cmpP, h]) hr
theorem bi_lss_t (h : a < b) (hr : R (.bool true)) : BI .lss k a b R := bi_cmp rfl (by simp [cmpP, h]) hr
theorem bi_lss_f (h : b ≤ a) (hr : R (.bool false)) : BI .lss k a b R := bi_cmp rfl (by simp [cmpP]; omega) hr
theorem bi_leq_t (h : a ≤ b) (hr : R (.bool true)) : BI .leq k a b R := bi_cmp rfl (by simp [cmpP, h]) hr
theorem bi_leq_f (h : b < a) (hr : R (.bool false)) : BI .leq k a b R := bi_cmp rfl (by simp [cmpP]; omega) hr
theorem bi_gtr_t (h : b < a) (hr : R (.bool true)) : BI .gtr k a b R := bi_cmp rfl (by simp [cmpP, h]) hr
theorem bi_gtr_f (h : a ≤ b) (hr : R (.bool false)) : BI .gtr k a b R := bi_cmp rfl (by simp [cmpP]; omega) hr
theorem bi_geq_t (h : b ≤ a) (hr : R (.bool true)) : BI .geq k a b R := bi_cmp rfl (by simp [cmpP, h]) hr
theorem bi_geq_f (h : a < b) (hr : R (.bool false)) : BI .geq k a b R := bi_cmp rfl (by simp [cmpP]; omega) hr
theorem bi_lss (ht : a < b → R (.bool true)) (hf : b ≤ a → R (.bool false)) : BI .lss k a b R := by
  by_cases h : a < b
  · exact bi_lss_t h (ht h)
  · exact bi_lss_f (by omega) (hf (by omega))
theorem bi_eql (ht : a = b → R (.bool true)) (hf : a ≠ b → R (.bool false)) : BI .eql k a b R := by
  by_cases h : a = b
  · exact bi_eql_t h (ht h)
  · exact bi_eql_f h (hf h)
theorem bi_neq (ht : a ≠ b → R (.bool true)) (hf : a = b → R (.bool false)) : BI .neq k a b R := by
  by_cases h : a = b
  · exact bi_neq_f h (hf h)
  · exact bi_neq_t h (ht h)
theorem bi_add (hr : -9223372036854775808 ≤ a + b ∧ a + b ≤ 9223372036854775807) (h : R (.int .i64 (a + b))) : BI .add .i64 a b R := ⟨_, fun P w => by simp [binOp, Op.intArith, IntWalk.i64_in _ hr], h⟩
theorem bi_sub (hr : -9223372036854775808 ≤ a - b ∧ a - b ≤ 9223372036854775807) (h : R (.int .i64 (a - b))) : BI .sub .i64 a b R := ⟨_, fun P w => by simp [binOp, Op.intArith, IntWalk.i64_in _ hr], h⟩
theorem bi_mul (hr : -9223372036854775808 ≤ a * b ∧ a * b ≤ 9223372036854775807) (h : R (.int .i64 (a * b))) : BI .mul .i64 a b R := ⟨_, fun P w => by simp [binOp, Op.intArith, IntWalk.i64_in _ hr], h⟩
end bi

section ld
variable {α : Type} {f : α → Value} {A : Option Addr} {c : Nat} {xs : List α} {t e : TypeId} {i : Int} {R : Value → Prop}
theorem ld_blk (m : Nat) {t' : TypeId} {b k : Nat} {cs : List Value} {v : Value} (hi : σ[m]? = some (blk b cs t')) (ht : agg? P t = some false) (hv : nth cs k = some v) (h : R v) : LD P w0 D σ t false (.pointer (some ⟨b, k, none⟩)) R :=
  ⟨v, fun w hst => by
    have hb : w.heap[b]? = some (.cells cs.toArray t' (0, 0)) := hst.at_ m hi
    have hc : w.cell? ⟨b, k, none⟩ = some v := by rw [nth_get] at hv; simp [World.cell?, hb, hv]
    simp [Instr.loadAt, Instr.sureAddr, loadVar, run_isAgg ht, hc, Result.andThen], h⟩
theorem ld_agg (m : Nat) {t' : TypeId} {b k s : Nat} {cs vs : List Value} (hi : σ[m]? = some (blk b cs t')) (ht : agg? P t = some true) (hm : size? P t = some s) (hv : (cs.drop k).take s = vs) (hl : vs.length = s) (h : R (.agg vs.toArray)) : LD P w0 D σ t true (.pointer (some ⟨b, k, none⟩)) R :=
  ⟨_, fun w hst => by
    have hb : w.heap[b]? = some (.cells cs.toArray t' (0, 0)) := hst.at_ m hi
    have hc : (loadCells ⟨b, k, none⟩ vs.length).run P w = .ok vs.toArray w := by
      refine run_loadCells_list _ _ vs (fun j v hj => ?_)
      rw [add_own]
      simp only [World.cell?, hb]
      have hj' : j < vs.length := (List.getElem?_eq_some_iff.1 hj).1
      rw [← hv, List.getElem?_take_of_lt (by omega), List.getElem?_drop] at hj
      simpa using hj
    rw [hl] at hc
    simp [Instr.loadAt, Instr.sureAddr, loadVar, run_isAgg ht, run_sizeOf' hm, hc, Result.andThen], h⟩
theorem ld_cell {ad : Addr} {v : Value} (ht : agg? P t = some false) (hv : ∀ w, St w0 D σ w → w.cell? ad = some v) (h : R v) : LD P w0 D σ t false (.pointer (some ad)) R :=
  ⟨v, fun w hst => by simp [Instr.loadAt, Instr.sureAddr, loadVar, run_isAgg ht, hv w hst, Result.andThen], h⟩
theorem ld_old [Inhabited α] (hr : RdO f w0 D A c xs) (ht : agg? P t = some false) (h0 : 0 ≤ i) (h1 : i < xs.length) (h : R (f (gt xs i))) : LD P w0 D σ t false (.pointer (some (elA A 1 i))) R :=
  ld_cell ht (fun w hst => (hr.now hst).cell h0 h1) h
theorem ld_own [Inhabited α] (m : Nat) (hi : σ[m]? = some (osl e f A c xs)) (ht : agg? P t = some false) (h0 : 0 ≤ i) (h1 : i < xs.length) (h : R (f (gt xs i))) : LD P w0 D σ t false (.pointer (some (elA A 1 i))) R :=
  ld_cell ht (fun w hst => (osl_reads (hst.at_ m hi)).cell h0 h1) h
theorem ix_old {s : Nat} (hr : RdO f w0 D A c xs) (h0 : 0 ≤ i) (h1 : i < xs.length) (h : R (.pointer (some (elA A s i)))) : IX P w0 D σ A xs.length c i s R :=
  ⟨⟨h0, h1, fun w hst => (hr.now hst).some_ h0 h1⟩, h⟩
theorem ix_lit {s m : Nat} {ad : Addr} (h0 : 0 ≤ i) (h1 : i < m) (h : R (.pointer (some (elA (some ad) s i)))) : IX P w0 D σ (some ad) m c i s R :=
  ⟨⟨h0, h1, fun w hst => ⟨_, rfl⟩⟩, h⟩
theorem ix_own {s : Nat} (m : Nat) (hi : σ[m]? = some (osl e f A c xs)) (h0 : 0 ≤ i) (h1 : i < xs.length) (h : R (.pointer (some (elA A s i)))) : IX P w0 D σ A xs.length c i s R :=
  ⟨⟨h0, h1, fun w hst => (osl_reads (hst.at_ m hi)).some_ h0 h1⟩, h⟩
end ld

/-! ### a piece is sought by its shape -/
inductive HasR : List Res → Res → Prop
  | here {r : Res} {σ : List Res} : HasR (r :: σ) r
  | there {q r : Res} {σ : List Res} : HasR σ r → HasR (q :: σ) r
theorem HasR.idx {σ : List Res} {r : Res} (h : HasR σ r) : ∃ m : Nat, σ[m]? = some r := by
  induction h with
  | here => exact ⟨0, rfl⟩
  | there _ ih => obtain ⟨m, hm⟩ := ih; exact ⟨m + 1, by simpa using hm⟩
section has
variable {α : Type} {f : α → Value} {A : Option Addr} {c : Nat} {xs : List α} {t e : TypeId} {i : Int} {R : Value → Prop}
/-- reading at a block whose cells are cs -/
structure LK (P : Program) (w0 : World) (D : List Nat) (σ : List Res) (t : TypeId) (g : Bool) (b k : Nat) (cs : List Value) (R : Value → Prop) : Prop where
  run : ∀ (m : Nat) (t' : TypeId), σ[m]? = some (blk b cs t') → LD P w0 D σ t g (.pointer (some ⟨b, k, none⟩)) R
theorem ld_b {g : Bool} {b k : Nat} {cs : List Value} {t' : TypeId} (hi : HasR σ (blk b cs t')) (h : LK P w0 D σ t g b k cs R) : LD P w0 D σ t g (.pointer (some ⟨b, k, none⟩)) R := by
  obtain ⟨m, hm⟩ := hi.idx
  exact h.run m t' hm
theorem lk_c {b k : Nat} {cs : List Value} {v : Value} (ht : agg? P t = some false) (hv : nth cs k = some v) (h : R v) : LK P w0 D σ t false b k cs R := ⟨fun m t' hi => ld_blk m hi ht hv h⟩
theorem lk_a {b k s : Nat} {cs vs : List Value} (ht : agg? P t = some true) (hm : size? P t = some s) (hv : (cs.drop k).take s = vs) (hl : vs.length = s) (h : R (.agg vs.toArray)) : LK P w0 D σ t true b k cs R := ⟨fun m t' hi => ld_agg m hi ht hm hv hl h⟩
/-- at place i of a row that reads xs -/
structure RK (xs : List α) (i : Int) (Z : Prop) : Prop where
  h0 : 0 ≤ i
  h1 : i < xs.length
  h : Z
theorem ld_r [Inhabited α] (hi : HasR σ (osl e f A c xs)) (h : RK xs i (agg? P t = some false ∧ R (f (gt xs i)))) : LD P w0 D σ t false (.pointer (some (elA A 1 i))) R := by
  obtain ⟨m, hm⟩ := hi.idx
  exact ld_own m hm h.h.1 h.h0 h.h1 h.h.2
theorem ix_r {s : Nat} (hi : HasR σ (osl e f A c xs)) (h : RK xs i (R (.pointer (some (elA A s i))))) : IX P w0 D σ A xs.length c i s R := by
  obtain ⟨m, hm⟩ := hi.idx
  exact ix_own m hm h.h0 h.h1 h.h
theorem bi_t {op : BinOp} {k : IntKind} {a b : Int} (hc : isCmp op = true) (h : cmpP op a b) (hr : R (.bool true)) : BI op k a b R := bi_cmp hc (by simp [h]) hr
theorem bi_f {op : BinOp} {k : IntKind} {a b : Int} (hc : isCmp op = true) (h : ¬ cmpP op a b) (hr : R (.bool false)) : BI op k a b R := bi_cmp hc (by simp [h]) hr
end has

section stages
variable {Q : QQ} {os : List Oper} {dd : Nat} {K : Tm → Prop}
theorem wl_ld {t : TypeId} {x : Operand} {pv : Value} {b : Bool} (hop : o.op = .load t x) (hg : gd Γ ops o = some true) (hd : o.dst = some dd) (hdn : Nat.blt dd n = true) (hx : ev Γ x = some pv) (hb : agg? P t = some b) (h : LD P w0 D σ t b pv (fun v => WL P n w0 D ops os Q ((dd, v) :: Γ) σ)) : WL P n w0 D ops (o :: os) Q Γ σ := by
  obtain ⟨v, h1, h2⟩ := h.run
  exact wl_v hg hd hdn (val_of_ld hop hx h1) h2
theorem wq_ld {t : TypeId} {x : Operand} {pv : Value} {b : Bool} (hop : o.op = .load t x) (hg : gd Γ ops o = some true) (hd : o.dst = some dd) (hdn : Nat.blt dd n = true) (hx : ev Γ x = some pv) (hb : agg? P t = some b) (h : LD P w0 D σ t b pv (fun v => WQ P n w0 D σ ops K os ((dd, v) :: Γ))) : WQ P n w0 D σ ops K (o :: os) Γ := by
  obtain ⟨v, h1, h2⟩ := h.run
  exact wq_val hg hd hdn (val_of_ld hop hx h1) h2
theorem wl_bi {op : BinOp} {t t2 : TypeId} {x y : Operand} {k : IntKind} {a b : Int} (hop : o.op = .binOp op t x y t2) (hg : gd Γ ops o = some true) (hd : o.dst = some dd) (hdn : Nat.blt dd n = true) (hx : ev Γ x = some (.int k a)) (hy : ev Γ y = some (.int k b)) (h : BI op k a b (fun v => WL P n w0 D ops os Q ((dd, v) :: Γ) σ)) : WL P n w0 D ops (o :: os) Q Γ σ := by
  obtain ⟨v, h1, h2⟩ := h.run
  exact wl_v hg hd hdn (val_of_bi hop hx hy h1) h2
theorem wq_bi {op : BinOp} {t t2 : TypeId} {x y : Operand} {k : IntKind} {a b : Int} (hop : o.op = .binOp op t x y t2) (hg : gd Γ ops o = some true) (hd : o.dst = some dd) (hdn : Nat.blt dd n = true) (hx : ev Γ x = some (.int k a)) (hy : ev Γ y = some (.int k b)) (h : BI op k a b (fun v => WQ P n w0 D σ ops K os ((dd, v) :: Γ))) : WQ P n w0 D σ ops K (o :: os) Γ := by
  obtain ⟨v, h1, h2⟩ := h.run
  exact wq_val hg hd hdn (val_of_bi hop hx hy h1) h2
theorem wl_ix {t e : TypeId} {s m c : Nat} {x y : Operand} {A : Option Addr} {i : Int} {k : IntKind} (hop : o.op = .indexAddr t x y) (hg : gd Γ ops o = some true) (hd : o.dst = some dd) (hdn : Nat.blt dd n = true) (hx : ev Γ x = some (.slice A m c)) (hy : ev Γ y = some (.int k i)) (ht : elem? P t = some e) (hs : size? P e = some s) (h : IX P w0 D σ A m c i s (fun v => WL P n w0 D ops os Q ((dd, v) :: Γ) σ)) : WL P n w0 D ops (o :: os) Q Γ σ :=
  wl_v hg hd hdn (val_of_ix hop hx hy ht hs h.run.1) h.run.2
theorem wq_ix {t e : TypeId} {s m c : Nat} {x y : Operand} {A : Option Addr} {i : Int} {k : IntKind} (hop : o.op = .indexAddr t x y) (hg : gd Γ ops o = some true) (hd : o.dst = some dd) (hdn : Nat.blt dd n = true) (hx : ev Γ x = some (.slice A m c)) (hy : ev Γ y = some (.int k i)) (ht : elem? P t = some e) (hs : size? P e = some s) (h : IX P w0 D σ A m c i s (fun v => WQ P n w0 D σ ops K os ((dd, v) :: Γ))) : WQ P n w0 D σ ops K (o :: os) Γ :=
  wq_val hg hd hdn (val_of_ix hop hx hy ht hs h.run.1) h.run.2
end stages
end

end Go.Proofs.Ytofngbaefbbeiaa
