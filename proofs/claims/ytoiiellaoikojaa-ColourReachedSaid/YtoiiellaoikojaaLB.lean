/- A small logic for the walks: the steps as they are used. Tables of marks: a row of maps, each a set of columns. Tables in the making; pieces turned into others. Elements without size; look-ups; a cut. -/
import Derived.Test.YtoiiellaoikojaaLA
import Derived.Test.YtoiiellaoikojaaTy
import Derived.Maps.OwnSet
import Derived.Lib.SlKeysI
set_option linter.unusedVariables false
set_option linter.unusedSimpArgs false
set_option maxHeartbeats 8000000
namespace Go.Proofs.Ytoiiellaoikojaa
open Go.RowKit Go.Maps
section
variable {P : Program} {n : Nat} {w0 : World} {D : List Nat} {Γ : Tm} {σ : List Res} {ops : Array Oper} {o : Oper}
theorem wl_v {Q : QQ} {os : List Oper} {v : Value} {dd : Nat} (hg : gd Γ ops o = some true) (hd : o.dst = some dd) (hdn : Nat.blt dd n = true) (hv : ValOK P w0 D σ Γ o v) (h : WL P n w0 D ops os Q ((dd, v) :: Γ) σ) : WL P n w0 D ops (o :: os) Q Γ σ := wl_op (ok_val hg hd hdn hv h)
theorem wl_p {Q : QQ} {os : List Oper} {dd : Nat} (hg : gd Γ ops o = some false) (hd : o.dst = some dd) (hdn : Nat.blt dd n = true) (h : WL P n w0 D ops os Q ((dd, undef) :: Γ) σ) : WL P n w0 D ops (o :: os) Q Γ σ := wl_op (ok_pass hg hd hdn h)

theorem wl_call1 {Q : QQ} {os : List Oper} {dd : Nat} {f : FuncId} {args : Array Operand} {tys : Array TypeId} {vs : List Value} {v : Value} (hc : ∀ w, St w0 D σ w → Calls P f vs.toArray w (one v w)) (hop : o.op = .call { callee := .value (.func f), args := args, argTypes := tys })
    (ha : args.toList.map (ev Γ) = vs.map some) (hb : bodied P f = true) (hg : gd Γ ops o = some true) (hd : o.dst = some dd) (hdn : Nat.blt dd n = true) (h : WL P n w0 D ops os Q ((dd, v) :: Γ) σ) : WL P n w0 D ops (o :: os) Q Γ σ :=
  wl_op (ok_call1 hc hop ha hb hg hd hdn h)
theorem wl_callr {Q : QQ} {os : List Oper} {dd : Nat} {α : Type} (σ1 σ2 : List Res) {f : FuncId} {args : Array Operand} {tys : Array TypeId} {vs : List Value} {vf : α → Value} {ρ : α → List Res} {φ : α → Prop} (hc : ∀ w, St w0 D σ w → Calls P f vs.toArray w (Ret σ1 vf ρ φ w)) (hop : o.op = .call { callee := .value (.func f), args := args, argTypes := tys })
    (ha : args.toList.map (ev Γ) = vs.map some) (hb : bodied P f = true) (hg : gd Γ ops o = some true) (hd : o.dst = some dd) (hdn : Nat.blt dd n = true) (hσ : (σ1 ++ σ2).Perm σ) (h : ∀ x, φ x → WL P n w0 D ops os Q ((dd, vf x) :: Γ) (ρ x ++ σ2)) : WL P n w0 D ops (o :: os) Q Γ σ :=
  wl_op (ok_call σ1 σ2 hop ha hb hg hd hdn hσ hc h)
theorem wl_callv {Q : QQ} {os : List Oper} {dd : Nat} {α : Type} (σ1 σ2 : List Res) {g : Operand} {f : FuncId} {first captured : List Value} {args : Array Operand} {tys : Array TypeId} {vs : List Value} {vf : α → Value} {ρ : α → List Res} {φ : α → Prop} (hc : ∀ w, St w0 D σ w → Calls P f (first ++ vs ++ captured).toArray w (Ret σ1 vf ρ φ w)) (hop : o.op = .call { callee := .value g, args := args, argTypes := tys })
    (hgv : ev Γ g = some (.func (.func f) first.toArray captured.toArray)) (ha : args.toList.map (ev Γ) = vs.map some) (hb : bodied P f = true) (hg : gd Γ ops o = some true) (hd : o.dst = some dd) (hdn : Nat.blt dd n = true) (hσ : (σ1 ++ σ2).Perm σ) (h : ∀ x, φ x → WL P n w0 D ops os Q ((dd, vf x) :: Γ) (ρ x ++ σ2)) : WL P n w0 D ops (o :: os) Q Γ σ :=
  wl_op (ok_callv σ1 σ2 hop hgv ha hb hg hd hdn hσ hc h)
theorem St.keep {w : World} {σ1 σ2 : List Res} (h : St w0 D (σ1 ++ σ2) w) : St w0 D σ1 w :=
  ⟨h.only, h.ownl.ok, h.ownl.lt, fun r hr => h.new r (List.mem_append_left _ hr), h.ownl.nd⟩
theorem permOf {M σ' : List Res} (h : M.Perm σ') : ∃ rest, (M ++ rest).Perm σ' := ⟨[], by simpa using h⟩
/-- the loop, its pieces in whatever order -/
theorem wc_loopP {c : Code} {Q : QQ} {α : Type} (pre : α → Prop) (T : α → Tm) (M : α → List Res) (μ : α → Nat) (x0 : α) (hp : pre x0) (hT : tmLe (T x0) Γ) (hM : (M x0).Perm σ)
    (round : ∀ x, pre x → WC P n w0 D c (thenQ (fun Γ' σ' => ∃ x', pre x' ∧ tmLe (T x') Γ' ∧ (∃ rest, (M x' ++ rest).Perm σ') ∧ μ x' < μ x) Q) (T x) (M x)) : WC P n w0 D (.loop c) Q Γ σ := by
  refine ⟨fun a w hs hst => ?_⟩
  refine wp_loop_ghost (fun m a w => ∃ x, μ x = m ∧ pre x ∧ Sees n a (T x) ∧ St w0 D (M x) w) (μ x0) ⟨x0, rfl, hp, hs.less hT, hst.perm hM⟩ ?_
  rintro m a w ⟨x, rfl, hpx, hs, hst⟩
  refine wp_mono ((round x hpx).run a w hs hst) fun ex a' w' hq => ?_
  cases ex with
  | normal => obtain ⟨Γ', σ', hs', hst', x', h0, h1, ⟨rest, h2⟩, h3⟩ := hq; exact ⟨μ x', h3, x', rfl, h0, hs'.less h1, (hst'.perm h2).keep⟩
  | panic c => exact hq.elim
  | outgrown => exact hq.elim
  | exit i => exact hq
  | goto l => exact hq
  | ret => exact hq
/-! two stages: which operation it is; then how its value comes -/
/-- the value of a load -/
structure LD (P : Program) (w0 : World) (D : List Nat) (σ : List Res) (t : TypeId) (b : Bool) (pv : Value) (R : Value → Prop) : Prop where
  run : ∃ v, (∀ w, St w0 D σ w → (Instr.loadAt t pv).run P w = .ok v w) ∧ R v
/-- the value of an operation on two ints -/
structure BI (op : BinOp) (k : IntKind) (a b : Int) (R : Value → Prop) : Prop where
  run : ∃ v, (∀ (P : Program) (w : World), (binOp op 0 (.int k a) (.int k b)).run P w = .ok v w) ∧ R v
/-- the value of '&s[i]' -/
structure IX (P : Program) (w0 : World) (D : List Nat) (σ : List Res) (A : Option Addr) (m c : Nat) (i : Int) (s : Nat) (R : Value → Prop) : Prop where
  run : (0 ≤ i ∧ i < m ∧ ∀ w, St w0 D σ w → ∃ ad, A = some ad) ∧ R (.pointer (some (elA A s i)))
theorem binOp_int (op : BinOp) (t : TypeId) (k : IntKind) (a b : Int) : binOp op t (.int k a) (.int k b) = binOp op 0 (.int k a) (.int k b) := by cases op <;> rfl
theorem val_of_ld {t : TypeId} {x : Operand} {pv v : Value} (hop : o.op = .load t x) (hx : ev Γ x = some pv) (h : ∀ w, St w0 D σ w → (Instr.loadAt t pv).run P w = .ok v w) : ValOK P w0 D σ Γ o v :=
  ⟨fun w hst g hg => by simp [execOp, hop, hg _ _ hx, h w hst, Result.andThen]⟩
theorem val_of_bi {op : BinOp} {t t2 : TypeId} {x y : Operand} {k : IntKind} {a b : Int} {v : Value} (hop : o.op = .binOp op t x y t2) (hx : ev Γ x = some (.int k a)) (hy : ev Γ y = some (.int k b)) (h : ∀ (P : Program) (w : World), (binOp op 0 (.int k a) (.int k b)).run P w = .ok v w) : ValOK P w0 D σ Γ o v :=
  ⟨fun w hst g hg => by
    have h1 := h P w
    rw [← binOp_int op t] at h1
    have h2 : (eqGuard op t x y (.int k a) (.int k b)).run P w = .ok () w := by cases op <;> simp [eqGuard]
    simp [execOp, hop, hg _ _ hx, hg _ _ hy, h1, h2, Result.andThen]⟩
theorem val_of_ix {t e : TypeId} {s m c : Nat} {x y : Operand} {A : Option Addr} {i : Int} {k : IntKind} (hop : o.op = .indexAddr t x y) (hx : ev Γ x = some (.slice A m c)) (hy : ev Γ y = some (.int k i)) (ht : elem? P t = some e) (hs : size? P e = some s)
    (h : 0 ≤ i ∧ i < m ∧ ∀ w, St w0 D σ w → ∃ ad, A = some ad) : ValOK P w0 D σ Γ o (.pointer (some (elA A s i))) :=
  ⟨fun w hst => (val_index hop hx hy ht hs h.1 h.2.1 (h.2.2 w hst)).run w hst⟩

section bi
variable {k : IntKind} {a b : Int} {R : Value → Prop}
theorem bi_cmp {op : BinOp} {c : Bool} (hc : isCmp op = true) (hb : c = true ↔ cmpP op a b) (h : R (.bool c)) : BI op k a b R := ⟨.bool c, fun P w => by
  cases op <;> simp only [isCmp, reduceCtorEq] at hc <;> simp [binOp, Op.intCmp, Result.andThen] <;>
    (simp only [cmpP] at hb; cases c <;> simp at hb ⊢ <;> omega), h⟩
theorem bi_eql_t (h : a = b) (hr : R (.bool true)) : BI .eql k a b R := bi_cmp rfl (by simp [cmpP, h]) hr
theorem bi_eql_f (h : a ≠ b) (hr : R (.bool false)) : BI .eql k a b R := bi_cmp rfl (by simp [cmpP, h]) hr
theorem bi_neq_t (h : a ≠ b) (hr : R (.bool true)) : BI .neq k a b R := bi_cmp rfl (by simp [cmpP, h]) hr
theorem bi_neq_f (h : a = b) (hr : R (.bool false)) : BI .neq k a b R := bi_cmp rfl (by simp [cmpP, h]) hr
theorem bi_lss_t (h : a < b) (hr : R (.bool true)) : BI .lss k a b R := bi_cmp rfl (by simp [cmpP, h]) hr
theorem bi_lss_f (h : b ≤ a) (hr : R (.bool false)) : BI .lss k a b R := bi_cmp rfl (by simp [cmpP]; omega) hr
theorem bi_leq_t (h : a ≤ b) (hr : R (.bool true)) : BI .leq k a b R := bi_cmp rfl (by simp [cmpP, h]) hr
theorem bi_leq_f (h : b < a) (hr : R (.bool false)) : BI .leq k a b R := bi_cmp rfl (by simp [cmpP]; omega) hr
theorem bi_gtr_t (h : b < a) (hr : R (.bool true)) : BI .gtr k a b R := bi_cmp rfl (by simp [cmpP, h]) hr
theorem bi_gtr_f (h : a ≤ b) (hr : R (.bool false)) : BI .gtr k a b R := bi_cmp rfl (by simp [cmpP]; omega) hr
theorem bi_geq_t (h : b ≤ a) (hr : R (.bool true)) : BI .geq k a b R := bi_cmp rfl (by simp [cmpP, h]) hr
theorem bi_geq_f (h : a < b) (hr : R (.bool false)) : BI .geq k a b R := bi_cmp rfl (by simp [cmpP]; omega) hr
theorem bi_lss (ht : a < b → R (.bool true)) (hf : b ≤ a → R (.bool false)) : BI .lss k a b R := by
  by_cases h : a < b
  · exact bi_lss_t h (ht h)
  · exact bi_lss_f (by omega) (hf (by omega))
theorem bi_eql (ht : a = b → R (.bool true)) (hf : a ≠ b → R (.bool false)) : BI .eql k a b R := by
  by_cases h : a = b
  · exact bi_eql_t h (ht h)
  · exact bi_eql_f h (hf h)
theorem bi_neq (ht : a ≠ b → R (.bool true)) (hf : a = b → R (.bool false)) : BI .neq k a b R := by
  by_cases h : a = b
  · exact bi_neq_f h (hf h)
  · exact bi_neq_t h (ht h)
theorem bi_add (hr : -9223372036854775808 ≤ a + b ∧ a + b ≤ 9223372036854775807) (h : R (.int .i64 (a + b))) : BI .add .i64 a b R := ⟨_, fun P w => by simp [binOp, Op.intArith, IntWalk.i64_in _ hr], h⟩
theorem bi_sub (hr : -9223372036854775808 ≤ a - b ∧ a - b ≤ 9223372036854775807) (h : R (.int .i64 (a - b))) : BI .sub .i64 a b R := ⟨_, fun P w => by simp [binOp, Op.intArith, IntWalk.i64_in _ hr], h⟩
theorem bi_mul (hr : -9223372036854775808 ≤ a * b ∧ a * b ≤ 9223372036854775807) (h : R (.int .i64 (a * b))) : BI .mul .i64 a b R := ⟨_, fun P w => by simp [binOp, Op.intArith, IntWalk.i64_in _ hr], h⟩
end bi

section ld
variable {α : Type} {f : α → Value} {A : Option Addr} {c : Nat} {xs : List α} {t e : TypeId} {i : Int} {R : Value → Prop}
theorem ld_blk (m : Nat) {t' : TypeId} {b k : Nat} {cs : List Value} {v : Value} (hi : σ[m]? = some (blk b cs t')) (ht : agg? P t = some false) (hv : nth cs k = some v) (h : R v) : LD P w0 D σ t false (.pointer (some ⟨b, k, none⟩)) R :=
  ⟨v, fun w hst => by
    have hb : w.heap[b]? = some (.cells cs.toArray t' (0, 0)) := hst.at_ m hi
    have hc : w.cell? ⟨b, k, none⟩ = some v := by rw [nth_get] at hv; simp [World.cell?, hb, hv]
    simp [Instr.loadAt, Instr.sureAddr, loadVar, run_isAgg ht, hc, Result.andThen], h⟩
theorem ld_agg (m : Nat) {t' : TypeId} {b k s : Nat} {cs vs : List Value} (hi : σ[m]? = some (blk b cs t')) (ht : agg? P t = some true) (hm : size? P t = some s) (hv : (cs.drop k).take s = vs) (hl : vs.length = s) (h : R (.agg vs.toArray)) : LD P w0 D σ t true (.pointer (some ⟨b, k, none⟩)) R :=
  ⟨_, fun w hst => by
    have hb : w.heap[b]? = some (.cells cs.toArray t' (0, 0)) := hst.at_ m hi
    have hc : (loadCells ⟨b, k, none⟩ vs.length).run P w = .ok vs.toArray w := by
      refine run_loadCells_list _ _ vs (fun j v hj => ?_)
      rw [add_own]
      simp only [World.cell?, hb]
      have hj' : j < vs.length := (List.getElem?_eq_some_iff.1 hj).1
      rw [← hv, List.getElem?_take_of_lt (by omega), List.getElem?_drop] at hj
      simpa using hj
    rw [hl] at hc
    simp [Instr.loadAt, Instr.sureAddr, loadVar, run_isAgg ht, run_sizeOf' hm, hc, Result.andThen], h⟩
theorem ld_cell {ad : Addr} {v : Value} (ht : agg? P t = some false) (hv : ∀ w, St w0 D σ w → w.cell? ad = some v) (h : R v) : LD P w0 D σ t false (.pointer (some ad)) R :=
  ⟨v, fun w hst => by simp [Instr.loadAt, Instr.sureAddr, loadVar, run_isAgg ht, hv w hst, Result.andThen], h⟩
theorem ld_old [Inhabited α] (hr : RdO f w0 D A c xs) (ht : agg? P t = some false) (h0 : 0 ≤ i) (h1 : i < xs.length) (h : R (f (gt xs i))) : LD P w0 D σ t false (.pointer (some (elA A 1 i))) R :=
  ld_cell ht (fun w hst => (hr.now hst).cell h0 h1) h
theorem ld_own [Inhabited α] (m : Nat) (hi : σ[m]? = some (osl e f A c xs)) (ht : agg? P t = some false) (h0 : 0 ≤ i) (h1 : i < xs.length) (h : R (f (gt xs i))) : LD P w0 D σ t false (.pointer (some (elA A 1 i))) R :=
  ld_cell ht (fun w hst => (osl_reads (hst.at_ m hi)).cell h0 h1) h
theorem ix_old {s : Nat} (hr : RdO f w0 D A c xs) (h0 : 0 ≤ i) (h1 : i < xs.length) (h : R (.pointer (some (elA A s i)))) : IX P w0 D σ A xs.length c i s R :=
  ⟨⟨h0, h1, fun w hst => (hr.now hst).some_ h0 h1⟩, h⟩
theorem ix_lit {s m : Nat} {ad : Addr} (h0 : 0 ≤ i) (h1 : i < m) (h : R (.pointer (some (elA (some ad) s i)))) : IX P w0 D σ (some ad) m c i s R :=
  ⟨⟨h0, h1, fun w hst => ⟨_, rfl⟩⟩, h⟩
theorem ix_own {s : Nat} (m : Nat) (hi : σ[m]? = some (osl e f A c xs)) (h0 : 0 ≤ i) (h1 : i < xs.length) (h : R (.pointer (some (elA A s i)))) : IX P w0 D σ A xs.length c i s R :=
  ⟨⟨h0, h1, fun w hst => (osl_reads (hst.at_ m hi)).some_ h0 h1⟩, h⟩
end ld

/-! ### a piece is sought by its shape -/
inductive HasR : List Res → Res → Prop
  | here {r : Res} {σ : List Res} : HasR (r :: σ) r
  | there {q r : Res} {σ : List Res} : HasR σ r → HasR (q :: σ) r
theorem HasR.idx {σ : List Res} {r : Res} (h : HasR σ r) : ∃ m : Nat, σ[m]? = some r := by
  induction h with
  | here => exact ⟨0, rfl⟩
  | there _ ih => obtain ⟨m, hm⟩ := ih; exact ⟨m + 1, by simpa using hm⟩
section has
variable {α : Type} {f : α → Value} {A : Option Addr} {c : Nat} {xs : List α} {t e : TypeId} {i : Int} {R : Value → Prop}
/-- reading at a block whose cells are cs -/
structure LK (P : Program) (w0 : World) (D : List Nat) (σ : List Res) (t : TypeId) (g : Bool) (b k : Nat) (cs : List Value) (R : Value → Prop) : Prop where
  run : ∀ (m : Nat) (t' : TypeId), σ[m]? = some (blk b cs t') → LD P w0 D σ t g (.pointer (some ⟨b, k, none⟩)) R
theorem ld_b {g : Bool} {b k : Nat} {cs : List Value} {t' : TypeId} (hi : HasR σ (blk b cs t')) (h : LK P w0 D σ t g b k cs R) : LD P w0 D σ t g (.pointer (some ⟨b, k, none⟩)) R := by
  obtain ⟨m, hm⟩ := hi.idx
  exact h.run m t' hm
theorem lk_c {b k : Nat} {cs : List Value} {v : Value} (ht : agg? P t = some false) (hv : nth cs k = some v) (h : R v) : LK P w0 D σ t false b k cs R := ⟨fun m t' hi => ld_blk m hi ht hv h⟩
theorem lk_a {b k s : Nat} {cs vs : List Value} (ht : agg? P t = some true) (hm : size? P t = some s) (hv : (cs.drop k).take s = vs) (hl : vs.length = s) (h : R (.agg vs.toArray)) : LK P w0 D σ t true b k cs R := ⟨fun m t' hi => ld_agg m hi ht hm hv hl h⟩
/-- at place i of a row that reads xs -/
structure RK (xs : List α) (i : Int) (Z : Prop) : Prop where
  h0 : 0 ≤ i
  h1 : i < xs.length
  h : Z
theorem ld_r [Inhabited α] (hi : HasR σ (osl e f A c xs)) (h : RK xs i (agg? P t = some false ∧ R (f (gt xs i)))) : LD P w0 D σ t false (.pointer (some (elA A 1 i))) R := by
  obtain ⟨m, hm⟩ := hi.idx
  exact ld_own m hm h.h.1 h.h0 h.h1 h.h.2
theorem ix_r {s : Nat} (hi : HasR σ (osl e f A c xs)) (h : RK xs i (R (.pointer (some (elA A s i))))) : IX P w0 D σ A xs.length c i s R := by
  obtain ⟨m, hm⟩ := hi.idx
  exact ix_own m hm h.h0 h.h1 h.h
theorem bi_t {op : BinOp} {k : IntKind} {a b : Int} (hc : isCmp op = true) (h : cmpP op a b) (hr : R (.bool true)) : BI op k a b R := bi_cmp hc (by simp [h]) hr
theorem bi_f {op : BinOp} {k : IntKind} {a b : Int} (hc : isCmp op = true) (h : ¬ cmpP op a b) (hr : R (.bool false)) : BI op k a b R := bi_cmp hc (by simp [h]) hr
end has

section stages
variable {Q : QQ} {os : List Oper} {dd : Nat} {K : Tm → Prop}
theorem wl_ld {t : TypeId} {x : Operand} {pv : Value} {b : Bool} (hop : o.op = .load t x) (hg : gd Γ ops o = some true) (hd : o.dst = some dd) (hdn : Nat.blt dd n = true) (hx : ev Γ x = some pv) (hb : agg? P t = some b) (h : LD P w0 D σ t b pv (fun v => WL P n w0 D ops os Q ((dd, v) :: Γ) σ)) : WL P n w0 D ops (o :: os) Q Γ σ := by
  obtain ⟨v, h1, h2⟩ := h.run
  exact wl_v hg hd hdn (val_of_ld hop hx h1) h2
theorem wq_ld {t : TypeId} {x : Operand} {pv : Value} {b : Bool} (hop : o.op = .load t x) (hg : gd Γ ops o = some true) (hd : o.dst = some dd) (hdn : Nat.blt dd n = true) (hx : ev Γ x = some pv) (hb : agg? P t = some b) (h : LD P w0 D σ t b pv (fun v => WQ P n w0 D σ ops K os ((dd, v) :: Γ))) : WQ P n w0 D σ ops K (o :: os) Γ := by
  obtain ⟨v, h1, h2⟩ := h.run
  exact wq_val hg hd hdn (val_of_ld hop hx h1) h2
theorem wl_bi {op : BinOp} {t t2 : TypeId} {x y : Operand} {k : IntKind} {a b : Int} (hop : o.op = .binOp op t x y t2) (hg : gd Γ ops o = some true) (hd : o.dst = some dd) (hdn : Nat.blt dd n = true) (hx : ev Γ x = some (.int k a)) (hy : ev Γ y = some (.int k b)) (h : BI op k a b (fun v => WL P n w0 D ops os Q ((dd, v) :: Γ) σ)) : WL P n w0 D ops (o :: os) Q Γ σ := by
  obtain ⟨v, h1, h2⟩ := h.run
  exact wl_v hg hd hdn (val_of_bi hop hx hy h1) h2
theorem wq_bi {op : BinOp} {t t2 : TypeId} {x y : Operand} {k : IntKind} {a b : Int} (hop : o.op = .binOp op t x y t2) (hg : gd Γ ops o = some true) (hd : o.dst = some dd) (hdn : Nat.blt dd n = true) (hx : ev Γ x = some (.int k a)) (hy : ev Γ y = some (.int k b)) (h : BI op k a b (fun v => WQ P n w0 D σ ops K os ((dd, v) :: Γ))) : WQ P n w0 D σ ops K (o :: os) Γ := by
  obtain ⟨v, h1, h2⟩ := h.run
  exact wq_val hg hd hdn (val_of_bi hop hx hy h1) h2
theorem wl_ix {t e : TypeId} {s m c : Nat} {x y : Operand} {A : Option Addr} {i : Int} {k : IntKind} (hop : o.op = .indexAddr t x y) (hg : gd Γ ops o = some true) (hd : o.dst = some dd) (hdn : Nat.blt dd n = true) (hx : ev Γ x = some (.slice A m c)) (hy : ev Γ y = some (.int k i)) (ht : elem? P t = some e) (hs : size? P e = some s) (h : IX P w0 D σ A m c i s (fun v => WL P n w0 D ops os Q ((dd, v) :: Γ) σ)) : WL P n w0 D ops (o :: os) Q Γ σ :=
  wl_v hg hd hdn (val_of_ix hop hx hy ht hs h.run.1) h.run.2
theorem wq_ix {t e : TypeId} {s m c : Nat} {x y : Operand} {A : Option Addr} {i : Int} {k : IntKind} (hop : o.op = .indexAddr t x y) (hg : gd Γ ops o = some true) (hd : o.dst = some dd) (hdn : Nat.blt dd n = true) (hx : ev Γ x = some (.slice A m c)) (hy : ev Γ y = some (.int k i)) (ht : elem? P t = some e) (hs : size? P e = some s) (h : IX P w0 D σ A m c i s (fun v => WQ P n w0 D σ ops K os ((dd, v) :: Γ))) : WQ P n w0 D σ ops K (o :: os) Γ :=
  wq_val hg hd hdn (val_of_ix hop hx hy ht hs h.run.1) h.run.2
end stages
end
theorem nodup_le : ∀ (n : Nat) (l : List Int), l.Nodup → (∀ x ∈ l, 0 ≤ x ∧ x < (n : Int)) → l.length ≤ n
  | 0, l, _, h => by
    cases l with
    | nil => simp
    | cons a l => have := h a (by simp); omega
  | n + 1, l, hn, h => by
    have h1 := nodup_le n (l.erase n) (hn.erase _) (fun x hx => by
      have h2 := h x (List.mem_of_mem_erase hx)
      have h3 : x ≠ (n : Int) := by
        rintro rfl
        exact (List.Nodup.mem_erase_iff hn).1 hx |>.1 rfl
      omega)
    have h2 : l.length ≤ (l.erase (n : Int)).length + 1 := by
      by_cases hm : (n : Int) ∈ l
      · rw [List.length_erase_of_mem hm]; omega
      · rw [List.erase_of_not_mem hm]; omega
    omega


abbrev TI : TypeId := 3
abbrev TB : TypeId := 4
abbrev TM : TypeId := 124
theorem keyedI : Keyed Try.prog TI := int_keyed Try.underlying3
theorem underM : Try.prog.underlying TM = some (.map TI 122) := Try.underlying124

/-- block b is a map whose keys are the x with f x -/
def IsSet (w : World) (b : Nat) (f : Int → Bool) : Prop :=
  ∃ D : DataW Unit, w.ownsMap Try.prog TI unitElem b (size D) D ∧ (∀ x, has D (.int .i64 x) = f x) ∧ ∀ x, f x = true → 0 ≤ x ∧ x < 128
theorem IsSet.st {w w' : World} {b : Nat} {f : Int → Bool} (h : IsSet w b f) (hb : w'.heap[b]? = w.heap[b]?) : IsSet w' b f := by
  obtain ⟨D, ⟨es, clock, h1, h2⟩, h3⟩ := h
  exact ⟨D, ⟨es, clock, hb.trans h1, h2⟩, h3⟩
theorem IsSet.made (w : World) : IsSet (w.alloc (.map #[] 0)) w.heap.size (fun _ => false) :=
  ⟨.map [], World.ownsMap_made w Try.prog TI unitElem, fun x => rfl, fun x h => by cases h⟩
theorem IsSet.keys {w : World} {b : Nat} {f : Int → Bool} {D : DataW Unit} (h1 : w.ownsMap Try.prog TI unitElem b (size D) D) (h2 : ∀ x, has D (.int .i64 x) = f x) :
    (intKeys D).Nodup ∧ (∀ x, x ∈ intKeys D ↔ f x = true) ∧ size D = (intKeys D).length := by
  obtain ⟨es, hD, hpw, _⟩ := h1.entries keyedI
  obtain ⟨es', hD', hko⟩ := h1.keysOf
  obtain rfl : es = es' := by rw [hD] at hD'; simpa using hD'
  subst hD
  have hk : ∀ p ∈ es, ∃ x, p.1 = .int .i64 x := fun p hp => by
    obtain ⟨v, hv⟩ := hko p hp
    obtain ⟨x, _, hx, _⟩ := Maps.keyOf_i64 Try.underlying3 hv
    exact ⟨x, hx⟩
  refine ⟨?_, fun x => ?_, by simp [size, intKeys]⟩
  · refine List.pairwise_map.2 (hpw.imp_of_mem fun {p q} hp' hq' hne e => hne ?_)
    obtain ⟨a, ha⟩ := hk p hp'
    obtain ⟨c, hc⟩ := hk q hq'
    rw [ha, hc] at e ⊢
    simp only [Go.intOf] at e
    rw [e]
  · rw [← h2 x, has_eq, List.any_eq_true]
    simp only [intKeys, List.mem_map]
    constructor
    · rintro ⟨p, hp', rfl⟩
      obtain ⟨a, ha⟩ := hk p hp'
      exact ⟨p, hp', by rw [ha]; simp [Lit.sameKey, Go.intOf]⟩
    · rintro ⟨p, hp', hs⟩
      obtain ⟨a, ha⟩ := hk p hp'
      rw [ha] at hs
      exact ⟨p, hp', by rw [ha]; simpa [Lit.sameKey, Go.intOf] using hs⟩
theorem IsSet.size_le {w : World} {b : Nat} {f : Int → Bool} {D : DataW Unit} (h1 : w.ownsMap Try.prog TI unitElem b (size D) D) (h2 : ∀ x, has D (.int .i64 x) = f x) (h3 : ∀ x, f x = true → 0 ≤ x ∧ x < 128) : size D ≤ 128 := by
  obtain ⟨k1, k2, k3⟩ := IsSet.keys h1 h2
  rw [k3]
  exact nodup_le 128 _ k1 fun x hx => h3 x ((k2 x).1 hx)
theorem wf64 {x : Int} (h0 : 0 ≤ x) (h1 : x < 128) : (Lit.int .i64 x).wf = true := by
  simp only [Lit.wf, IntKind.min, IntKind.max, Bool.and_eq_true, decide_eq_true_eq]
  simp [IntKind.bits, IntKind.signed]; omega
theorem IsSet.put {w : World} {b : Nat} {f : Int → Bool} (h : IsSet w b f) {c : Int} (h0 : 0 ≤ c) (h1 : c < 128) :
    ∃ w', (Instr.mapUpdate TM (.map (some b)) (.int .i64 c) (.agg #[])).run Try.prog w = .ok () w' ∧ IsSet w' b (fun x => f x || x == c) ∧ Only [b] w w' := by
  obtain ⟨D, h2, h3, h4⟩ := h
  have hs := IsSet.size_le h2 h3 h4
  have hkey : keyOf Try.prog TI (.int .i64 c) = some (.int .i64 c) := keyOf_int_mk Try.underlying3 (wf64 h0 h1)
  obtain ⟨w', hr, hown, hg⟩ := h2.update keyedI underM (by simp [maxLen]; omega) (val := .agg #[]) hkey unitElem_mk
  have htidy := h2.tidy keyedI
  have hkl : WideAt.IsKeyLit (.int .i64 c) := by simp [WideAt.IsKeyLit]
  have hhas : ∀ x, has (D.put (.int .i64 c) (.agg [])) (.int .i64 x) = (f x || x == c) := fun x => by
    by_cases e : x = c
    · subst e; rw [has_put_same htidy.isMap hkl]; simp
    · rw [has_put_other (by simpa using e), h3]; simp [e]
  refine ⟨w', hr, ⟨D.put (.int .i64 c) (.agg []), ?_, hhas, fun x hx => ?_⟩, Only.grown hg (by simp)⟩
  · obtain ⟨es, clock, g1, g2, g3, g4⟩ := hown
    refine ⟨es, clock, g1, g2, ?_, g4⟩
    rw [g4, Maps.size_eq, length_sorted]; simp
  · simp only [Bool.or_eq_true, beq_iff_eq] at hx
    rcases hx with hx | hx
    · exact h4 x hx
    · omega

/-- a table of marks: the row of its maps lies in block R -/
def Tab (R : Nat) (ms : List Nat) (S : Int → Int → Bool) : Res where
  fp := R :: ms
  ok := fun w => w.heap[R]? = some (.cells (ms.map fun b => Value.map (some b)).toArray TM (0, 0)) ∧ ∀ r (h : r < ms.length), IsSet w ms[r] (S r)
  st := fun w w' h hw => ⟨(h R (by simp)).trans hw.1, fun r hr => (hw.2 r hr).st (h _ (List.mem_cons_of_mem _ (List.getElem_mem hr)))⟩

section
variable {n : Nat} {w0 : World} {D : List Nat} {Γ : Tm} {σ : List Res} {ops : Array Oper} {o : Oper} {K : Tm → List Res → Prop} {R : Nat} {ms : List Nat} {S : Int → Int → Bool} {i : Int} {Z : Value → Prop}
theorem ld_tab (m : Nat) (hi : σ[m]? = some (Tab R ms S)) (h0 : 0 ≤ i) (h1 : i < ms.length) (h : Z (.map (some (gt ms i)))) : LD Try.prog w0 D σ TM false (.pointer (some (elA (some ⟨R, 0, none⟩) 1 i))) Z :=
  ld_cell (ag_of rfl) (fun w hst => by
    have hb := (hst.at_ m hi).1
    have hlt : i.toNat < ms.length := by omega
    simp [elA, add_own, World.cell?, hb, gt, hlt, List.getD_eq_getElem?_getD, List.getElem?_eq_getElem hlt]) h
/-- t.rows[r][c] = mark{} -/
theorem ok_mark (m : Nat) (hi : σ[m]? = some (Tab R ms S)) {x y v : Operand} {c : Int} (hop : o.op = .mapUpdate TM x y v) (hx : ev Γ x = some (.map (some (gt ms i)))) (hy : ev Γ y = some (.int .i64 c)) (hv : ev Γ v = some (.agg #[])) (hg : gd Γ ops o = some true) (hd : o.dst = none)
    (h0 : 0 ≤ i) (h1 : i < ms.length) (hc0 : 0 ≤ c) (hc1 : c < 128) (h : K Γ (σ.set m (Tab R ms (fun a b => S a b || (a == i && b == c))))) : OpOK Try.prog n w0 D ops o K Γ σ :=
  ok_skip hg hd fun w hst f hf => by
    have hlt : i.toNat < ms.length := by omega
    have hok := hst.at_ m hi
    have hms : gt ms i = ms[i.toNat] := by simp [gt, List.getD_eq_getElem?_getD, List.getElem?_eq_getElem hlt]
    obtain ⟨w', hr, hset, ho⟩ := (hok.2 i.toNat hlt).put hc0 hc1
    have hnd : (R :: ms).Nodup := by
      have h2 := hst.nd
      have h3 : (Tab R ms S).fp.Nodup := by
        obtain ⟨hl, he⟩ := List.getElem?_eq_some_iff.1 hi
        have h4 := perm_front σ m _ hi
        have h5 := (List.Perm.nodup_iff (h4.flatMap_right Res.fp)).2 h2
        rw [List.flatMap_cons, List.nodup_append] at h5
        exact h5.1
      exact h3
    obtain ⟨hR, hnd'⟩ := List.nodup_cons.1 hnd
    have hne : R ≠ ms[i.toNat] := fun e => hR (e ▸ List.getElem_mem hlt)
    have hlR : R < w.heap.size := hst.lt _ (List.mem_of_getElem? hi) R (by simp [Tab])
    have hlm : ∀ b ∈ ms, b < w.heap.size := fun b hb => hst.lt _ (List.mem_of_getElem? hi) b (by simp [Tab, hb])
    refine ⟨w', _, ?_, hst.set_ m hi (ho.mono (by simp [Tab])) ?_ ?_ hnd, h⟩
    · simp [execOp, hop, hf _ _ hx, hf _ _ hy, hf _ _ hv, hms, hr, Result.andThen]
    · refine ⟨(ho.block R hlR (by simpa using hne)).trans hok.1, fun r hr => ?_⟩
      by_cases e : r = i.toNat
      · subst e
        have e2 : ((i.toNat : Nat) : Int) = i := by omega
        simpa only [e2, beq_self_eq_true, Bool.true_and] using hset
      · have e2 : ((r : Int) == i) = false := by simp; omega
        have := (hok.2 r hr).st (w' := w') (ho.block _ (hlm _ (List.getElem_mem hr)) (by
          simp only [List.mem_singleton]
          exact fun e3 => e ((List.getElem_inj hnd').1 e3)))
        simpa [e2] using this
    · intro b hb
      exact ⟨.inl hb, Nat.lt_of_lt_of_le (hst.lt _ (List.mem_of_getElem? hi) b hb) ho.size⟩
end
abbrev TR : TypeId := 117
/-- a set of columns by itself -/
def SetR (b : Nat) (f : Int → Bool) : Res where
  fp := [b]
  ok := fun w => IsSet w b f
  st := fun w w' h hw => hw.st (h b (by simp))
/-- a table in the making: m rows, of which the first ms.length have their maps, all empty -/
def TabP (R : Nat) (ms : List Nat) (m : Nat) : Res where
  fp := R :: ms
  ok := fun w => ms.length ≤ m ∧ w.heap[R]? = some (.cells ((ms.map fun b => Value.map (some b)) ++ List.replicate (m - ms.length) (Value.map none)).toArray TM (0, 0)) ∧ ∀ r (h : r < ms.length), IsSet w ms[r] (fun _ => false)
  st := fun w w' h hw => ⟨hw.1, (h R (by simp)).trans hw.2.1, fun r hr => (hw.2.2 r hr).st (h _ (List.mem_cons_of_mem _ (List.getElem_mem hr)))⟩

theorem fill_list {α : Type} (A B : List α) (u v : α) : (A ++ u :: B).take A.length ++ [v] ++ (A ++ u :: B).drop (A.length + 1) = A ++ [v] ++ B := by
  rw [List.take_left', List.drop_append]
  · simp
  · rfl
section
variable {P : Program} {n : Nat} {w0 : World} {D : List Nat} {Γ : Tm} {σ : List Res} {ops : Array Oper} {o : Oper} {K : Tm → List Res → Prop} {R : Nat} {ms : List Nat} {i : Int} {Z : Value → Prop}
theorem St.conv {w : World} (h : St w0 D σ w) (j : Nat) {r r' : Res} (hj : σ[j]? = some r) (hfp : r'.fp = r.fp) (hok : ∀ w, r.ok w → r'.ok w) : St w0 D (σ.set j r') w :=
  h.set_ j hj (Only.refl _ _) (hok w (h.at_ j hj)) (fun b hb => by
    rw [hfp] at hb
    exact ⟨.inl hb, h.lt _ (List.mem_of_getElem? hj) b hb⟩) (by
    rw [hfp]
    have h4 := perm_front σ j _ hj
    have h5 := (List.Perm.nodup_iff (h4.flatMap_right Res.fp)).2 h.nd
    rw [List.flatMap_cons, List.nodup_append] at h5
    exact h5.1)
theorem wc_conv {c : Code} {Q : QQ} (j : Nat) {r r' : Res} (hj : σ[j]? = some r) (hfp : r'.fp = r.fp) (hok : ∀ w, r.ok w → r'.ok w) (h : WC P n w0 D c Q Γ (σ.set j r')) : WC P n w0 D c Q Γ σ := .mk fun a w hs hst => h.run a w hs (hst.conv j hj hfp hok)
theorem wc_perm {c : Code} {Q : QQ} {σ' : List Res} (hp : σ'.Perm σ) (h : WC P n w0 D c Q Γ σ') : WC P n w0 D c Q Γ σ := .mk fun a w hs hst => h.run a w hs (hst.perm hp)
/-- what the memory says besides -/
theorem wc_know {c : Code} {Q : QQ} {φ : Prop} (hk : ∀ w, St w0 D σ w → φ) (h : φ → WC P n w0 D c Q Γ σ) : WC P n w0 D c Q Γ σ := .mk fun a w hs hst => (h (hk w hst)).run a w hs hst

theorem ok_makeTab {x y : Operand} {m : Int} (hop : o.op = .makeSlice TR x y) (hx : ev Γ x = some (.int .i64 m)) (hy : ev Γ y = some (.int .i64 m)) (hg : gd Γ ops o = some true) {dd : Nat} (hd : o.dst = some dd) (hdn : Nat.blt dd n = true) (h0 : 0 ≤ m) (h1 : m ≤ 128)
    (h : ∀ R, K ((dd, .slice (some ⟨R, 0, none⟩) m.toNat m.toNat) :: Γ) (TabP R [] m.toNat :: σ)) : OpOK Try.prog n w0 D ops o K Γ σ :=
  ok_run hg hd hdn fun w hst g hgf => by
    have hz := ze_of (t := TM) (v := .map none) rfl
    have hs := sz_of (t := TM) (k := 1) rfl
    have hb := by_of (t := TM) (k := 8) rfl
    unfold zero? at hz
    unfold size? at hs
    unfold bytes? at hb
    cases hi : Try.prog.info? TM with
    | none => rw [hi] at hz; cases hz
    | some ie =>
      rw [hi] at hz hs hb
      simp only [Option.bind_some, Option.map_some, Option.some.injEq] at hz hs hb
      have hr := run_make (P := Try.prog) w TR TM ie (.map none) (elem?_spec (el_of rfl)) hi hz .i64 .i64 m m h0 (Int.le_refl _) (by rw [hb]; omega) (by omega)
      rw [hs, Nat.mul_one] at hr
      have hcells : madeCells (Value.map none).cells m.toNat = (List.replicate m.toNat (Value.map none)).toArray := madeCells_one _ _
      rw [hcells] at hr
      refine ⟨.slice (some ⟨w.heap.size, 0, none⟩) m.toNat m.toNat, w.alloc (.cells (List.replicate m.toNat (Value.map none)).toArray TM), _, ?_, hst.push (Only.alloc _ _ _) (TabP w.heap.size [] m.toNat) ?_ (by simp [TabP]) (by simp [TabP]), h _⟩
      · simp [execOp, hop, hgf _ _ hx, hgf _ _ hy, hr]
      · exact ⟨by simp, by simpa using heap_alloc_new w _, fun r hr => by simp at hr⟩
theorem ok_makeSet (hop : o.op = .makeMap TM none) (hg : gd Γ ops o = some true) {dd : Nat} (hd : o.dst = some dd) (hdn : Nat.blt dd n = true)
    (h : ∀ b, K ((dd, .map (some b)) :: Γ) (SetR b (fun _ => false) :: σ)) : OpOK Try.prog n w0 D ops o K Γ σ :=
  ok_makeMap0 hop hg hd hdn (fun b => SetR b (fun _ => false)) (fun _ => rfl) (fun w => IsSet.made w) h
/-- t.rows[r] = map[int]V{} -/
theorem ok_tabFill {x y : Operand} {b m : Nat} {σr : List Res} (hop : o.op = .store TM x y) (hσ : σ = SetR b (fun _ => false) :: TabP R ms m :: σr) (hx : ev Γ x = some (.pointer (some (elA (some ⟨R, 0, none⟩) 1 i)))) (hy : ev Γ y = some (.map (some b))) (hg : gd Γ ops o = some true) (hd : o.dst = none)
    (hi : i = ms.length) (hm : ms.length < m) (h : K Γ (TabP R (ms ++ [b]) m :: σr)) : OpOK Try.prog n w0 D ops o K Γ σ :=
  ok_skip hg hd fun w hst f hf => by
    subst hσ hi
    have hset : IsSet w b (fun _ => false) := hst.at_ 0 rfl
    have hok : (TabP R ms m).ok w := hst.at_ 1 rfl
    obtain ⟨h1, h2, h3⟩ := hok
    have hnd := hst.nd
    have hnd2 : (b :: R :: ms).Nodup := by
      have h4 : ([b] ++ ((R :: ms) ++ σr.flatMap Res.fp)).Nodup := hnd
      rw [← List.append_assoc] at h4
      exact (List.nodup_append.1 h4).1
    obtain ⟨hb1, hb2⟩ := List.nodup_cons.1 hnd2
    obtain ⟨hR1, hR2⟩ := List.nodup_cons.1 hb2
    have hlb : b < w.heap.size := hst.lt (SetR b (fun _ => false)) (by simp) b (by simp [SetR])
    have hlR : R < w.heap.size := hst.lt (TabP R ms m) (by simp) R (by simp [TabP])
    have hlm : ∀ c ∈ ms, c < w.heap.size := fun c hc => hst.lt (TabP R ms m) (by simp) c (by simp [TabP, hc])
    have hr := run_storeCells_at (P := Try.prog) R ms.length TM [.map (some b)] 0 _ w h2 (by simp; omega) (by simp [Value.oneCell'])
    have hsp : ((List.take (ms.length + 0) (((ms.map fun b => Value.map (some b)) ++ List.replicate (m - ms.length) (Value.map none)).toArray).toList ++ [Value.map (some b)] ++ List.drop (ms.length + 0 + [Value.map (some b)].length) (((ms.map fun b => Value.map (some b)) ++ List.replicate (m - ms.length) (Value.map none)).toArray).toList)) = ((ms ++ [b]).map fun b => Value.map (some b)) ++ List.replicate (m - (ms ++ [b]).length) (Value.map none) := by
      obtain ⟨k, rfl⟩ : ∃ k, m = ms.length + (k + 1) := ⟨m - ms.length - 1, by omega⟩
      have e1 : ms.length + (k + 1) - ms.length = k + 1 := by omega
      have e2 : ms.length + (k + 1) - (ms ++ [b]).length = k := by simp; omega
      rw [e1, e2, List.replicate_succ]
      have e3 := fill_list (ms.map fun b => Value.map (some b)) (List.replicate k (Value.map none)) (Value.map none) (Value.map (some b))
      rw [List.length_map] at e3
      simpa using e3
    rw [hsp] at hr
    refine ⟨w.setRow R (((ms ++ [b]).map fun b => Value.map (some b)) ++ List.replicate (m - (ms ++ [b]).length) (Value.map none)).toArray, [TabP R (ms ++ [b]) m] ++ σr, ?_, St.turn (σ1 := [SetR b (fun _ => false), TabP R ms m]) (σ2 := [TabP R (ms ++ [b]) m]) hst (Only.setRow w (b := R) (by simp [SetR, TabP]) _) ?_ ?_ ?_, h⟩
    · have hx' : f x = .pointer (some ⟨R, ms.length, none⟩) := by rw [hf _ _ hx]; simp [elA, add_own]
      simp only [execOp, hop, hx', hf _ _ hy]
      simp only [Instr.storeAt, Instr.sureAddr, storeVar, Sem.run_bind, Sem.run_pure, Result.andThen_ok, run_sizeOf' (sz_of (t := TM) (k := 1) rfl)]
      simp [Value.cells, hr, Result.andThen]
    · intro r hr'
      simp only [List.mem_singleton] at hr'
      subst hr'
      refine ⟨by simp; omega, by simp [World.setRow, Array.getElem?_modify, h2], fun r hr => ?_⟩
      have hother : ∀ c, c ≠ R → (w.setRow R (((ms ++ [b]).map fun b => Value.map (some b)) ++ List.replicate (m - (ms ++ [b]).length) (Value.map none)).toArray).heap[c]? = w.heap[c]? := fun c hc => by simp [World.setRow, Array.getElem?_modify, Ne.symm hc]
      by_cases e : r < ms.length
      · have e2 : (ms ++ [b])[r] = ms[r] := by simp [List.getElem_append, e]
        rw [e2]
        exact (h3 r e).st (hother _ (fun e3 => hR1 (e3 ▸ List.getElem_mem e)))
      · have e2 : (ms ++ [b])[r] = b := by simp [List.getElem_append, e]
        rw [e2]
        exact hset.st (hother b (fun e3 => hb1 (by simp [e3])))
    · intro c hc
      simp [TabP] at hc
      refine ⟨.inl (by simp [SetR, TabP]; rcases hc with h | h | h <;> simp [h]), ?_⟩
      have : c < w.heap.size := by
        rcases hc with rfl | h | rfl
        · exact hlR
        · exact hlm c h
        · exact hlb
      simpa [World.setRow] using this
    · simp only [List.flatMap_cons, List.flatMap_nil, List.append_nil, TabP]
      refine List.nodup_cons.2 ⟨fun h => ?_, List.nodup_append.2 ⟨hR2, by simp, fun a ha c hc => ?_⟩⟩
      · rcases List.mem_append.1 h with h | h
        · exact hR1 h
        · simp at h; exact hb1 (by simp [h])
      · simp at hc; subst hc; rintro rfl; exact hb1 (by simp [ha])
theorem tabP_done {w : World} {m : Nat} (hm : ms.length = m) (h : (TabP R ms m).ok w) : (Tab R ms (fun _ _ => false)).ok w := by
  obtain ⟨h1, h2, h3⟩ := h
  refine ⟨?_, h3⟩
  rw [h2]
  simp [hm]
end
section
variable {P : Program} {n : Nat} {w0 : World} {D : List Nat} {Γ : Tm} {σ : List Res} {ops : Array Oper} {o : Oper} {K : Tm → List Res → Prop} {R : Nat} {ms : List Nat} {i : Int} {Z : Value → Prop}
/-- a piece of code whose ways meet behind it -/
theorem wc_cut {β : Type} {x y : Code} {Q : QQ} (pre : β → Prop) (T : β → Tm) (M : β → List Res) (h1 : WC P n w0 D x (fun ex Γ' σ' => match ex with | .normal => ∃ z, pre z ∧ tmLe (T z) Γ' ∧ (M z).Perm σ' | _ => False) Γ σ)
    (h2 : ∀ z, pre z → WC P n w0 D y Q (T z) (M z)) : WC P n w0 D (x.seq y) Q Γ σ := .mk fun a w hs hst =>
  wp_seq (wp_mono (h1.run a w hs hst) fun ex a' w' hq => by
    cases ex with
    | normal => obtain ⟨Γ', σ', hs', hst', z, hz, ht, hm⟩ := hq; exact (h2 z hz).run a' w' (hs'.less ht) (hst'.perm hm)
    | panic c => exact hq.elim
    | outgrown => exact hq.elim
    | exit i => obtain ⟨_, _, _, _, hf⟩ := hq; exact hf.elim
    | goto l => obtain ⟨_, _, _, _, hf⟩ := hq; exact hf.elim
    | ret => obtain ⟨_, _, _, _, hf⟩ := hq; exact hf.elim)

/-- the same, behind wc_seq -/
theorem wc_cutK {β : Type} {x y : Code} {Q : QQ} (pre : β → Prop) (T : β → Tm) (M : β → List Res) (h1 : WC P n w0 D x (fun ex Γ' σ' => match ex with | .normal => ∃ z, pre z ∧ tmLe (T z) Γ' ∧ (M z).Perm σ' | _ => False) Γ σ)
    (h2 : ∀ z, pre z → WC P n w0 D y Q (T z) (M z)) : WC P n w0 D x (thenQ (WC P n w0 D y Q) Q) Γ σ := .mk fun a w hs hst =>
  wp_mono (h1.run a w hs hst) fun ex a' w' hq => by
    cases ex with
    | normal =>
      obtain ⟨Γ', σ', hs', hst', z, hz, ht, hm⟩ := hq
      exact ⟨T z, M z, hs'.less ht, hst'.perm hm, h2 z hz⟩
    | panic c => exact hq.elim
    | outgrown => exact hq.elim
    | exit i => obtain ⟨_, _, _, _, hf⟩ := hq; exact hf.elim
    | goto l => obtain ⟨_, _, _, _, hf⟩ := hq; exact hf.elim
    | ret => obtain ⟨_, _, _, _, hf⟩ := hq; exact hf.elim

/-! ### regions that draw, in two stages -/
def takeOK (ops : Array Oper) (listed : Array Bool) (i : Nat) : Bool := Region.noSelect ops && (Region.free .any ops listed i && (Region.ready .any ops listed).contains i)
section
variable {σS : List Res} {Q : QQ} {fuel : Nat} {listed : Array Bool} {oi : Oper} {dd : Nat}
theorem wa_v (i : Nat) (τ : List Res) (hi : ops[i]? = some oi) (hk : takeOK ops listed i = true) (hσ : σ = τ ++ σS) {v : Value} (hg : gd Γ ops oi = some true) (hd : oi.dst = some dd) (hdn : Nat.blt dd n = true) (hv : ValOK P w0 D σS Γ oi v) (h : WA P n w0 D σS ops Q fuel (listed.setIfInBounds i true) ((dd, v) :: Γ) σ) : WA P n w0 D σS ops Q (fuel + 1) listed Γ σ := by
  simp only [takeOK, Bool.and_eq_true] at hk
  exact wa_take i τ hσ hi hk.1 hk.2.1 hk.2.2 hg hd hdn hv h
theorem wa_ld (i : Nat) (τ : List Res) (hi : ops[i]? = some oi) (hk : takeOK ops listed i = true) (hσ : σ = τ ++ σS) {t : TypeId} {x : Operand} {pv : Value} {b : Bool} (hop : oi.op = .load t x) (hg : gd Γ ops oi = some true) (hd : oi.dst = some dd) (hdn : Nat.blt dd n = true) (hx : ev Γ x = some pv) (hb : agg? P t = some b)
    (h : LD P w0 D σS t b pv (fun v => WA P n w0 D σS ops Q fuel (listed.setIfInBounds i true) ((dd, v) :: Γ) σ)) : WA P n w0 D σS ops Q (fuel + 1) listed Γ σ := by
  obtain ⟨v, h1, h2⟩ := h.run
  exact wa_v i τ hi hk hσ hg hd hdn (val_of_ld hop hx h1) h2
theorem wa_bi (i : Nat) (τ : List Res) (hi : ops[i]? = some oi) (hk : takeOK ops listed i = true) (hσ : σ = τ ++ σS) {op : BinOp} {t t2 : TypeId} {x y : Operand} {k : IntKind} {a b : Int} (hop : oi.op = .binOp op t x y t2) (hg : gd Γ ops oi = some true) (hd : oi.dst = some dd) (hdn : Nat.blt dd n = true) (hx : ev Γ x = some (.int k a)) (hy : ev Γ y = some (.int k b))
    (h : BI op k a b (fun v => WA P n w0 D σS ops Q fuel (listed.setIfInBounds i true) ((dd, v) :: Γ) σ)) : WA P n w0 D σS ops Q (fuel + 1) listed Γ σ := by
  obtain ⟨v, h1, h2⟩ := h.run
  exact wa_v i τ hi hk hσ hg hd hdn (val_of_bi hop hx hy h1) h2
theorem wa_ix (i : Nat) (τ : List Res) (hi : ops[i]? = some oi) (hk : takeOK ops listed i = true) (hσ : σ = τ ++ σS) {t e : TypeId} {s m c : Nat} {x y : Operand} {A : Option Addr} {j : Int} {k : IntKind} (hop : oi.op = .indexAddr t x y) (hg : gd Γ ops oi = some true) (hd : oi.dst = some dd) (hdn : Nat.blt dd n = true) (hx : ev Γ x = some (.slice A m c)) (hy : ev Γ y = some (.int k j)) (ht : elem? P t = some e) (hs : size? P e = some s)
    (h : IX P w0 D σS A m c j s (fun v => WA P n w0 D σS ops Q fuel (listed.setIfInBounds i true) ((dd, v) :: Γ) σ)) : WA P n w0 D σS ops Q (fuel + 1) listed Γ σ :=
  wa_v i τ hi hk hσ hg hd hdn (val_of_ix hop hx hy ht hs h.run.1) h.run.2
end
theorem arr0 {α : Type} (f : Nat → α) : (Array.range 0).map f = #[] := Array.eq_empty_of_size_eq_zero (by simp)
theorem fold0 {α β : Type} (g : β → α × Nat → β) (z : β) : Array.foldl g z (#[] : Array α).zipIdx 0 0 = z := by rfl
abbrev TK : TypeId := 122
abbrev TKs : TypeId := 167
/-- '[]T{x}' -/
theorem ok_build1 {α : Type} (f : α → Value) (v : α) {t e : TypeId} {x : Operand} {z : Value} (hop : o.op = .buildSlice t 1 #[(0, x)]) (hx : ev Γ x = some (f v)) (hg : gd Γ ops o = some true) {dd : Nat} (hd : o.dst = some dd) (hdn : Nat.blt dd n = true)
    (ht : elem? P t = some e) (hz : zero? P e = some z) (hz1 : z.cells.size = 1) (hs : size? P e = some 1) (hv : (f v).cells = #[f v])
    (h : ∀ b, K ((dd, .slice (some ⟨b, 0, none⟩) 1 1) :: Γ) (osl e f (some ⟨b, 0, none⟩) 1 [v] :: σ)) : OpOK P n w0 D ops o K Γ σ :=
  ok_buildSlice f [v] (ps := [(0, f v)]) (parts := #[(0, x)]) hop (by simp [hx]) hg hd hdn ht hz hs rfl (by decide) (by decide) (by
    have e : ((Array.range 1).map fun x => z.cells[x % z.cells.size]!).setIfInBounds 0 (f v) = #[f v] := Array.ext (by simp) (fun i h1 h2 => by
      have : i = 0 := by simp at h2; omega
      subst this
      simp)
    simpa [Instr.fill, hv] using e) h
/-- '[]mark{x}' -/
theorem ok_build0 {x : Operand} (hop : o.op = .buildSlice TKs 1 #[(0, x)]) (hx : ev Γ x = some (.agg #[])) (hg : gd Γ ops o = some true) {dd : Nat} (hd : o.dst = some dd) (hdn : Nat.blt dd n = true)
    (h : ∀ b, K ((dd, .slice (some ⟨b, 0, none⟩) 1 1) :: Γ) σ) : OpOK Try.prog n w0 D ops o K Γ σ :=
  ok_run hg hd hdn fun w hst f hf => by
    refine ⟨.slice (some ⟨w.heap.size, 0, none⟩) 1 1, w.alloc (.cells #[] TK), σ, ?_, hst.same (Only.alloc _ _ _), h _⟩
    have hz := ze_of (t := TK) (v := .agg #[]) rfl
    have hs := sz_of (t := TK) (k := 0) rfl
    simp [execOp, hop, hf _ _ hx, Instr.buildSlice, run_underlying (elem?_spec (el_of (t := TKs) (k := TK) rfl)), run_sizeOf' hs, Result.andThen, Instr.fill, newRow, newObj, Value.cells, arr0, fold0]
    rfl
/-- append(s, mark{}): no memory is in it -/
theorem ok_append0 {x y : Operand} {A B : Option Addr} {m c d : Nat} (hop : o.op = .call { callee := .builtin .append, args := #[x, y], argTypes := #[TKs, TKs] }) (hx : ev Γ x = some (.slice A m c)) (hy : ev Γ y = some (.slice B 1 d)) (hg : gd Γ ops o = some true) {dd : Nat} (hd : o.dst = some dd) (hdn : Nat.blt dd n = true)
    (hm : m < 9223372036854775807) (h : ∀ A' c', K ((dd, .slice A' (m + 1) c') :: Γ) σ) : OpOK Try.prog n w0 D ops o K Γ σ :=
  ok_run hg hd hdn fun w hst f hf => by
    have hz := ze_of (t := TK) (v := .agg #[]) rfl
    have hs := sz_of (t := TK) (k := 0) rfl
    have hb := by_of (t := TK) (k := 0) rfl
    have hi : (typeInfo TK).run Try.prog w = .ok ((Try.prog.info? TK).getD default) w ∧ ((Try.prog.info? TK).getD default).bytes = 0 := by
      unfold bytes? at hb
      cases he : Try.prog.info? TK with
      | none => rw [he] at hb; cases hb
      | some ie => rw [he] at hb; simp at hb; exact ⟨by simp [typeInfo, he], by simpa using hb⟩
    by_cases hc : m + 1 ≤ c
    · refine ⟨.slice A (m + 1) c, w, σ, ?_, hst, h _ _⟩
      cases A <;> cases B <;> simp [execOp, hop, resolve, invoke, builtin, hf _ _ hx, hf _ _ hy, Builtin.append_, run_underlying (elem?_spec (el_of (t := TKs) (k := TK) rfl)), run_sizeOf' hs, Result.andThen, Builtin.lenOf, hc, Builtin.firstCells, loadCells, loadCellsFrom, storeCells]
    · have hmax : ¬ ((9223372036854775807 : Int) < (m : Int) + 1) := by omega
      by_cases hfz : (Question.appendCap (m + 1) c TK).forced = true
      · refine ⟨.slice (some ⟨w.heap.size, 0, none⟩) (m + 1) 0, w.alloc (.cells #[] TK), σ, ?_, hst.same (Only.alloc _ _ _), h _ _⟩
        cases A <;> cases B <;> simp [execOp, hop, resolve, invoke, builtin, hf _ _ hx, hf _ _ hy, Builtin.append_, run_underlying (elem?_spec (el_of (t := TKs) (k := TK) rfl)), run_sizeOf' hs, Result.andThen, Builtin.lenOf, hc, Builtin.firstCells, loadCells, loadCellsFrom, storeCells, hi.1, hi.2, hmax, askRoom, run_zeroValue' hz, newRow, newObj, Builtin.zeroCells, Value.cells, arr0, hfz] <;> rfl
      · refine ⟨.slice (some ⟨w.drew.heap.size, 0, none⟩) (m + 1) ((Question.appendCap (m + 1) c TK).cut (w.tape w.drawn (Question.appendCap (m + 1) c TK))), w.drew.alloc (.cells #[] TK), σ, ?_, (hst.same (Only.drew _ _)).same (Only.alloc _ _ _), h _ _⟩
        cases A <;> cases B <;> simp [execOp, hop, resolve, invoke, builtin, hf _ _ hx, hf _ _ hy, Builtin.append_, run_underlying (elem?_spec (el_of (t := TKs) (k := TK) rfl)), run_sizeOf' hs, Result.andThen, Builtin.lenOf, hc, Builtin.firstCells, loadCells, loadCellsFrom, storeCells, hi.1, hi.2, hmax, askRoom, run_zeroValue' hz, newRow, newObj, Builtin.zeroCells, Value.cells, arr0, hfz] <;> rfl
end
end Go.Proofs.Ytoiiellaoikojaa
