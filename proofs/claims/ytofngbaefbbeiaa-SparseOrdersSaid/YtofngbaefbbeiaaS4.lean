/- A small logic for the walks: calls, results, regions that draw, slicing. -/
import Derived.Test.YtofngbaefbbeiaaS3
set_option linter.unusedVariables false
set_option linter.unusedSimpArgs false
namespace Go.Proofs.Ytofngbaefbbeiaa
open Go.RowKit

/-! ### what a call says -/
/-- pieces that are there, apart -/
structure Own (σ : List Res) (w : World) : Prop where
  ok : ∀ r ∈ σ, r.ok w
  lt : ∀ r ∈ σ, ∀ b ∈ r.fp, b < w.heap.size
  nd : (σ.flatMap Res.fp).Nodup
theorem Own.nil (w : World) : Own [] w := ⟨by simp, by simp, by simp⟩
theorem Own.st {σ : List Res} {w : World} (h : Own σ w) : St w (σ.flatMap Res.fp) σ w :=
  ⟨Only.refl _ _, h.ok, h.lt, fun r hr b hb => .inl (List.mem_flatMap.2 ⟨r, hr, hb⟩), h.nd⟩
theorem St.own {w0 w : World} {D : List Nat} {σ : List Res} (h : St w0 D σ w) : Own σ w := ⟨h.ok, h.lt, h.nd⟩
theorem St.ownl {w0 w : World} {D : List Nat} {σ1 σ2 : List Res} (h : St w0 D (σ1 ++ σ2) w) : Own σ1 w :=
  ⟨fun r hr => h.ok r (List.mem_append_left _ hr), fun r hr => h.lt r (List.mem_append_left _ hr), by
    have := h.nd
    rw [List.flatMap_append, List.nodup_append] at this
    exact this.1⟩
/-- it returns vf x, for some x of which φ holds; the pieces σ1 have become ρ x; all else is as it was -/
def Ret {α : Type} (σ1 : List Res) (vf : α → Value) (ρ : α → List Res) (φ : α → Prop) (w : World) : Ending → World → Prop := fun e w' =>
  ∃ x, e = .returned (vf x) ∧ φ x ∧ Only (σ1.flatMap Res.fp) w w' ∧ (∀ r ∈ ρ x, r.ok w') ∧ (∀ b ∈ (ρ x).flatMap Res.fp, (b ∈ σ1.flatMap Res.fp ∨ w.heap.size ≤ b) ∧ b < w'.heap.size) ∧ ((ρ x).flatMap Res.fp).Nodup

/-- it returns v, and all is as it was -/
def one (v : Value) (w : World) : Ending → World → Prop := Ret [] (fun _ : Unit => v) (fun _ => []) (fun _ => True) w
section
variable {P : Program} {n : Nat} {w0 : World} {D : List Nat} {Γ : Tm} {σ : List Res} {ops : Array Oper} {o : Oper} {K : Tm → List Res → Prop}

/-- is it a function with a body? -/
def bodied (P : Program) (f : FuncId) : Bool := match P.funcs[f]? with | some fn => fn.body.isSome && (fn.name != "runtime.NumGoroutine") | none => false
theorem run_callFunc {f : FuncId} (h : bodied P f = true) (args : Array Value) (w : World) : (callFunc f args).run P w = .ok (.enter f args) w := by
  unfold bodied at h
  cases hf : P.funcs[f]? with
  | none => rw [hf] at h; cases h
  | some fn =>
    rw [hf] at h
    simp only [Bool.and_eq_true] at h
    have h2 : (fn.name == "runtime.NumGoroutine") = false := by have := h.2; simpa [bne] using this
    have h1 : fn.body.isNone = false := by cases hb : fn.body <;> simp [hb] at h ⊢
    have h3 : ¬ fn.name = "runtime.NumGoroutine" := by simpa using h2
    have h4 : ¬ fn.body = none := by intro e; rw [e] at h1; cases h1
    simp [callFunc, hf, h3, h4]
theorem args_map {f : Operand → Value} (hf : ∀ x u, ev Γ x = some u → f x = u) : ∀ (xs : List Operand) (vs : List Value), xs.map (ev Γ) = vs.map some → xs.map f = vs := by
  intro xs
  induction xs with
  | nil => intro vs h; cases vs with | nil => rfl | cons _ _ => simp at h
  | cons x xs ih =>
    intro vs h
    cases vs with
    | nil => simp at h
    | cons v vs =>
      simp only [List.map_cons, List.cons.injEq] at h ⊢
      exact ⟨hf _ _ h.1, ih vs h.2⟩
/-- a call of a function by its name; the first m pieces are handed in -/
theorem ok_call {α : Type} (σ1 σ2 : List Res) {f : FuncId} {args : Array Operand} {tys : Array TypeId} {vs : List Value} {vf : α → Value} {ρ : α → List Res} {φ : α → Prop} (hop : o.op = .call { callee := .value (.func f), args := args, argTypes := tys })
    (ha : args.toList.map (ev Γ) = vs.map some) (hb : bodied P f = true) (hg : gd Γ ops o = some true) {dd : Nat} (hd : o.dst = some dd) (hdn : Nat.blt dd n = true) (hσ : (σ1 ++ σ2).Perm σ)
    (hc : ∀ w, St w0 D σ w → Calls P f vs.toArray w (Ret σ1 vf ρ φ w)) (h : ∀ x, φ x → K ((dd, vf x) :: Γ) (ρ x ++ σ2)) : OpOK P n w0 D ops o K Γ σ := by
  refine ⟨fun a w hs hst Q K' hK => ?_⟩
  rw [if_pos (gd_spec hs hg)]
  unfold Oper.wp
  have e1 : args.map a.eval = vs.toArray := Array.toList_inj.1 (by rw [Array.toList_map]; exact args_map (fun x u hx => hs.eval hx) _ _ ha)
  have hr : (execOp a.eval o).run P w = .ok (.enter f vs.toArray) w := by
    simp only [execOp, hop, resolve, e1]
    simp [Act.eval, Deferred.ofValue, invoke, run_callFunc hb, Result.andThen]
  rw [hr]
  simp only [Oper.upon]
  refine (hc w hst).mono ?_
  rintro e w' ⟨x, rfl, hφ, ho, hok, hfp, hnd⟩
  exact hK _ _ _ _ (hs.put hd hdn _) ((hst.perm hσ).turn ho hok hfp hnd) (h x hφ)
/-- a call of a function value -/
theorem ok_callv {α : Type} (σ1 σ2 : List Res) {g : Operand} {f : FuncId} {first captured : List Value} {args : Array Operand} {tys : Array TypeId} {vs : List Value} {vf : α → Value} {ρ : α → List Res} {φ : α → Prop} (hop : o.op = .call { callee := .value g, args := args, argTypes := tys })
    (hgv : ev Γ g = some (.func (.func f) first.toArray captured.toArray)) (ha : args.toList.map (ev Γ) = vs.map some) (hb : bodied P f = true) (hg : gd Γ ops o = some true) {dd : Nat} (hd : o.dst = some dd) (hdn : Nat.blt dd n = true) (hσ : (σ1 ++ σ2).Perm σ)
    (hc : ∀ w, St w0 D σ w → Calls P f (first ++ vs ++ captured).toArray w (Ret σ1 vf ρ φ w)) (h : ∀ x, φ x → K ((dd, vf x) :: Γ) (ρ x ++ σ2)) : OpOK P n w0 D ops o K Γ σ := by
  refine ⟨fun a w hs hst Q K' hK => ?_⟩
  rw [if_pos (gd_spec hs hg)]
  unfold Oper.wp
  have e1 : args.map a.eval = vs.toArray := Array.toList_inj.1 (by rw [Array.toList_map]; exact args_map (fun x u hx => hs.eval hx) _ _ ha)
  have hr : (execOp a.eval o).run P w = .ok (.enter f (first ++ vs ++ captured).toArray) w := by
    simp only [execOp, hop, resolve, e1, hs.eval hgv]
    simp [Deferred.ofValue, invoke, run_callFunc hb, Result.andThen]
  rw [hr]
  simp only [Oper.upon]
  refine (hc w hst).mono ?_
  rintro e w' ⟨x, rfl, hφ, ho, hok, hfp, hnd⟩
  exact hK _ _ _ _ (hs.put hd hdn _) ((hst.perm hσ).turn ho hok hfp hnd) (h x hφ)

/-- a call that yields one value and leaves all as it was -/
theorem ok_call1 {f : FuncId} {args : Array Operand} {tys : Array TypeId} {vs : List Value} {v : Value} (hc : ∀ w, St w0 D σ w → Calls P f vs.toArray w (one v w)) (hop : o.op = .call { callee := .value (.func f), args := args, argTypes := tys })
    (ha : args.toList.map (ev Γ) = vs.map some) (hb : bodied P f = true) (hg : gd Γ ops o = some true) {dd : Nat} (hd : o.dst = some dd) (hdn : Nat.blt dd n = true) (h : K ((dd, v) :: Γ) σ) : OpOK P n w0 D ops o K Γ σ :=
  ok_call [] σ hop ha hb hg hd hdn (List.Perm.refl _) hc (fun _ _ => h)

/-! ### results -/
/-- a result variable holds v -/
def RV (P : Program) (n : Nat) (w0 : World) (D : List Nat) (Γ : Tm) (σ : List Res) (r : ResultVar) (v : Value) : Prop :=
  ∀ (a : Act) (w : World), Sees n a Γ → St w0 D σ w → (match r with | .tmp t => (pure (a.tmps.getD t undef) : Sem Value) | .cell b t => do loadVar t (← asAddr (a.tmps.getD b undef))).run P w = .ok v w
theorem rv_tmp {t : Tmp} {v : Value} (h : look Γ t = some v) : RV P n w0 D Γ σ (.tmp t) v := by
  intro a w hs hst
  simp [hs.get t v h]
theorem rv_agg (i : Nat) {t t' : TypeId} {d b m : Nat} {cs vs : List Value} (hx : look Γ d = some (.pointer (some ⟨b, 0, none⟩))) (hi : σ[i]? = some (blk b cs t')) (ht : agg? P t = some true) (hm : size? P t = some m) (hv : cs = vs) (hl : vs.length = m) :
    RV P n w0 D Γ σ (.cell d t) (.agg vs.toArray) := by
  intro a w hs hst
  have hb : w.heap[b]? = some (.cells cs.toArray t' (0, 0)) := hst.at_ i hi
  have hc : (loadCells ⟨b, 0, none⟩ vs.length).run P w = .ok vs.toArray w := by
    refine run_loadCells_list _ _ vs (fun j v hj => ?_)
    rw [add_own]
    simp only [World.cell?, hb]
    subst hv
    simpa using hj
  rw [hl] at hc
  simp [hs.get d _ hx, asAddr, loadVar, run_isAgg ht, run_sizeOf' hm, hc, Result.andThen]
theorem rv_cell (i : Nat) {t t' : TypeId} {d b : Nat} {cs : List Value} {v : Value} (hx : look Γ d = some (.pointer (some ⟨b, 0, none⟩))) (hi : σ[i]? = some (blk b cs t')) (ht : agg? P t = some false) (hv : nth cs 0 = some v) :
    RV P n w0 D Γ σ (.cell d t) v := by
  intro a w hs hst
  have hb : w.heap[b]? = some (.cells cs.toArray t' (0, 0)) := hst.at_ i hi
  have hc : w.cell? ⟨b, 0, none⟩ = some v := by rw [nth_get] at hv; simp [World.cell?, hb, hv]
  simp [hs.get d _ hx, asAddr, loadVar, run_isAgg ht, hc, Result.andThen]
/-- all results -/
inductive RVs (P : Program) (n : Nat) (w0 : World) (D : List Nat) (Γ : Tm) (σ : List Res) : List ResultVar → List Value → Prop where
  | nil : RVs P n w0 D Γ σ [] []
  | cons {r : ResultVar} {v : Value} {rs : List ResultVar} {vs : List Value} : RV P n w0 D Γ σ r v → RVs P n w0 D Γ σ rs vs → RVs P n w0 D Γ σ (r :: rs) (v :: vs)
def packed (vs : List Value) : Value := match vs with | [v] => v | vs => .tuple vs.toArray
/-- one result, as the model reads it -/
def resv (tmps : Array Value) : ResultVar → Sem Value
  | .tmp t => pure (tmps.getD t undef)
  | .cell b t => do loadVar t (← asAddr (tmps.getD b undef))
theorem RVs.run {rs : List ResultVar} {vs : List Value} (h : RVs P n w0 D Γ σ rs vs) (a : Act) (w : World) (hs : Sees n a Γ) (hst : St w0 D σ w) :
    (rs.mapM (resv a.tmps)).run P w = .ok vs w := by
  induction h with
  | nil => simp
  | @cons r v rs vs h1 _ ih =>
    rw [List.mapM_cons]
    have h2 : (resv a.tmps r).run P w = .ok v w := by
      have := h1 a w hs hst
      cases r <;> exact this
    simp only [Sem.run_bind, h2, Result.andThen_ok, ih, Sem.run_pure]
theorem run_results {fn : Func} {rs : List ResultVar} {vs : List Value} (hf : fn.results.toList = rs) (h : RVs P n w0 D Γ σ rs vs) (a : Act) (w : World) (hs : Sees n a Γ) (hst : St w0 D σ w) : (results fn a.tmps).run P w = .ok (packed vs) w := by
  have hr := h.run a w hs hst
  have e : results fn a.tmps = (do let vs ← fn.results.mapM (resv a.tmps); pure (if h : vs.size = 1 then vs[0] else .tuple vs)) := by
    unfold results
    congr 1
  rw [e, Array.mapM_eq_mapM_toList, hf]
  have e2 : (List.toArray <$> rs.mapM (resv a.tmps)).run P w = .ok vs.toArray w := by
    rw [map_eq_pure_bind]
    simp only [Sem.run_bind, hr, Result.andThen_ok, Sem.run_pure]
  simp only [Sem.run_bind, e2, Result.andThen_ok, Sem.run_pure, Result.ok.injEq, and_true]
  unfold packed
  rcases vs with _ | ⟨v, _ | ⟨v', vs⟩⟩ <;> simp

/-- the arguments as temporaries -/
def argsT : Nat → List Value → Tm
  | _, [] => []
  | k, v :: vs => (k, v) :: argsT (k + 1) vs
theorem argsT_look : ∀ (vs : List Value) (k i : Nat) (v : Value), look (argsT k vs) i = some v → k ≤ i ∧ vs[i - k]? = some v
  | [], _, _, _, h => by simp [argsT, look] at h
  | u :: vs, k, i, v, h => by
    unfold argsT look at h
    cases hb : Nat.beq k i
    · simp only [hb, cond_false] at h
      obtain ⟨h1, h2⟩ := argsT_look vs (k + 1) i v h
      refine ⟨by omega, ?_⟩
      rw [show i - k = (i - (k + 1)) + 1 by omega]
      simpa using h2
    · simp only [hb, cond_true, Option.some.injEq] at h
      obtain rfl := Nat.eq_of_beq_eq_true hb
      exact ⟨Nat.le_refl _, by simp [h]⟩
/-- an append that stays as it is -/
def cat (a b : List Res) : List Res := a ++ b
/-- a function from its body -/
theorem calls_wc {α : Type} {f : FuncId} {fn : Func} {c : Code} {vs : List Value} {w : World} (D : List Nat) (σ1 : List Res) {vf : α → Value} {ρ : α → List Res} {φ : α → Prop} (rs : List ResultVar) (vsf : α → List Value)
    (hf : P.funcs[f]? = some fn) (hb : fn.body = some c) (hr : fn.results.toList = rs) (hvf : ∀ x, vf x = packed (vsf x)) (hn : fn.ntmps = n) (hl : Nat.ble vs.length n = true) (hown : Own σ1 w) (hD : σ1.flatMap Res.fp = D)
    (h : WC P n w D c (fun ex Γ σ => match ex with
      | .normal => ∃ x rest, RVs P n w D Γ σ rs (vsf x) ∧ φ x ∧ (cat (ρ x) rest).Perm σ
      | .ret => ∃ x rest, RVs P n w D Γ σ rs (vsf x) ∧ φ x ∧ (cat (ρ x) rest).Perm σ
      | _ => False) (argsT 0 vs) σ1) : Calls P f vs.toArray w (Ret σ1 vf ρ φ w) := by
  subst hD
  refine calls_of_wp hf hb (wp_mono (h.run _ _ ⟨by have := Nat.le_of_ble_eq_true hl; simp [hn]; omega, rfl, fun i v hi => ?_⟩ hown.st) ?_)
  · have h1 : vs[i]? = some v := by simpa using (argsT_look vs 0 i v hi).2
    have h2 : i < vs.length := (List.getElem?_eq_some_iff.1 h1).1
    simpa [Array.getElem?_append, h2] using (List.getElem?_eq_some_iff.1 h1).2
  · intro ex a w' hq
    have key : (∃ Γ σ, Sees n a Γ ∧ St w (σ1.flatMap Res.fp) σ w' ∧ ∃ x rest, RVs P n w (σ1.flatMap Res.fp) Γ σ rs (vsf x) ∧ φ x ∧ (cat (ρ x) rest).Perm σ) → a.defers = [] ∧ ∃ v, (results fn a.tmps).run P w' = .ok v w' ∧ Ret σ1 vf ρ φ w (.returned v) w' := by
      rintro ⟨Γ, σ, hs, hst0, x, rest, hrv, hφ, hperm⟩
      have hst := hst0.perm hperm
      refine ⟨hs.defers, _, run_results hr hrv a w' hs hst0, x, by rw [hvf], hφ, hst.only, fun r hr => hst.ok r (List.mem_append_left _ hr), fun b hb => ?_, ?_⟩
      · obtain ⟨r, hr, hb⟩ := List.mem_flatMap.1 hb
        exact ⟨hst.new r (List.mem_append_left _ hr) b hb, hst.lt r (List.mem_append_left _ hr) b hb⟩
      · exact hst.ownl.nd
    cases ex with
    | normal => exact key hq
    | ret => exact key hq
    | panic c => exact hq.elim
    | outgrown => exact hq.elim
    | exit i => obtain ⟨_, _, _, _, hf⟩ := hq; exact hf.elim
    | goto i => obtain ⟨_, _, _, _, hf⟩ := hq; exact hf.elim
end
end Go.Proofs.Ytofngbaefbbeiaa
