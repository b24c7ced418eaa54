/- A small logic for the walks: operations. -/
import Derived.Test.YtofngbaefbbeiaaS0
set_option linter.unusedVariables false
set_option linter.unusedSimpArgs false
namespace Go.Proofs.Ytofngbaefbbeiaa
open Go.RowKit

/-! ### types -/
def agg? (P : Program) (t : TypeId) : Option Bool := match P.underlying t with | some (.struct _) => some true | some (.array ..) => some true | some _ => some false | none => none
def size? (P : Program) (t : TypeId) : Option Nat := (P.info? t).map (·.size)
def zero? (P : Program) (t : TypeId) : Option Value := (P.info? t).bind (·.zero)
def bytes? (P : Program) (t : TypeId) : Option Nat := (P.info? t).map (·.bytes)
def elem? (P : Program) (t : TypeId) : Option TypeId := match P.underlying t with | some (.slice e) => some e | _ => none
def fOff (P : Program) (t : TypeId) (f : Nat) : Option Nat := match P.underlying t with
  | some (.struct fs) => (fs[f]?).bind fun fl => (size? P fl.type).bind fun n => if n = 0 then none else some fl.offset
  | _ => none

section
variable {P : Program} {w : World}
theorem run_isAgg {t : TypeId} {b : Bool} (h : agg? P t = some b) : (isAgg t).run P w = .ok b w := by
  unfold agg? at h
  cases hu : P.underlying t with
  | none => rw [hu] at h; cases h
  | some d => rw [hu] at h; cases d <;> simp at h <;> subst h <;> simp [isAgg, run_underlying hu]
theorem run_sizeOf' {t : TypeId} {n : Nat} (h : size? P t = some n) : (sizeOf t).run P w = .ok n w := by
  unfold size? at h
  cases hi : P.info? t with
  | none => rw [hi] at h; cases h
  | some i => rw [hi] at h; simp at h; subst h; simp [sizeOf, typeInfo, hi]
theorem run_zeroValue' {t : TypeId} {v : Value} (h : zero? P t = some v) : (zeroValue t).run P w = .ok v w := by
  unfold zero? at h
  cases hi : P.info? t with
  | none => rw [hi] at h; cases h
  | some i => rw [hi] at h; simp at h; simp [zeroValue, typeInfo, hi, h]
theorem elem?_spec {t e : TypeId} (h : elem? P t = some e) : P.underlying t = some (.slice e) := by
  unfold elem? at h
  cases hu : P.underlying t with
  | none => rw [hu] at h; cases h
  | some d => rw [hu] at h; cases d <;> simp at h; subst h; rfl
theorem run_fieldAt {t : TypeId} {f k : Nat} (h : fOff P t f = some k) (ad : Addr) : (Instr.fieldAt t (.pointer (some ad)) f).run P w = .ok (.pointer (some (ad.add k))) w := by
  unfold fOff at h
  cases hu : P.underlying t with
  | none => rw [hu] at h; cases h
  | some d =>
    rw [hu] at h
    cases d <;> simp only [reduceCtorEq] at h
    rename_i fs
    cases hf : fs[f]? with
    | none => rw [hf] at h; cases h
    | some fl =>
      rw [hf] at h
      simp only [Option.bind_some] at h
      cases hs : size? P fl.type with
      | none => rw [hs] at h; cases h
      | some n =>
        rw [hs] at h
        simp only [Option.bind_some] at h
        split at h
        · cases h
        · rename_i hn
          simp only [Option.some.injEq] at h
          subst h
          simp [Instr.fieldAt, run_underlying hu, hf, Instr.sureAddr, fieldPlace, run_sizeOf' hs, Result.andThen, hn]
end

theorem add_own (b o k : Nat) : (⟨b, o, none⟩ : Addr).add k = ⟨b, o + k, none⟩ := by unfold Addr.add; split <;> simp_all

/-! ### one operation -/
def gd (Γ : Tm) (ops : Array Oper) (o : Oper) : Option Bool := match o.guard with
  | none => some true
  | some (j, want) => match (ops[j]?).bind (·.dst) with
    | some d => match look Γ d with | some (.bool b) => some (b == want) | some _ => some false | none => none
    | none => none
theorem gd_spec {n : Nat} {a : Act} {Γ : Tm} {ops : Array Oper} {o : Oper} {g : Bool} (hs : Sees n a Γ) (h : gd Γ ops o = some g) : Region.wanted o (yielded ops a.tmps) = g := by
  unfold gd at h
  unfold Region.wanted
  cases hg : o.guard with
  | none => rw [hg] at h; simpa using h
  | some p =>
    obtain ⟨j, want⟩ := p
    rw [hg] at h
    simp only at h ⊢
    unfold yielded
    cases hd : (ops[j]?).bind (·.dst) with
    | none => rw [hd] at h; cases h
    | some d =>
      rw [hd] at h
      simp only [Option.bind_some] at h ⊢
      cases hl : look Γ d with
      | none => rw [hl] at h; cases h
      | some v =>
        rw [hl] at h
        have hg := hs.get d _ hl
        rw [hg]
        cases v <;> simp at h
        case bool b => subst h; cases b <;> cases want <;> rfl
        all_goals (subst h; simp)

section
variable {P : Program} {n : Nat} {w0 : World} {D : List Nat} {Γ : Tm} {σ : List Res} {ops : Array Oper} {o : Oper} {K : Tm → List Res → Prop}
structure OpOK (P : Program) (n : Nat) (w0 : World) (D : List Nat) (ops : Array Oper) (o : Oper) (K : Tm → List Res → Prop) (Γ : Tm) (σ : List Res) : Prop where
  run : ∀ (a : Act) (w : World), Sees n a Γ → St w0 D σ w → ∀ (Q : Exit → Act → World → Prop) (K' : Act → World → Prop), (∀ a w Γ σ, Sees n a Γ → St w0 D σ w → K Γ σ → K' a w) →
    if Region.wanted o (yielded ops a.tmps) = true then o.wp P a w K' Q else K' (a.put o.dst undef) w

structure WL (P : Program) (n : Nat) (w0 : World) (D : List Nat) (ops : Array Oper) (os : List Oper) (Q : QQ) (Γ : Tm) (σ : List Res) : Prop where
  run : ∀ a w, Sees n a Γ → St w0 D σ w → wpList P ops (conc n w0 D Q) os a w
theorem wl_nil {Q : QQ} (h : Q .normal Γ σ) : WL P n w0 D ops [] Q Γ σ := .mk fun a w hs hst => wpList_nil ⟨Γ, σ, hs, hst, h⟩
theorem wl_op {Q : QQ} {os : List Oper} (h : OpOK P n w0 D ops o (fun Γ σ => WL P n w0 D ops os Q Γ σ) Γ σ) : WL P n w0 D ops (o :: os) Q Γ σ := .mk fun a w hs hst =>
  wpList_step fun K hK => h.run a w hs hst _ K (fun a w Γ σ hs hst hk => hK a w (hk.run a w hs hst))
theorem wc_region {Q : QQ} {id : Nat} {l : List Oper} (h : WL P n w0 D l.toArray l Q Γ σ) : WC P n w0 D (.region id l.toArray false) Q Γ σ := .mk fun a w hs hst => wp_region_lit (h.run a w hs hst)

/-- an operation that yields v whatever the world is like, as far as our pieces go -/
structure ValOK (P : Program) (w0 : World) (D : List Nat) (σ : List Res) (Γ : Tm) (o : Oper) (v : Value) : Prop where
  run : ∀ w, St w0 D σ w → ∀ f : Operand → Value, (∀ x u, ev Γ x = some u → f x = u) → (execOp f o).run P w = .ok (.value v) w
theorem ok_val {v : Value} (hg : gd Γ ops o = some true) {dd : Nat} (hd : o.dst = some dd) (hdn : Nat.blt dd n = true) (hv : ValOK P w0 D σ Γ o v) (h : K ((dd, v) :: Γ) σ) : OpOK P n w0 D ops o K Γ σ := by
  refine ⟨fun a w hs hst Q K' hK => ?_⟩
  rw [if_pos (gd_spec hs hg)]
  unfold Oper.wp
  rw [hv.run w hst a.eval (fun x u hx => hs.eval hx)]
  exact hK _ _ _ _ (hs.put hd hdn v) hst h
theorem ok_pass (hg : gd Γ ops o = some false) {dd : Nat} (hd : o.dst = some dd) (hdn : Nat.blt dd n = true) (h : K ((dd, undef) :: Γ) σ) : OpOK P n w0 D ops o K Γ σ := by
  refine ⟨fun a w hs hst Q K' hK => ?_⟩
  rw [if_neg (by rw [gd_spec hs hg]; simp)]
  exact hK _ _ _ _ (hs.put hd hdn undef) hst h

/-- values that hang on nothing but the temporaries -/
def pev (Γ : Tm) (o : Oper) : Option Value := match o.op with
  | .move x => ev Γ x
  | .assign x => ev Γ x
  | .pick c x y => match ev Γ c with | some (.bool true) => ev Γ x | some (.bool false) => ev Γ y | _ => none
  | .unOp .not _ x => match ev Γ x with | some (.bool b) => some (.bool (!b)) | _ => none
  | .extract x i => match ev Γ x with | some (.tuple vs) => vs[i]? | _ => none
  | .nilCheck x => match ev Γ x with | some (.pointer (some a)) => some (.pointer (some a)) | _ => none
  | _ => none
theorem val_pure {v : Value} (h : pev Γ o = some v) : ValOK P w0 D σ Γ o v := by
  refine ⟨fun w hst f hf => ?_⟩
  unfold pev at h
  split at h <;> rename_i hop
  · simp [execOp, hop, hf _ _ h]
  · simp [execOp, hop, hf _ _ h]
  · split at h
    · rename_i hc; simp [execOp, hop, hf _ _ hc, hf _ _ h, asBool]
    · rename_i hc; simp [execOp, hop, hf _ _ hc, hf _ _ h, asBool]
    · cases h
  · split at h
    · rename_i hc; simp at h; subst h; simp [execOp, hop, hf _ _ hc, Op.unary]
    · cases h
  · split at h
    · rename_i hc; simp [execOp, hop, hf _ _ hc, Instr.extract, h]
    · cases h
  · split at h
    · rename_i hc; simp at h; subst h; simp [execOp, hop, hf _ _ hc]
    · cases h
  · cases h
end
end Go.Proofs.Ytofngbaefbbeiaa
