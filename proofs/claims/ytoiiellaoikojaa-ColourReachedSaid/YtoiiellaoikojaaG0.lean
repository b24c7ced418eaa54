/- The steps of the walks, gathered: one lemma an operation; pieces are sought by their shape. -/
import Derived.Test.YtoiiellaoikojaaLB
set_option linter.unusedVariables false
set_option linter.unusedSimpArgs false
set_option maxHeartbeats 4000000
namespace Go.Proofs.Ytoiiellaoikojaa
open Go.RowKit Go.Maps

/-! ### values that hang on the temporaries alone -/
def evs (Γ : Tm) : List Operand → Option (List Value)
  | [] => some []
  | x :: xs => match ev Γ x with
    | some v => match evs Γ xs with | some vs => some (v :: vs) | none => none
    | none => none
theorem evs_map {Γ : Tm} : ∀ {xs : List Operand} {vs : List Value}, evs Γ xs = some vs → xs.map (ev Γ) = vs.map some
  | [], vs, h => by simp only [evs, Option.some.injEq] at h; subst h; rfl
  | x :: xs, vs, h => by
    unfold evs at h
    cases hx : ev Γ x with
    | none => rw [hx] at h; cases h
    | some v =>
      rw [hx] at h
      cases hy : evs Γ xs with
      | none => rw [hy] at h; cases h
      | some us =>
        rw [hy] at h
        simp only [Option.some.injEq] at h
        subst h
        rw [List.map_cons, hx, evs_map hy]
        rfl
def pv (Γ : Tm) (o : Oper) : Option Value := match o.op with
  | .move x => ev Γ x
  | .assign x => ev Γ x
  | .pick c x y => match ev Γ c with | some (.bool true) => ev Γ x | some (.bool false) => ev Γ y | _ => none
  | .unOp .not _ x => match ev Γ x with | some (.bool b) => some (.bool (!b)) | _ => none
  | .extract x i => match ev Γ x with | some (.tuple vs) => vs[i]? | _ => none
  | .nilCheck x => match ev Γ x with | some (.pointer (some a)) => some (.pointer (some a)) | _ => none
  | .fieldAddr t x f => match ev Γ x with
    | some (.pointer (some ⟨b, i, none⟩)) => match lookN foT (64 * t + f) with
      | some k => cond (Nat.blt f 64) (some (.pointer (some ⟨b, i + k, none⟩))) none
      | none => none
    | _ => none
  | .call ⟨.builtin .len, ⟨[x]⟩, ⟨[t]⟩⟩ => match ev Γ x with
    | some (.slice _ m _) => match lookN elT t with | some _ => some (.int .i64 m) | none => none
    | _ => none
  | .makeFunc fn ⟨first⟩ ⟨captured⟩ => match evs Γ first with
    | some vs => match evs Γ captured with | some us => some (.func fn ⟨vs⟩ ⟨us⟩) | none => none
    | none => none
  | .build t ⟨[]⟩ => lookN zbT t
  | _ => none
section
variable {w0 : World} {D : List Nat} {Γ : Tm} {σ : List Res} {o : Oper}
theorem pv_ok {v : Value} (h : pv Γ o = some v) : ValOK Try.prog w0 D σ Γ o v := by
  unfold pv at h
  split at h <;> rename_i hop
  · exact val_pure (by unfold pev; rw [hop]; exact h)
  · exact val_pure (by unfold pev; rw [hop]; exact h)
  · exact val_pure (by unfold pev; rw [hop]; exact h)
  · exact val_pure (by unfold pev; rw [hop]; exact h)
  · exact val_pure (by unfold pev; rw [hop]; exact h)
  · exact val_pure (by unfold pev; rw [hop]; exact h)
  · split at h
    · rename_i hx
      split at h
      · rename_i k hk
        cases hb : Nat.blt _ 64 with
        | false => rw [hb] at h; cases h
        | true =>
          rw [hb] at h
          simp only [cond_true, Option.some.injEq] at h
          subst h
          exact val_field hop hx (fo_of hk hb)
      · cases h
    · cases h
  · split at h
    · rename_i hx
      split at h
      · rename_i hk
        simp only [Option.some.injEq] at h
        subst h
        exact val_len hop hx (el_of hk)
      · cases h
    · cases h
  · split at h
    · rename_i hx
      split at h
      · rename_i hy
        simp only [Option.some.injEq] at h
        subst h
        exact val_makeFunc hop (evs_map hx) (evs_map hy)
      · cases h
    · cases h
  · obtain ⟨cs, h1, rfl⟩ := zb_of h
    exact val_build (ps := []) (cells := cs.toList) hop rfl h1
  · cases h
end

/-! ### a step, and as many as go -/
def stp (n : Nat) (ops : Array Oper) (Γ : Tm) (o : Oper) : Option (Nat × Value) := match o.dst with
  | some dd => cond (Nat.blt dd n) (match gd Γ ops o with
    | some true => match pv Γ o with | some v => some (dd, v) | none => none
    | some false => some (dd, undef)
    | none => none) none
  | none => none
def prunF (n : Nat) (ops : Array Oper) : Tm → List Oper → Tm × List Oper
  | Γ, [] => (Γ, [])
  | Γ, o :: os => match stp n ops Γ o with | some p => prunF n ops (p :: Γ) os | none => (Γ, o :: os)
def prun (n : Nat) (ops : Array Oper) (Γ : Tm) : List Oper → Option (Tm × List Oper)
  | [] => none
  | o :: os => match stp n ops Γ o with | some p => some (prunF n ops (p :: Γ) os) | none => none
section
variable {n : Nat} {w0 : World} {D : List Nat} {Γ Γ' : Tm} {σ : List Res} {ops : Array Oper} {o : Oper} {os os' : List Oper} {Q : QQ} {K : Tm → Prop}
theorem stp_spec {p : Nat × Value} (h : stp n ops Γ o = some p) : o.dst = some p.1 ∧ Nat.blt p.1 n = true ∧ ((gd Γ ops o = some true ∧ pv Γ o = some p.2) ∨ (gd Γ ops o = some false ∧ p.2 = undef)) := by
  unfold stp at h
  cases hd : o.dst with
  | none => rw [hd] at h; cases h
  | some dd =>
    rw [hd] at h
    cases hb : Nat.blt dd n with
    | false => simp [hb] at h
    | true =>
      simp only [hb, cond_true] at h
      cases hg : gd Γ ops o with
      | none => rw [hg] at h; cases h
      | some b =>
        rw [hg] at h
        cases b with
        | false => simp only [Option.some.injEq] at h; subst h; exact ⟨rfl, hb, .inr ⟨rfl, rfl⟩⟩
        | true =>
          cases hp : pv Γ o with
          | none => rw [hp] at h; cases h
          | some v => rw [hp] at h; simp only [Option.some.injEq] at h; subst h; exact ⟨rfl, hb, .inl ⟨rfl, rfl⟩⟩
theorem stp_wl {p : Nat × Value} (h : stp n ops Γ o = some p) (k : WL Try.prog n w0 D ops os Q (p :: Γ) σ) : WL Try.prog n w0 D ops (o :: os) Q Γ σ := by
  obtain ⟨hd, hb, ⟨hg, hp⟩ | ⟨hg, hp⟩⟩ := stp_spec h
  · exact wl_v hg hd hb (pv_ok hp) k
  · obtain ⟨dd, v⟩ := p
    dsimp only at hp hd hb
    subst hp
    exact wl_p hg hd hb k
theorem stp_wq {p : Nat × Value} (h : stp n ops Γ o = some p) (k : WQ Try.prog n w0 D σ ops K os (p :: Γ)) : WQ Try.prog n w0 D σ ops K (o :: os) Γ := by
  obtain ⟨hd, hb, ⟨hg, hp⟩ | ⟨hg, hp⟩⟩ := stp_spec h
  · exact wq_val hg hd hb (pv_ok hp) k
  · obtain ⟨dd, v⟩ := p
    dsimp only at hp hd hb
    subst hp
    exact wq_pass hg hd hb k
theorem prunF_wl : ∀ {os : List Oper} {Γ : Tm}, prunF n ops Γ os = (Γ', os') → WL Try.prog n w0 D ops os' Q Γ' σ → WL Try.prog n w0 D ops os Q Γ σ
  | [], Γ, h, k => by simp only [prunF, Prod.mk.injEq] at h; obtain ⟨rfl, rfl⟩ := h; exact k
  | o :: os, Γ, h, k => by
    unfold prunF at h
    cases hs : stp n ops Γ o with
    | none => rw [hs] at h; simp only [Prod.mk.injEq] at h; obtain ⟨rfl, rfl⟩ := h; exact k
    | some p => rw [hs] at h; exact stp_wl hs (prunF_wl h k)
theorem prunF_wq : ∀ {os : List Oper} {Γ : Tm}, prunF n ops Γ os = (Γ', os') → WQ Try.prog n w0 D σ ops K os' Γ' → WQ Try.prog n w0 D σ ops K os Γ
  | [], Γ, h, k => by simp only [prunF, Prod.mk.injEq] at h; obtain ⟨rfl, rfl⟩ := h; exact k
  | o :: os, Γ, h, k => by
    unfold prunF at h
    cases hs : stp n ops Γ o with
    | none => rw [hs] at h; simp only [Prod.mk.injEq] at h; obtain ⟨rfl, rfl⟩ := h; exact k
    | some p => rw [hs] at h; exact stp_wq hs (prunF_wq h k)
/-- all pure steps that come -/
theorem gp1 (h : prun n ops Γ os = some (Γ', os')) (k : WL Try.prog n w0 D ops os' Q Γ' σ) : WL Try.prog n w0 D ops os Q Γ σ := by
  cases os with
  | nil => cases h
  | cons o os =>
    dsimp only [prun] at h
    cases hs : stp n ops Γ o with
    | none => rw [hs] at h; cases h
    | some p => rw [hs] at h; simp only [Option.some.injEq] at h; exact stp_wl hs (prunF_wl h k)
theorem gp2 (h : prun n ops Γ os = some (Γ', os')) (k : WQ Try.prog n w0 D σ ops K os' Γ') : WQ Try.prog n w0 D σ ops K os Γ := by
  cases os with
  | nil => cases h
  | cons o os =>
    dsimp only [prun] at h
    cases hs : stp n ops Γ o with
    | none => rw [hs] at h; cases h
    | some p => rw [hs] at h; simp only [Option.some.injEq] at h; exact stp_wq hs (prunF_wq h k)
end

theorem mid_at {α : Type _} : ∀ (τ : List α) (r : α) (σ : List α), (τ ++ r :: σ)[τ.length]? = some r
  | [], _, _ => rfl
  | _ :: τ, r, σ => by simp
theorem mid_ex {α : Type _} (τ : List α) (q : α) (σ : List α) : ∃ τ', τ ++ q :: σ = τ' ++ σ := ⟨τ ++ [q], by simp⟩
/-! ### loads -/
inductive LDv (w0 : World) (D : List Nat) : List Res → TypeId → Bool → Value → Value → Prop
  | o {σ : List Res} {α : Type} [Inhabited α] {f : α → Value} {A : Option Addr} {c : Nat} {xs : List α} {i : Int} {t : TypeId} : RdO f w0 D A c xs → 0 ≤ i → i < xs.length → LDv w0 D σ t false (.pointer (some (elA A 1 i))) (f (gt xs i))
  | c {σ : List Res} {b k : Nat} {cs : List Value} {t t' : TypeId} {v : Value} : nth cs k = some v → LDv w0 D (blk b cs t' :: σ) t false (.pointer (some ⟨b, k, none⟩)) v
  | a {σ : List Res} {b k s : Nat} {cs vs : List Value} {t t' : TypeId} : lookN szT t = some s → (cs.drop k).take s = vs → vs.length = s → LDv w0 D (blk b cs t' :: σ) t true (.pointer (some ⟨b, k, none⟩)) (.agg vs.toArray)
  | r {σ : List Res} {α : Type} [Inhabited α] {f : α → Value} {A : Option Addr} {c : Nat} {xs : List α} {i : Int} {t e : TypeId} : 0 ≤ i → i < xs.length → LDv w0 D (osl e f A c xs :: σ) t false (.pointer (some (elA A 1 i))) (f (gt xs i))
  | tab {σ : List Res} {R : Nat} {ms : List Nat} {S : Int → Int → Bool} {i : Int} : 0 ≤ i → i < ms.length → LDv w0 D (Tab R ms S :: σ) TM false (.pointer (some (elA (some ⟨R, 0, none⟩) 1 i))) (.map (some (gt ms i)))
  | there {q : Res} {σ : List Res} {t : TypeId} {g : Bool} {p v : Value} : LDv w0 D σ t g p v → LDv w0 D (q :: σ) t g p v
section
variable {n : Nat} {w0 : World} {D : List Nat} {Γ : Tm} {σ : List Res} {ops : Array Oper} {o : Oper} {os : List Oper} {Q : QQ} {K : Tm → Prop}
theorem LDv.ld {t : TypeId} {g : Bool} {p v : Value} (h : LDv w0 D σ t g p v) : ∀ {σ' : List Res}, (∃ τ, σ' = τ ++ σ) → agg? Try.prog t = some g → LD Try.prog w0 D σ' t g p (fun u => u = v) := by
  induction h with
  | o h0 h1 h2 => rintro σ' ⟨τ, rfl⟩ ht; exact ld_old h0 ht h1 h2 rfl
  | c h => rintro σ' ⟨τ, rfl⟩ ht; exact ld_blk τ.length (mid_at _ _ _) ht h rfl
  | a h1 h2 h3 => rintro σ' ⟨τ, rfl⟩ ht; exact ld_agg τ.length (mid_at _ _ _) ht (sz_of h1) h2 h3 rfl
  | r h1 h2 => rintro σ' ⟨τ, rfl⟩ ht; exact ld_own τ.length (mid_at _ _ _) ht h1 h2 rfl
  | tab h1 h2 => rintro σ' ⟨τ, rfl⟩ ht; exact ld_tab τ.length (mid_at _ _ _) h1 h2 rfl
  | there _ ih => rintro σ' ⟨τ, rfl⟩ ht; exact ih (mid_ex _ _ _) ht
theorem LDv.val {t : TypeId} {g : Bool} {p v : Value} {x : Operand} (h : LDv w0 D σ t g p v) (hop : o.op = .load t x) (hx : ev Γ x = some p) (ht : agg? Try.prog t = some g) : ValOK Try.prog w0 D σ Γ o v := by
  obtain ⟨u, h1, rfl⟩ := (h.ld ⟨[], rfl⟩ ht).run
  exact val_of_ld hop hx h1
def ldS (n : Nat) (ops : Array Oper) (Γ : Tm) (o : Oper) : Option (Nat × TypeId × Bool × Value) := match o.op with
  | .load t x => match gd Γ ops o with
    | some true => match o.dst with
      | some dd => cond (Nat.blt dd n) (match ev Γ x with
        | some p => match lookN agT t with | some g => some (dd, t, g, p) | none => none
        | none => none) none
      | none => none
    | _ => none
  | _ => none
theorem ldS_spec {dd : Nat} {t : TypeId} {g : Bool} {p : Value} (h : ldS n ops Γ o = some (dd, t, g, p)) : ∃ x, o.op = .load t x ∧ gd Γ ops o = some true ∧ o.dst = some dd ∧ Nat.blt dd n = true ∧ ev Γ x = some p ∧ agg? Try.prog t = some g := by
  unfold ldS at h
  split at h
  · rename_i t' x hop
    split at h
    · rename_i hg
      split at h
      · rename_i dd' hd
        cases hb : Nat.blt dd' n with
        | false => rw [hb] at h; cases h
        | true =>
          rw [hb] at h
          simp only [cond_true] at h
          split at h
          · rename_i hx
            split at h
            · rename_i ha
              simp only [Option.some.injEq, Prod.mk.injEq] at h
              obtain ⟨rfl, rfl, rfl, rfl⟩ := h
              exact ⟨x, hop, hg, hd, hb, hx, ag_of ha⟩
            · cases h
          · cases h
      · cases h
    · cases h
  · cases h
theorem gl1 {dd : Nat} {t : TypeId} {g : Bool} {p v : Value} (h : ldS n ops Γ o = some (dd, t, g, p)) (k : WL Try.prog n w0 D ops os Q ((dd, v) :: Γ) σ)
    (hv : LDv w0 D σ t g p v := by (first | exact .o (by assumption) (by omega) (by omega) | repeat (first | exact .c rfl | exact .a rfl rfl rfl | exact .r (by omega) (by omega) | exact .tab (by omega) (by omega) | apply LDv.there)) <;> fail) : WL Try.prog n w0 D ops (o :: os) Q Γ σ := by
  obtain ⟨x, hop, hg, hd, hb, hx, ht⟩ := ldS_spec h
  exact wl_v hg hd hb (hv.val hop hx ht) k
theorem gl2 {dd : Nat} {t : TypeId} {g : Bool} {p v : Value} (h : ldS n ops Γ o = some (dd, t, g, p)) (k : WQ Try.prog n w0 D σ ops K os ((dd, v) :: Γ))
    (hv : LDv w0 D σ t g p v := by (first | exact .o (by assumption) (by omega) (by omega) | repeat (first | exact .c rfl | exact .a rfl rfl rfl | exact .r (by omega) (by omega) | exact .tab (by omega) (by omega) | apply LDv.there)) <;> fail) : WQ Try.prog n w0 D σ ops K (o :: os) Γ := by
  obtain ⟨x, hop, hg, hd, hb, hx, ht⟩ := ldS_spec h
  exact wq_val hg hd hb (hv.val hop hx ht) k
end

/-! ### operations on two ints -/
inductive BIv : BinOp → IntKind → Int → Int → Value → Prop
  | add {a b : Int} : -9223372036854775808 ≤ a + b ∧ a + b ≤ 9223372036854775807 → BIv .add .i64 a b (.int .i64 (a + b))
  | sub {a b : Int} : -9223372036854775808 ≤ a - b ∧ a - b ≤ 9223372036854775807 → BIv .sub .i64 a b (.int .i64 (a - b))
  | mul {a b : Int} : -9223372036854775808 ≤ a * b ∧ a * b ≤ 9223372036854775807 → BIv .mul .i64 a b (.int .i64 (a * b))
  | t {op : BinOp} {k : IntKind} {a b : Int} : isCmp op = true → cmpP op a b → BIv op k a b (.bool true)
  | f {op : BinOp} {k : IntKind} {a b : Int} : isCmp op = true → ¬ cmpP op a b → BIv op k a b (.bool false)
theorem BIv.bi {op : BinOp} {k : IntKind} {a b : Int} {v : Value} (h : BIv op k a b v) : BI op k a b (fun u => u = v) := by
  cases h with
  | add h => exact bi_add h rfl
  | sub h => exact bi_sub h rfl
  | mul h => exact bi_mul h rfl
  | t h1 h2 => exact bi_t h1 h2 rfl
  | f h1 h2 => exact bi_f h1 h2 rfl
section
variable {n : Nat} {w0 : World} {D : List Nat} {Γ : Tm} {σ : List Res} {ops : Array Oper} {o : Oper} {os : List Oper} {Q : QQ} {K : Tm → Prop} {P : Program}
def biS (n : Nat) (ops : Array Oper) (Γ : Tm) (o : Oper) : Option (Nat × BinOp × IntKind × Int × IntKind × Int) := match o.op with
  | .binOp op _ x y _ => match gd Γ ops o with
    | some true => match o.dst with
      | some dd => cond (Nat.blt dd n) (match ev Γ x with
        | some (.int k a) => match ev Γ y with | some (.int l b) => some (dd, op, k, a, l, b) | _ => none
        | _ => none) none
      | none => none
    | _ => none
  | _ => none
theorem biS_spec {dd : Nat} {op : BinOp} {k : IntKind} {a b : Int} (h : biS n ops Γ o = some (dd, op, k, a, k, b)) : ∃ t x y t2, o.op = .binOp op t x y t2 ∧ gd Γ ops o = some true ∧ o.dst = some dd ∧ Nat.blt dd n = true ∧ ev Γ x = some (.int k a) ∧ ev Γ y = some (.int k b) := by
  unfold biS at h
  split at h
  · rename_i op' t x y t2 hop
    split at h
    · rename_i hg
      split at h
      · rename_i dd' hd
        cases hb : Nat.blt dd' n with
        | false => rw [hb] at h; cases h
        | true =>
          rw [hb] at h
          simp only [cond_true] at h
          split at h
          · rename_i hx
            split at h
            · rename_i hy
              simp only [Option.some.injEq, Prod.mk.injEq] at h
              obtain ⟨rfl, rfl, rfl, rfl, rfl, rfl⟩ := h
              exact ⟨t, x, y, t2, hop, hg, hd, hb, hx, hy⟩
            · cases h
          · cases h
      · cases h
    · cases h
  · cases h
theorem BIv.val {op : BinOp} {t t2 : TypeId} {x y : Operand} {k : IntKind} {a b : Int} {v : Value} (h : BIv op k a b v) (hop : o.op = .binOp op t x y t2) (hx : ev Γ x = some (.int k a)) (hy : ev Γ y = some (.int k b)) : ValOK P w0 D σ Γ o v := by
  obtain ⟨u, h1, rfl⟩ := h.bi.run
  exact val_of_bi hop hx hy h1
theorem gb1 {dd : Nat} {op : BinOp} {k : IntKind} {a b : Int} {v : Value} (h : biS n ops Γ o = some (dd, op, k, a, k, b)) (kk : WL P n w0 D ops os Q ((dd, v) :: Γ) σ)
    (hv : BIv op k a b v := by first | exact .add (by omega) | exact .sub (by omega) | exact .t rfl (by omega) | exact .f rfl (by omega) | exact .mul (by omega)) : WL P n w0 D ops (o :: os) Q Γ σ := by
  obtain ⟨t, x, y, t2, hop, hg, hd, hb, hx, hy⟩ := biS_spec h
  exact wl_v hg hd hb (hv.val hop hx hy) kk
theorem gb2 {dd : Nat} {op : BinOp} {k : IntKind} {a b : Int} {v : Value} (h : biS n ops Γ o = some (dd, op, k, a, k, b)) (kk : WQ P n w0 D σ ops K os ((dd, v) :: Γ))
    (hv : BIv op k a b v := by first | exact .add (by omega) | exact .sub (by omega) | exact .t rfl (by omega) | exact .f rfl (by omega) | exact .mul (by omega)) : WQ P n w0 D σ ops K (o :: os) Γ := by
  obtain ⟨t, x, y, t2, hop, hg, hd, hb, hx, hy⟩ := biS_spec h
  exact wq_val hg hd hb (hv.val hop hx hy) kk
/-- a comparison that may fall either way -/
theorem gs1 {dd : Nat} {op : BinOp} {k : IntKind} {a b : Int} (h : biS n ops Γ o = some (dd, op, k, a, k, b)) (hc : isCmp op = true) (ht : cmpP op a b → WL P n w0 D ops os Q ((dd, .bool true) :: Γ) σ) (hf : ¬ cmpP op a b → WL P n w0 D ops os Q ((dd, .bool false) :: Γ) σ) : WL P n w0 D ops (o :: os) Q Γ σ := by
  by_cases hp : cmpP op a b
  · exact gb1 h (ht hp) (.t hc hp)
  · exact gb1 h (hf hp) (.f hc hp)
theorem gs2 {dd : Nat} {op : BinOp} {k : IntKind} {a b : Int} (h : biS n ops Γ o = some (dd, op, k, a, k, b)) (hc : isCmp op = true) (ht : cmpP op a b → WQ P n w0 D σ ops K os ((dd, .bool true) :: Γ)) (hf : ¬ cmpP op a b → WQ P n w0 D σ ops K os ((dd, .bool false) :: Γ)) : WQ P n w0 D σ ops K (o :: os) Γ := by
  by_cases hp : cmpP op a b
  · exact gb2 h (ht hp) (.t hc hp)
  · exact gb2 h (hf hp) (.f hc hp)
end

/-! ### '&s[i]' -/
inductive IXv (w0 : World) (D : List Nat) : List Res → Option Addr → Nat → Nat → Int → Prop
  | lit {σ : List Res} {ad : Addr} {m c : Nat} {i : Int} : 0 ≤ i → i < m → IXv w0 D σ (some ad) m c i
  | o {σ : List Res} {α : Type} {f : α → Value} {A : Option Addr} {c : Nat} {xs : List α} {i : Int} : RdO f w0 D A c xs → 0 ≤ i → i < xs.length → IXv w0 D σ A xs.length c i
  | r {σ : List Res} {α : Type} {f : α → Value} {A : Option Addr} {m c c' : Nat} {xs : List α} {i : Int} {e : TypeId} : 0 ≤ i → i < m → i < xs.length → IXv w0 D (osl e f A c xs :: σ) A m c' i
  | there {q : Res} {σ : List Res} {A : Option Addr} {m c : Nat} {i : Int} : IXv w0 D σ A m c i → IXv w0 D (q :: σ) A m c i
section
variable {n : Nat} {w0 : World} {D : List Nat} {Γ : Tm} {σ : List Res} {ops : Array Oper} {o : Oper} {os : List Oper} {Q : QQ} {K : Tm → Prop}
theorem IXv.ok {A : Option Addr} {m c : Nat} {i : Int} (h : IXv w0 D σ A m c i) : ∀ {σ' : List Res}, (∃ τ, σ' = τ ++ σ) → 0 ≤ i ∧ i < m ∧ ∀ w, St w0 D σ' w → ∃ ad, A = some ad := by
  induction h with
  | lit h0 h1 => intro σ' _; exact ⟨h0, h1, fun _ _ => ⟨_, rfl⟩⟩
  | o h h0 h1 => intro σ' _; exact ⟨h0, h1, fun w hst => (h.now hst).some_ h0 h1⟩
  | r h0 h1 h2 => rintro σ' ⟨τ, rfl⟩; exact ⟨h0, h1, fun w hst => (osl_reads (hst.ok _ (List.mem_append_right _ List.mem_cons_self))).some_ h0 h2⟩
  | there _ ih => rintro σ' ⟨τ, rfl⟩; exact ih (mid_ex _ _ _)
def ixS (n : Nat) (ops : Array Oper) (Γ : Tm) (o : Oper) : Option (Nat × Option Addr × Nat × Nat × Int × Nat) := match o.op with
  | .indexAddr t x y => match gd Γ ops o with
    | some true => match o.dst with
      | some dd => cond (Nat.blt dd n) (match ev Γ x with
        | some (.slice A m c) => match ev Γ y with
          | some (.int _ i) => match lookN elT t with
            | some e => match lookN szT e with | some s => some (dd, A, m, c, i, s) | none => none
            | none => none
          | _ => none
        | _ => none) none
      | none => none
    | _ => none
  | _ => none
theorem ixS_spec {dd : Nat} {A : Option Addr} {m c : Nat} {i : Int} {s : Nat} (h : ixS n ops Γ o = some (dd, A, m, c, i, s)) : ∃ t x y e k, o.op = .indexAddr t x y ∧ gd Γ ops o = some true ∧ o.dst = some dd ∧ Nat.blt dd n = true ∧ ev Γ x = some (.slice A m c) ∧ ev Γ y = some (.int k i) ∧ elem? Try.prog t = some e ∧ size? Try.prog e = some s := by
  unfold ixS at h
  split at h
  · rename_i t x y hop
    split at h
    · rename_i hg
      split at h
      · rename_i dd' hd
        cases hb : Nat.blt dd' n with
        | false => rw [hb] at h; cases h
        | true =>
          rw [hb] at h
          simp only [cond_true] at h
          split at h
          · rename_i hx
            split at h
            · rename_i hy
              split at h
              · rename_i he
                split at h
                · rename_i hs
                  simp only [Option.some.injEq, Prod.mk.injEq] at h
                  obtain ⟨rfl, rfl, rfl, rfl, rfl, rfl⟩ := h
                  exact ⟨t, x, y, _, _, hop, hg, hd, hb, hx, hy, el_of he, sz_of hs⟩
                · cases h
              · cases h
            · cases h
          · cases h
      · cases h
    · cases h
  · cases h
theorem gi1 {dd : Nat} {A : Option Addr} {m c : Nat} {i : Int} {s : Nat} (h : ixS n ops Γ o = some (dd, A, m, c, i, s)) (k : WL Try.prog n w0 D ops os Q ((dd, .pointer (some (elA A s i))) :: Γ) σ)
    (hv : IXv w0 D σ A m c i := by (first | exact .lit (by omega) (by omega) | exact .o (by assumption) (by omega) (by omega) | repeat (first | exact .r (by omega) (by omega) (by omega) | apply IXv.there)) <;> fail) : WL Try.prog n w0 D ops (o :: os) Q Γ σ := by
  obtain ⟨t, x, y, e, k', hop, hg, hd, hb, hx, hy, he, hs⟩ := ixS_spec h
  exact wl_v hg hd hb (val_of_ix hop hx hy he hs (hv.ok ⟨[], rfl⟩)) k
theorem gi2 {dd : Nat} {A : Option Addr} {m c : Nat} {i : Int} {s : Nat} (h : ixS n ops Γ o = some (dd, A, m, c, i, s)) (k : WQ Try.prog n w0 D σ ops K os ((dd, .pointer (some (elA A s i))) :: Γ))
    (hv : IXv w0 D σ A m c i := by (first | exact .lit (by omega) (by omega) | exact .o (by assumption) (by omega) (by omega) | repeat (first | exact .r (by omega) (by omega) (by omega) | apply IXv.there)) <;> fail) : WQ Try.prog n w0 D σ ops K (o :: os) Γ := by
  obtain ⟨t, x, y, e, k', hop, hg, hd, hb, hx, hy, he, hs⟩ := ixS_spec h
  exact wq_val hg hd hb (val_of_ix hop hx hy he hs (hv.ok ⟨[], rfl⟩)) k
end

/-! ### stores -/
inductive STv : List Res → TypeId → Value → Value → List Res → Prop
  | c {σ : List Res} {b k : Nat} {cs vs : List Value} {t t' : TypeId} {v : Value} : v.cells.toList = vs → vs.all (·.oneCell') = true → lookN szT t = some vs.length → Nat.ble (k + vs.length) cs.length = true → STv (blk b cs t' :: σ) t (.pointer (some ⟨b, k, none⟩)) v (blk b (splice cs k vs) t' :: σ)
  | r {σ : List Res} {α : Type} {f : α → Value} {A : Option Addr} {c : Nat} {xs : List α} {i : Int} {t e : TypeId} {x : α} : (f x).oneCell' = true → lookN szT t = some 1 → 0 ≤ i → i < xs.length → STv (osl e f A c xs :: σ) t (.pointer (some (elA A 1 i))) (f x) (osl e f A c (xs.set i.toNat x) :: σ)
  | there {q : Res} {σ σ' : List Res} {t : TypeId} {p v : Value} : STv σ t p v σ' → STv (q :: σ) t p v (q :: σ')
section
variable {n : Nat} {w0 : World} {D : List Nat} {Γ : Tm} {σ σ' : List Res} {ops : Array Oper} {o : Oper} {os : List Oper} {Q : QQ} {K : Tm → List Res → Prop}
theorem STv.ok {t : TypeId} {p v : Value} {x y : Operand} (h : STv σ t p v σ') (hop : o.op = .store t x y) (hg : gd Γ ops o = some true) (hd : o.dst = none) (hx : ev Γ x = some p) (hy : ev Γ y = some v) : ∀ {τ : List Res} {K : Tm → List Res → Prop}, K Γ (τ ++ σ') → OpOK Try.prog n w0 D ops o K Γ (τ ++ σ) := by
  induction h with
  | @c σ b k cs vs t t' v h1 h2 h3 h4 =>
    intro τ K hk
    refine ok_store τ.length hop hx hy (mid_at _ _ _) hg hd h1 h2 (sz_of h3) h4 ?_
    simpa using hk
  | @r σ α f A c xs i t e u h1 h2 h3 h4 =>
    intro τ K hk
    refine ok_storeRow τ.length f hop hx hy (mid_at _ _ _) hg hd h1 (sz_of h2) h3 h4 ?_
    simpa using hk
  | @there q σ σ' t p v _ ih =>
    intro τ K hk
    have := ih hop hx hy (τ := τ ++ [q]) (K := K) (by simpa using hk)
    simpa using this
def stS (ops : Array Oper) (Γ : Tm) (o : Oper) : Option (TypeId × Value × Value) := match o.op with
  | .store t x y => match gd Γ ops o with
    | some true => match o.dst with
      | none => match ev Γ x with
        | some p => match ev Γ y with | some v => some (t, p, v) | none => none
        | none => none
      | some _ => none
    | _ => none
  | _ => none
theorem stS_spec {t : TypeId} {p v : Value} (h : stS ops Γ o = some (t, p, v)) : ∃ x y, o.op = .store t x y ∧ gd Γ ops o = some true ∧ o.dst = none ∧ ev Γ x = some p ∧ ev Γ y = some v := by
  unfold stS at h
  split at h
  · rename_i t x y hop
    split at h
    · rename_i hg
      split at h
      · rename_i hd
        split at h
        · rename_i hx
          split at h
          · rename_i hy
            simp only [Option.some.injEq, Prod.mk.injEq] at h
            obtain ⟨rfl, rfl, rfl⟩ := h
            exact ⟨x, y, hop, hg, hd, hx, hy⟩
          · cases h
        · cases h
      · cases h
    · cases h
  · cases h
theorem gt1 {t : TypeId} {p v : Value} (h : stS ops Γ o = some (t, p, v)) (k : WL Try.prog n w0 D ops os Q Γ σ')
    (hv : STv σ t p v σ' := by (repeat (first | exact .c rfl rfl rfl rfl | exact .r rfl rfl (by omega) (by omega) | apply STv.there)) <;> fail) : WL Try.prog n w0 D ops (o :: os) Q Γ σ := by
  obtain ⟨x, y, hop, hg, hd, hx, hy⟩ := stS_spec h
  exact wl_op (hv.ok (τ := []) hop hg hd hx hy k)
theorem gt0 {t : TypeId} {p v : Value} (h : stS ops Γ o = some (t, p, v)) (k : K Γ σ')
    (hv : STv σ t p v σ' := by (repeat (first | exact .c rfl rfl rfl rfl | exact .r rfl rfl (by omega) (by omega) | apply STv.there)) <;> fail) : OpOK Try.prog n w0 D ops o K Γ σ := by
  obtain ⟨x, y, hop, hg, hd, hx, hy⟩ := stS_spec h
  exact hv.ok (τ := []) hop hg hd hx hy k
end

/-! ### pieces taken out by their shape -/
def SubK (M σ : List Res) (K : List Res → Prop) : Prop := ∃ rest, (M ++ rest).Perm σ ∧ K rest
def PickK (r : Res) (σ : List Res) (K : List Res → Prop) : Prop := ∃ σ', (r :: σ').Perm σ ∧ K σ'
theorem gk0 {σ : List Res} {K : List Res → Prop} (h : K σ) : SubK [] σ K := ⟨σ, List.Perm.refl _, h⟩
theorem gk1 {r : Res} {M σ : List Res} {K : List Res → Prop} (h : PickK r σ (fun σ' => SubK M σ' K)) : SubK (r :: M) σ K := by
  obtain ⟨σ', hp, rest, hq, hk⟩ := h
  exact ⟨rest, (List.Perm.cons r hq).trans hp, hk⟩
theorem gk2 {r : Res} {σ : List Res} {K : List Res → Prop} (h : K σ) : PickK r (r :: σ) K := ⟨σ, List.Perm.refl _, h⟩
theorem gk3 {r a : Res} {σ : List Res} {K : List Res → Prop} (h : PickK r σ (fun σ' => K (a :: σ'))) : PickK r (a :: σ) K := by
  obtain ⟨σ', hp, hk⟩ := h
  exact ⟨a :: σ', (List.Perm.swap a r σ').trans (List.Perm.cons a hp), hk⟩
/-- a given rest of the list, taken whole -/
theorem gk4 {M : List Res} {K : List Res → Prop} (h : K []) : SubK M M K := ⟨[], by simp, h⟩
def SubE (M σ : List Res) : Prop := ∃ rest, (M ++ rest).Perm σ
theorem SubK.e {M σ : List Res} (h : SubK M σ (fun _ => True)) : SubE M σ := by
  obtain ⟨r, h, _⟩ := h
  exact ⟨r, h⟩

section
variable {P : Program} {n : Nat} {w0 : World} {D : List Nat} {Γ : Tm} {σ : List Res} {ops : Array Oper} {o : Oper} {os : List Oper} {Q : QQ}
/-! ### loops -/
theorem glp {c : Code} {α : Type} (pre : α → Prop) (T : α → Tm) (M : α → List Res) (μ : α → Nat) (x0 : α) (hp : pre x0)
    (round : ∀ x, pre x → WC P n w0 D c (thenQ (fun Γ' σ' => ∃ x', pre x' ∧ tmLe (T x') Γ' ∧ SubE (M x') σ' ∧ μ x' < μ x) Q) (T x) (M x))
    (hT : tmLe (T x0) Γ := by repeat (first | exact .nil | refine .cons rfl ?_ | refine .cons (look_to rfl (by simp [vi])) ?_))
    (hM : SubE (M x0) σ := by refine SubK.e ?_; repeat (first | exact gk0 trivial | refine gk1 ?_ | refine gk2 ?_ | refine gk3 ?_ | exact gk4 trivial)) : WC P n w0 D (.loop c) Q Γ σ := by
  obtain ⟨rest, hM⟩ := hM
  refine ⟨fun a w hs hst => ?_⟩
  refine wp_loop_ghost (fun m a w => ∃ x, μ x = m ∧ pre x ∧ Sees n a (T x) ∧ St w0 D (M x) w) (μ x0) ⟨x0, rfl, hp, hs.less hT, (hst.perm hM).keep⟩ ?_
  rintro m a w ⟨x, rfl, hpx, hs, hst⟩
  refine wp_mono ((round x hpx).run a w hs hst) fun ex a' w' hq => ?_
  cases ex with
  | normal => obtain ⟨Γ', σ', hs', hst', x', h0, h1, ⟨rest, h2⟩, h3⟩ := hq; exact ⟨μ x', h3, x', rfl, h0, hs'.less h1, (hst'.perm h2).keep⟩
  | panic c => exact hq.elim
  | outgrown => exact hq.elim
  | exit i => exact hq
  | goto l => exact hq
  | ret => exact hq
theorem gnx {α : Type} {pre : α → Prop} {T : α → Tm} {M : α → List Res} {μ : α → Nat} {m : Nat} (x' : α) (h0 : pre x') (h3 : μ x' < m)
    (h1 : tmLe (T x') Γ := by repeat (first | exact .nil | refine .cons rfl ?_ | refine .cons (look_to rfl (by simp [vi])) ?_))
    (h2 : SubE (M x') σ := by refine SubK.e ?_; repeat (first | exact gk0 trivial | refine gk1 ?_ | refine gk2 ?_ | refine gk3 ?_ | exact gk4 trivial)) : ∃ x', pre x' ∧ tmLe (T x') Γ ∧ SubE (M x') σ ∧ μ x' < m := ⟨x', h0, h1, h2, h3⟩
/-! ### results -/
inductive RVd (P : Program) (Γ : Tm) : List Res → ResultVar → Value → Prop
  | t {σ : List Res} {t : Tmp} {v : Value} : look Γ t = some v → RVd P Γ σ (.tmp t) v
  | a {σ : List Res} {d : Tmp} {t t' : TypeId} {b m : Nat} {cs vs : List Value} : look Γ d = some (.pointer (some ⟨b, 0, none⟩)) → agg? P t = some true → size? P t = some m → cs = vs → vs.length = m → RVd P Γ (blk b cs t' :: σ) (.cell d t) (.agg vs.toArray)
  | c {σ : List Res} {d : Tmp} {t t' : TypeId} {b : Nat} {cs : List Value} {v : Value} : look Γ d = some (.pointer (some ⟨b, 0, none⟩)) → agg? P t = some false → nth cs 0 = some v → RVd P Γ (blk b cs t' :: σ) (.cell d t) v
  | there {q : Res} {σ : List Res} {r : ResultVar} {v : Value} : RVd P Γ σ r v → RVd P Γ (q :: σ) r v
theorem RVd.rv {r : ResultVar} {v : Value} (h : RVd P Γ σ r v) : ∀ {σ' : List Res}, (∃ τ, σ' = τ ++ σ) → RV P n w0 D Γ σ' r v := by
  induction h with
  | t h => intro σ' _; exact rv_tmp h
  | a h1 h2 h3 h4 h5 => rintro σ' ⟨τ, rfl⟩; exact rv_agg τ.length h1 (mid_at _ _ _) h2 h3 h4 h5
  | c h1 h2 h3 => rintro σ' ⟨τ, rfl⟩; exact rv_cell τ.length h1 (mid_at _ _ _) h2 h3
  | there _ ih => rintro σ' ⟨τ, rfl⟩; exact ih (mid_ex _ _ _)
def RVz (P : Program) (Γ : Tm) (σ : List Res) : List ResultVar → List Value → Prop
  | [], [] => True
  | r :: rs, v :: vs => RVd P Γ σ r v ∧ RVz P Γ σ rs vs
  | _, _ => False
theorem RVz.rvs : ∀ {rs : List ResultVar} {vs : List Value}, RVz P Γ σ rs vs → RVs P n w0 D Γ σ rs vs
  | [], [], _ => .nil
  | _ :: _, _ :: _, h => .cons (h.1.rv ⟨[], rfl⟩) (RVz.rvs h.2)
  | [], _ :: _, h => h.elim
  | _ :: _, [], h => h.elim
theorem grt {α : Type} {rs : List ResultVar} {vsf : α → List Value} {φ : α → Prop} {ρ : α → List Res} (x : α) (h2 : φ x)
    (h1 : RVz P Γ σ rs (vsf x) := by repeat (first | exact trivial | refine And.intro (RVd.t rfl) ?_ | refine And.intro (RVd.t (look_to rfl (by simp [vi]))) ?_ | refine And.intro ?_ ?_ | exact .a rfl (ag_of rfl) (sz_of rfl) rfl rfl | exact .c rfl (ag_of rfl) rfl | apply RVd.there))
    (h3 : SubE (ρ x) σ := by refine SubK.e ?_; repeat (first | exact gk0 trivial | refine gk1 ?_ | refine gk2 ?_ | refine gk3 ?_ | exact gk4 trivial)) : ∃ x rest, RVs P n w0 D Γ σ rs (vsf x) ∧ φ x ∧ (cat (ρ x) rest).Perm σ := by
  obtain ⟨rest, h3⟩ := h3
  exact ⟨x, rest, h1.rvs, h2, h3⟩
end

/-! ### calls -/
section
variable {n : Nat} {w0 : World} {D : List Nat} {Γ : Tm} {σ : List Res} {ops : Array Oper} {o : Oper} {os : List Oper} {Q : QQ} {KQ : Tm → Prop} {K : Tm → List Res → Prop}
def caS (n : Nat) (ops : Array Oper) (Γ : Tm) (o : Oper) : Option (Nat × FuncId × List Value) := match o.op with
  | .call ⟨.value (.func f), ⟨args⟩, _⟩ => match gd Γ ops o with
    | some true => match o.dst with
      | some dd => cond (Nat.blt dd n) (cond (Nat.blt f 142) (cond (Nat.ble 3 f) (match evs Γ args with | some vs => some (dd, f, vs) | none => none) none) none) none
      | none => none
    | _ => none
  | _ => none
theorem caS_spec {dd : Nat} {f : FuncId} {vs : List Value} (h : caS n ops Γ o = some (dd, f, vs)) : ∃ args tys, o.op = .call { callee := .value (.func f), args := args, argTypes := tys } ∧ gd Γ ops o = some true ∧ o.dst = some dd ∧ Nat.blt dd n = true ∧ args.toList.map (ev Γ) = vs.map some ∧ bodied Try.prog f = true := by
  unfold caS at h
  split at h
  · rename_i f' args tys hop
    split at h
    · rename_i hg
      split at h
      · rename_i dd' hd
        cases hb : Nat.blt dd' n with
        | false => rw [hb] at h; cases h
        | true =>
          cases hc : Nat.blt f' 142 with
          | false => rw [hb, hc] at h; cases h
          | true =>
            cases hc2 : Nat.ble 3 f' with
            | false => rw [hb, hc, hc2] at h; cases h
            | true =>
              rw [hb, hc, hc2] at h
              simp only [cond_true] at h
              split at h
              · rename_i hx
                simp only [Option.some.injEq, Prod.mk.injEq] at h
                obtain ⟨rfl, rfl, rfl⟩ := h
                exact ⟨⟨args⟩, tys, hop, hg, hd, hb, evs_map hx, bod_of (by rw [hc, hc2]; rfl)⟩
              · cases h
      · cases h
    · cases h
  · cases h
/-- a call that yields one value and changes nothing -/
theorem gc1 {dd : Nat} {f : FuncId} {vs : List Value} {v : Value} (hc : ∀ w, St w0 D σ w → Calls Try.prog f vs.toArray w (one v w)) (h : caS n ops Γ o = some (dd, f, vs)) (k : WL Try.prog n w0 D ops os Q ((dd, v) :: Γ) σ) : WL Try.prog n w0 D ops (o :: os) Q Γ σ := by
  obtain ⟨args, tys, hop, hg, hd, hb, ha, hbod⟩ := caS_spec h
  exact wl_call1 hc hop ha hbod hg hd hb k
theorem gc2 {dd : Nat} {f : FuncId} {vs : List Value} {v : Value} (hc : ∀ w, St w0 D σ w → Calls Try.prog f vs.toArray w (one v w)) (h : caS n ops Γ o = some (dd, f, vs)) (k : WQ Try.prog n w0 D σ ops KQ os ((dd, v) :: Γ)) : WQ Try.prog n w0 D σ ops KQ (o :: os) Γ := by
  obtain ⟨args, tys, hop, hg, hd, hb, ha, hbod⟩ := caS_spec h
  exact wq_call hc hop ha hbod hg hd hb k
/-- a call in general: the pieces σ1 are handed in -/
theorem gc3 {α : Type} (σ1 : List Res) {dd : Nat} {f : FuncId} {vs : List Value} {vf : α → Value} {ρ : α → List Res} {φ : α → Prop} (hc : ∀ w, St w0 D σ w → St w0 D σ1 w → Calls Try.prog f vs.toArray w (Ret σ1 vf ρ φ w)) (h : caS n ops Γ o = some (dd, f, vs))
    (k : SubK σ1 σ (fun σ2 => ∀ x, φ x → WL Try.prog n w0 D ops os Q ((dd, vf x) :: Γ) (ρ x ++ σ2))) : WL Try.prog n w0 D ops (o :: os) Q Γ σ := by
  obtain ⟨args, tys, hop, hg, hd, hb, ha, hbod⟩ := caS_spec h
  obtain ⟨σ2, hp, k⟩ := k
  exact wl_callr σ1 σ2 (fun w hst => hc w hst (St.keep (hst.perm hp))) hop ha hbod hg hd hb hp k
theorem gc0 {α : Type} (σ1 : List Res) {dd : Nat} {f : FuncId} {vs : List Value} {vf : α → Value} {ρ : α → List Res} {φ : α → Prop} (hc : ∀ w, St w0 D σ w → St w0 D σ1 w → Calls Try.prog f vs.toArray w (Ret σ1 vf ρ φ w)) (h : caS n ops Γ o = some (dd, f, vs))
    (k : SubK σ1 σ (fun σ2 => ∀ x, φ x → K ((dd, vf x) :: Γ) (ρ x ++ σ2))) : OpOK Try.prog n w0 D ops o K Γ σ := by
  obtain ⟨args, tys, hop, hg, hd, hb, ha, hbod⟩ := caS_spec h
  obtain ⟨σ2, hp, k⟩ := k
  exact ok_call σ1 σ2 hop ha hbod hg hd hb hp (fun w hst => hc w hst (St.keep (hst.perm hp))) k
theorem HasR.st {r : Res} (h : HasR σ r) {w : World} (hst : St w0 D σ w) : r.ok w := by
  obtain ⟨m, hm⟩ := h.idx
  exact hst.at_ m hm
/-- a row of ours reads so -/
theorem grd {α : Type} {f : α → Value} {e : TypeId} {A : Option Addr} {c : Nat} {xs : List α} {w : World} (hst : St w0 D σ w) (h : HasR σ (osl e f A c xs) := by (repeat (first | exact .here | refine .there ?_)) <;> fail) : Rds f w A c xs := osl_reads (h.st hst)
end

/-! ### regions that draw -/
inductive Suf (σS : List Res) : List Res → Prop
  | refl : Suf σS σS
  | cons {r : Res} {σ : List Res} : Suf σS σ → Suf σS (r :: σ)
theorem Suf.ex {σS σ : List Res} (h : Suf σS σ) : ∃ τ, σ = τ ++ σS := by
  induction h with
  | refl => exact ⟨[], rfl⟩
  | cons _ ih => obtain ⟨τ, rfl⟩ := ih; exact ⟨_ :: τ, rfl⟩
theorem Suf.app (σS : List Res) : ∀ l : List Res, Suf σS (l ++ σS)
  | [] => .refl
  | _ :: l => .cons (Suf.app σS l)
theorem Suf.nil : ∀ {σ : List Res}, Suf [] σ
  | [] => .refl
  | _ :: _ => .cons Suf.nil
section
variable {n : Nat} {w0 : World} {D : List Nat} {Γ : Tm} {σ σS : List Res} {ops : Array Oper} {oi : Oper} {Q : QQ} {fuel : Nat} {listed : Array Bool}
theorem ga1 (i : Nat) (hi : ops[i]? = some oi) {p : Nat × Value} (h : stp n ops Γ oi = some p) (k : WA Try.prog n w0 D σS ops Q fuel (listed.setIfInBounds i true) (p :: Γ) σ)
    (hσ : Suf σS σ := by (repeat (first | exact Suf.refl | exact Suf.nil | exact Suf.app _ _ | apply Suf.cons)) <;> fail) (hk : takeOK ops listed i = true := by kernel_rfl) : WA Try.prog n w0 D σS ops Q (fuel + 1) listed Γ σ := by
  obtain ⟨τ, hτ⟩ := hσ.ex
  obtain ⟨hd, hb, ⟨hg, hp⟩ | ⟨hg, hp⟩⟩ := stp_spec h
  · exact wa_v i τ hi hk hτ hg hd hb (pv_ok hp) k
  · obtain ⟨dd, v⟩ := p
    dsimp only at hp hd hb
    subst hp
    simp only [takeOK, Bool.and_eq_true] at hk
    exact wa_takepass i τ hτ hi hk.1 hk.2.1 hk.2.2 hg hd hb k
theorem ga2 (i : Nat) (hi : ops[i]? = some oi) {dd : Nat} {t : TypeId} {g : Bool} {p v : Value} (h : ldS n ops Γ oi = some (dd, t, g, p)) (k : WA Try.prog n w0 D σS ops Q fuel (listed.setIfInBounds i true) ((dd, v) :: Γ) σ)
    (hv : LDv w0 D σS t g p v := by (first | exact .o (by assumption) (by omega) (by omega) | repeat (first | exact .c rfl | exact .a rfl rfl rfl | exact .r (by omega) (by omega) | exact .tab (by omega) (by omega) | apply LDv.there)) <;> fail)
    (hσ : Suf σS σ := by (repeat (first | exact Suf.refl | exact Suf.nil | exact Suf.app _ _ | apply Suf.cons)) <;> fail) (hk : takeOK ops listed i = true := by kernel_rfl) : WA Try.prog n w0 D σS ops Q (fuel + 1) listed Γ σ := by
  obtain ⟨τ, hτ⟩ := hσ.ex
  obtain ⟨x, hop, hg, hd, hb, hx, ht⟩ := ldS_spec h
  exact wa_v i τ hi hk hτ hg hd hb (hv.val hop hx ht) k
theorem ga3 (i : Nat) (hi : ops[i]? = some oi) {dd : Nat} {op : BinOp} {kk : IntKind} {a b : Int} {v : Value} (h : biS n ops Γ oi = some (dd, op, kk, a, kk, b)) (k : WA Try.prog n w0 D σS ops Q fuel (listed.setIfInBounds i true) ((dd, v) :: Γ) σ)
    (hv : BIv op kk a b v := by first | exact .add (by omega) | exact .sub (by omega) | exact .t rfl (by omega) | exact .f rfl (by omega) | exact .mul (by omega))
    (hσ : Suf σS σ := by (repeat (first | exact Suf.refl | exact Suf.nil | exact Suf.app _ _ | apply Suf.cons)) <;> fail) (hk : takeOK ops listed i = true := by kernel_rfl) : WA Try.prog n w0 D σS ops Q (fuel + 1) listed Γ σ := by
  obtain ⟨τ, hτ⟩ := hσ.ex
  obtain ⟨t, x, y, t2, hop, hg, hd, hb, hx, hy⟩ := biS_spec h
  exact wa_v i τ hi hk hτ hg hd hb (hv.val hop hx hy) k
theorem ga4 (i : Nat) (hi : ops[i]? = some oi) {dd : Nat} {A : Option Addr} {m c : Nat} {j : Int} {s : Nat} (h : ixS n ops Γ oi = some (dd, A, m, c, j, s)) (k : WA Try.prog n w0 D σS ops Q fuel (listed.setIfInBounds i true) ((dd, .pointer (some (elA A s j))) :: Γ) σ)
    (hv : IXv w0 D σS A m c j := by (first | exact .lit (by omega) (by omega) | exact .o (by assumption) (by omega) (by omega) | repeat (first | exact .r (by omega) (by omega) (by omega) | apply IXv.there)) <;> fail)
    (hσ : Suf σS σ := by (repeat (first | exact Suf.refl | exact Suf.nil | exact Suf.app _ _ | apply Suf.cons)) <;> fail) (hk : takeOK ops listed i = true := by kernel_rfl) : WA Try.prog n w0 D σS ops Q (fuel + 1) listed Γ σ := by
  obtain ⟨τ, hτ⟩ := hσ.ex
  obtain ⟨t, x, y, e, k', hop, hg, hd, hb, hx, hy, he, hs⟩ := ixS_spec h
  exact wa_v i τ hi hk hτ hg hd hb (val_of_ix hop hx hy he hs (hv.ok ⟨[], rfl⟩)) k
theorem gaOne (i : Nat) (hi : ops[i]? = some oi) (h : OpOK Try.prog n w0 D ops oi (fun Γ σ => Suf σS σ ∧ WA Try.prog n w0 D σS ops Q fuel (listed.setIfInBounds i true) Γ σ) Γ σ) (hr : Region.ready .any ops listed = [i] := by kernel_rfl) : WA Try.prog n w0 D σS ops Q (fuel + 1) listed Γ σ :=
  wa_one i hi hr ⟨fun a w hs hst Q K' hK => h.run a w hs hst Q K' fun a w Γ σ hs hst hk => hK a w Γ σ hs hst ⟨hk.1.ex, hk.2⟩⟩
theorem gaDone (h : Q .normal Γ σ) (hr : Region.ready .any ops listed = [] := by kernel_rfl) : WA Try.prog n w0 D σS ops Q fuel listed Γ σ := wa_done hr h
theorem wa_beginS {P : Program} {Q : QQ} {id : Nat} (τ σS : List Res) (hσ : σ = τ ++ σS) (hm : P.follows .mixedOrders = true) (h : WA P n w0 D σS ops Q ops.size (Array.replicate ops.size false) Γ σ) : WC P n w0 D (.region id ops true) Q Γ σ := .mk fun a w hs hst =>
  wp_region_held hm (h.run a _ hs (hst.same (Only.drew [] w)))
/-- a region that draws: the pieces τ may turn, the others are held -/
theorem gwa {id : Nat} (τ : List Res) (h : SubK τ σ (fun σS => WA Try.prog n w0 D σS ops Q ops.size (Array.replicate ops.size false) Γ (τ ++ σS))) : WC Try.prog n w0 D (.region id ops true) Q Γ σ := by
  obtain ⟨σS, hp, h⟩ := h
  exact wc_perm hp (wa_beginS τ σS rfl mixed h)
end
/-- all steps that can be made; the default argument makes them -/
structure Hold (P : Prop) : Prop where
  get : P
theorem gg {P Q : Prop} (k : P) (h : Hold P → Q := by (intro kk; (repeat (first | with_reducible refine thenQ_normal ?_ | with_reducible refine thenQ_exit ?_ | with_reducible refine thenQ_ret ?_ | with_reducible refine blkQ_normal ?_ | with_reducible refine blkQ_ret ?_ | with_reducible refine blkQ_hit ?_ | (with_reducible refine blkQ_miss ?_ ?_; · rfl) | refine wc_seq ?_ | refine wc_skip ?_ | refine wc_block ?_ | refine wc_true rfl ?_ | refine wc_false rfl ?_ | refine wc_exit ?_ | refine wc_ret ?_ | (refine wc_region ?_; repeat (first | refine gp1 (by exact rfl) ?_ | refine gl1 (by exact rfl) ?_ | refine gb1 (by exact rfl) ?_ | refine gi1 (by exact rfl) ?_ | refine gt1 (by exact rfl) ?_)) | refine wl_nil ?_ | refine wq_nil ?_ | refine gp1 (by exact rfl) ?_ | refine gl1 (by exact rfl) ?_ | refine gb1 (by exact rfl) ?_ | refine gi1 (by exact rfl) ?_ | refine gt1 (by exact rfl) ?_ | refine gp2 (by exact rfl) ?_ | refine gl2 (by exact rfl) ?_ | refine gb2 (by exact rfl) ?_ | refine gi2 (by exact rfl) ?_)); exact kk.get)) : Q := h ⟨k⟩
end Go.Proofs.Ytoiiellaoikojaa
