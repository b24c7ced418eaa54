/- append(s, x): rows that grow. -/
import Derived.Test.YtofngbaefbbeiaaG1
set_option linter.unusedVariables false
set_option linter.unusedSimpArgs false
set_option maxHeartbeats 4000000
namespace Go.Proofs.Ytofngbaefbbeiaa
open Go.RowKit Go.Maps
section
variable {n : Nat} {w0 : World} {D : List Nat} {Γ : Tm} {σ : List Res} {ops : Array Oper} {o : Oper} {os : List Oper} {Q : QQ} {K : Tm → List Res → Prop}
/-- '[]int{x}' -/
def bsS (n : Nat) (ops : Array Oper) (Γ : Tm) (o : Oper) : Option (Nat × Int) := match o.op with
  | .buildSlice t 1 ⟨[(0, x)]⟩ => match gd Γ ops o with
    | some true => match o.dst with
      | some dd => cond (Nat.blt dd n) (cond (Nat.beq t TIs) (match ev Γ x with | some (.int .i64 v) => some (dd, v) | _ => none) none) none
      | none => none
    | _ => none
  | _ => none
theorem bsS_spec {dd : Nat} {v : Int} (h : bsS n ops Γ o = some (dd, v)) : ∃ x, o.op = .buildSlice TIs 1 #[(0, x)] ∧ gd Γ ops o = some true ∧ o.dst = some dd ∧ Nat.blt dd n = true ∧ ev Γ x = some (vi v) := by
  unfold bsS at h
  split at h
  · rename_i t x hop
    split at h
    · rename_i hg
      split at h
      · rename_i dd' hd
        cases hb : Nat.blt dd' n with
        | false => rw [hb] at h; cases h
        | true =>
          cases hc : Nat.beq t TIs with
          | false => rw [hb, hc] at h; cases h
          | true =>
            rw [hb, hc] at h
            simp only [cond_true] at h
            have ht := Nat.eq_of_beq_eq_true hc
            subst ht
            split at h
            · rename_i hx
              simp only [Option.some.injEq, Prod.mk.injEq] at h
              obtain ⟨rfl, rfl⟩ := h
              exact ⟨x, hop, hg, hd, hb, hx⟩
            · cases h
      · cases h
    · cases h
  · cases h
theorem gbi0 {dd : Nat} {v : Int} (h : bsS n ops Γ o = some (dd, v)) (k : ∀ b, K ((dd, .slice (some ⟨b, 0, none⟩) 1 1) :: Γ) (osl TI vi (some ⟨b, 0, none⟩) 1 [v] :: σ)) : OpOK Try.prog n w0 D ops o K Γ σ := by
  obtain ⟨x, hop, hg, hd, hb, hx⟩ := bsS_spec h
  exact ok_build1 vi v hop hx hg hd hb (el_of rfl) (ze_of rfl) rfl (sz_of rfl) rfl k
theorem gbi {dd : Nat} {v : Int} (h : bsS n ops Γ o = some (dd, v)) (k : ∀ b, WL Try.prog n w0 D ops os Q ((dd, .slice (some ⟨b, 0, none⟩) 1 1) :: Γ) (osl TI vi (some ⟨b, 0, none⟩) 1 [v] :: σ)) : WL Try.prog n w0 D ops (o :: os) Q Γ σ :=
  wl_op (gbi0 h k)
inductive APv : List Res → Option Addr → Nat → List Int → List Int → (Option Addr → Nat → List Res) → Prop
  | h {σ : List Res} {A : Option Addr} {c : Nat} {xs ys : List Int} : APv (osl TI vi A c xs :: σ) A c xs ys (fun A' c' => osl TI vi A' c' (xs ++ ys) :: σ)
  | there {q : Res} {σ : List Res} {A : Option Addr} {c : Nat} {xs ys : List Int} {σ' : Option Addr → Nat → List Res} : APv σ A c xs ys σ' → APv (q :: σ) A c xs ys (fun A' c' => q :: σ' A' c')
theorem APv.idx {A : Option Addr} {c : Nat} {xs ys : List Int} {σ' : Option Addr → Nat → List Res} (h : APv σ A c xs ys σ') : ∃ i, σ[i]? = some (osl TI vi A c xs) ∧ ∀ A' c', σ.set i (osl TI vi A' c' (xs ++ ys)) = σ' A' c' := by
  induction h with
  | h => exact ⟨0, rfl, fun _ _ => rfl⟩
  | there _ ih =>
    obtain ⟨i, h1, h2⟩ := ih
    exact ⟨i + 1, by simpa using h1, fun A' c' => by simp [h2]⟩
/-- 'append(s, y...)' on ints -/
def apS (n : Nat) (ops : Array Oper) (Γ : Tm) (o : Oper) : Option (Nat × Option Addr × Nat × Nat × Option Addr × Nat × Nat) := match o.op with
  | .call ⟨.builtin .append, ⟨[x, y]⟩, ⟨[t, t']⟩⟩ => match gd Γ ops o with
    | some true => match o.dst with
      | some dd => cond (Nat.blt dd n) (cond (Nat.beq t TIs) (cond (Nat.beq t' TIs) (match ev Γ x with
        | some (.slice A a c) => match ev Γ y with | some (.slice B b d) => some (dd, A, a, c, B, b, d) | _ => none
        | _ => none) none) none) none
      | none => none
    | _ => none
  | _ => none
theorem apS_spec {dd : Nat} {A B : Option Addr} {a b c d : Nat} (h : apS n ops Γ o = some (dd, A, a, c, B, b, d)) : ∃ x y, o.op = .call { callee := .builtin .append, args := #[x, y], argTypes := #[TIs, TIs] } ∧ gd Γ ops o = some true ∧ o.dst = some dd ∧ Nat.blt dd n = true ∧ ev Γ x = some (.slice A a c) ∧ ev Γ y = some (.slice B b d) := by
  unfold apS at h
  split at h
  · rename_i x y t t' hop
    split at h
    · rename_i hg
      split at h
      · rename_i dd' hd
        cases hb : Nat.blt dd' n with
        | false => rw [hb] at h; cases h
        | true =>
          cases hc : Nat.beq t TIs with
          | false => rw [hb, hc] at h; cases h
          | true =>
            cases hc' : Nat.beq t' TIs with
            | false => rw [hb, hc, hc'] at h; cases h
            | true =>
              rw [hb, hc, hc'] at h
              simp only [cond_true] at h
              have ht := Nat.eq_of_beq_eq_true hc
              have ht' := Nat.eq_of_beq_eq_true hc'
              subst ht ht'
              split at h
              · rename_i hx
                split at h
                · rename_i hy
                  simp only [Option.some.injEq, Prod.mk.injEq] at h
                  obtain ⟨rfl, rfl, rfl, rfl, rfl, rfl, rfl⟩ := h
                  exact ⟨x, y, hop, hg, hd, hb, hx, hy⟩
                · cases h
              · cases h
      · cases h
    · cases h
  · cases h
theorem gap0 {dd : Nat} {A : Option Addr} {bd : Addr} {c d : Nat} {xs ys : List Int} {σ' : Option Addr → Nat → List Res} (h : apS n ops Γ o = some (dd, A, xs.length, c, some bd, ys.length, d)) (hl : xs.length + ys.length ≤ 17592186044416)
    (k : ∀ A' c', K ((dd, .slice A' (xs ++ ys).length c') :: Γ) (σ' A' c'))
    (hA : APv σ A c xs ys σ' := by (repeat (first | exact .h | apply APv.there)) <;> fail) (hy : HasR σ (osl TI vi (some bd) d ys) := by (repeat (first | exact .here | refine .there ?_)) <;> fail) : OpOK Try.prog n w0 D ops o K Γ σ := by
  obtain ⟨x, y, hop, hg, hd, hb, hx, hy'⟩ := apS_spec h
  obtain ⟨i, h1, h2⟩ := hA.idx
  exact ok_append i vi hop hx hy' h1 hg hd hb (el_of rfl) (ze_of rfl) rfl (sz_of rfl) (by_of rfl) ⟨_, rfl⟩ (fun w hst => osl_reads (hy.st hst)) (fun _ => rfl) (by omega) (by omega) (fun A' c' => by rw [h2]; exact k A' c')
theorem gap {dd : Nat} {A : Option Addr} {bd : Addr} {c d : Nat} {xs ys : List Int} {σ' : Option Addr → Nat → List Res} (h : apS n ops Γ o = some (dd, A, xs.length, c, some bd, ys.length, d)) (hl : xs.length + ys.length ≤ 17592186044416)
    (k : ∀ A' c', WL Try.prog n w0 D ops os Q ((dd, .slice A' (xs ++ ys).length c') :: Γ) (σ' A' c'))
    (hA : APv σ A c xs ys σ' := by (repeat (first | exact .h | apply APv.there)) <;> fail) (hy : HasR σ (osl TI vi (some bd) d ys) := by (repeat (first | exact .here | refine .there ?_)) <;> fail) : WL Try.prog n w0 D ops (o :: os) Q Γ σ :=
  wl_op (gap0 h hl k hA hy)
/-- append of one int just built -/
theorem gpush {dd d1 : Nat} {A : Option Addr} {c : Nat} {xs : List Int} {v : Int} {o2 : Oper} {σ' : Option Addr → Nat → List Res} (h1 : bsS n ops Γ o = some (d1, v)) (h : ∀ b : Nat, apS n ops ((d1, .slice (some ⟨b, 0, none⟩) 1 1) :: Γ) o2 = some (dd, A, xs.length, c, some ⟨b, 0, none⟩, 1, 1))
    (k : ∀ b A' c', WL Try.prog n w0 D ops os Q ((dd, .slice A' (xs ++ [v]).length c') :: (d1, .slice (some ⟨b, 0, none⟩) 1 1) :: Γ) (σ' A' c'))
    (hA : APv σ A c xs [v] σ' := by (repeat (first | exact .h | apply APv.there)) <;> fail) (hl : xs.length + 1 ≤ 17592186044416 := by omega) : WL Try.prog n w0 D ops (o :: o2 :: os) Q Γ σ := by
  refine gbi h1 fun b => ?_
  obtain ⟨x, y, hop, hg, hd, hb, hx, hy'⟩ := apS_spec (h b)
  obtain ⟨i, h1, h2⟩ := hA.idx
  refine wl_op (ok_append (i + 1) vi (ys := [v]) hop hx hy' (by simpa using h1) hg hd hb (el_of rfl) (ze_of rfl) rfl (sz_of rfl) (by_of rfl) ⟨_, rfl⟩ (fun w hst => osl_reads (hst.at_ 0 rfl)) (fun _ => rfl) (by simp only [List.length_singleton]; omega) (by simp only [List.length_singleton]; omega) (fun A' c' => ?_))
  rw [List.set_cons_succ, h2]
  exact ⟨fun a w hs hst => (k b A' c').run a w hs hst.drop⟩
/-- truths compared -/
theorem run_eqb {P : Program} {t : TypeId} {a b : Bool} (hu : P.underlying t = some .bool) (w : World) : (Op.equal t (.bool a) (.bool b)).run P w = .ok (a == b) w := by
  unfold Op.equal
  show (Op.equalIn (9999 + 1) t (.bool a) (.bool b)).run P w = _
  unfold Op.equalIn
  simp [run_underlying hu, Result.andThen]
theorem val_eqb {P : Program} {t t2 : TypeId} {x y : Operand} {a b : Bool} (hu : P.underlying t = some .bool) (hop : o.op = .binOp .eql t x y t2) (hx : ev Γ x = some (.bool a)) (hy : ev Γ y = some (.bool b)) : ValOK P w0 D σ Γ o (.bool (a == b)) :=
  ⟨fun w hst g hg => by simp [execOp, hop, hg _ _ hx, hg _ _ hy, eqGuard, binOp, Result.andThen, run_eqb hu w]⟩
theorem val_neb {P : Program} {t t2 : TypeId} {x y : Operand} {a b : Bool} (hu : P.underlying t = some .bool) (hop : o.op = .binOp .neq t x y t2) (hx : ev Γ x = some (.bool a)) (hy : ev Γ y = some (.bool b)) : ValOK P w0 D σ Γ o (.bool (!(a == b))) :=
  ⟨fun w hst g hg => by simp [execOp, hop, hg _ _ hx, hg _ _ hy, eqGuard, binOp, Result.andThen, run_eqb hu w]⟩
theorem uB : Try.prog.underlying TB = some .bool := by kernel_rfl
/-- a call of one value, in a region that draws -/
theorem gc10 {dd : Nat} {f : FuncId} {vs : List Value} {v : Value} (hc : ∀ w, St w0 D σ w → Calls Try.prog f vs.toArray w (one v w)) (h : caS n ops Γ o = some (dd, f, vs)) (k : K ((dd, v) :: Γ) σ) : OpOK Try.prog n w0 D ops o K Γ σ := by
  obtain ⟨args, tys, hop, hg, hd, hb, ha, hbod⟩ := caS_spec h
  exact ok_call1 hc hop ha hbod hg hd hb k
/-- a new row, empty, that needs no memory -/
theorem gnil {c : Code} {P : Program} (h : WC P n w0 D c Q Γ (osl TI vi none 0 [] :: σ)) : WC P n w0 D c Q Γ σ := .mk fun a w hs hst => h.run a w hs (pk_nil hst)
/-- 'make([]T, l, c)' of one-cell elements -/
theorem gmk {α : Type} (f : α → Value) (z : α) {t e : TypeId} {x y : Operand} {l c : Int} {bytes dd : Nat} (hop : o.op = .makeSlice t x y) (hx : ev Γ x = some (.int .i64 l)) (hy : ev Γ y = some (.int .i64 c))
    (hg : gd Γ ops o = some true) (hd : o.dst = some dd) (hdn : Nat.blt dd n = true) (ht : lookN elT t = some e) (hz : lookN zeT e = some (f z)) (hz1 : (f z).cells = #[f z]) (hs : lookN szT e = some 1) (hb : lookN byT e = some bytes)
    (h0 : 0 ≤ l) (hlc : l ≤ c) (hcb : (bytes : Int) * c ≤ 281474976710656) (hc : c ≤ 281474976710656)
    (h : ∀ b, WL Try.prog n w0 D ops os Q ((dd, .slice (some ⟨b, 0, none⟩) l.toNat c.toNat) :: Γ) (osl e f (some ⟨b, 0, none⟩) c.toNat (List.replicate l.toNat z) :: σ)) : WL Try.prog n w0 D ops (o :: os) Q Γ σ :=
  wl_op (ok_makeSlice f z hop hx hy hg hd hdn (el_of ht) (ze_of hz) hz1 (sz_of hs) (by_of hb) h0 hlc hcb hc (fun b => by rw [List.length_replicate]; exact h b))
end
end Go.Proofs.Ytofngbaefbbeiaa
