/- Walks: Components. -/
import Derived.Test.YtoiiellaoikojaaCA
import Derived.Test.YtoiiellaoikojaaTG
import Derived.Test.YtoiiellaoikojaaT26
import Derived.Test.YtoiiellaoikojaaTC
import Derived.Test.YtoiiellaoikojaaGA
set_option linter.unusedVariables false
set_option linter.unusedSimpArgs false
set_option maxHeartbeats 8000000
namespace Go.Proofs.Ytoiiellaoikojaa
open Go.RowKit
section
variable {p : Pat}
theorem hasB_on {q : Pat} (h : May q) (hsq : q.rows = q.width) : On q.rows (hasB q) := fun a b hh => by
  have h1 := hasB_iff.1 hh
  have h2 := h1.in_ h
  exact ⟨h1.1, h1.2.1, by omega, by omega⟩
theorem closed_facts (he : (closedS p true).2 = 0) : May (closedS p true).1 ∧ (closedS p true).1.rows = (closedS p true).1.width ∧ Ev (hasB (closedS p true).1) := by
  unfold closedS at he ⊢
  by_cases h1 : May p
  · rw [if_neg (not_not_intro h1)] at he ⊢
    by_cases h2 : p.rows = p.width
    · rw [if_neg (not_not_intro h2)] at he ⊢
      obtain ⟨a1, a2, a3, a4, _⟩ := h1.toHead
      have hw := cloB_within h1 h2 true
      refine ⟨shut_may (by omega) a3 a4 hw, by dsimp only [shutP]; omega, fun a b hab => ?_⟩
      dsimp only at hab ⊢
      rw [hasB_iff, has_shut a4 hw] at hab ⊢
      have hr := hw a.toNat (by omega) b (by rw [show ((a.toNat : Nat) : Int) = a by omega]; exact hab.2)
      refine ⟨by omega, ?_⟩
      have hab := hab.2
      unfold cloB at hab ⊢
      rw [Bool.or_comm, show (b == a) = (a == b) by rw [Bool.eq_iff_iff, beq_iff_eq, beq_iff_eq]; exact eq_comm]
      exact hab
    · rw [if_pos h2] at he
      exact absurd he (by decide)
  · rw [if_pos h1] at he
    exact absurd he (by decide)
noncomputable def compS (p : Pat) : List Int × Int := open Classical in if (closedS p true).2 = 0 then (compL (hasB (closedS p true).1) (closedS p true).1.rows.toNat, 0) else ([], (closedS p true).2)
end
section
variable {P : Program} {n : Nat} {w0 : World} {D : List Nat} {Γ : Tm} {σ : List Res} {ops : Array Oper} {o : Oper} {os : List Oper} {Q : QQ}
/-- a row of ours cut short -/
theorem wl_short {α : Type} {e : TypeId} {f : α → Value} {A : Option Addr} {c : Nat} (xs ys : List α) (h : PickK (osl e f A c (xs ++ ys)) σ (fun σ' => WL P n w0 D ops os Q Γ (osl e f A c xs :: σ'))) : WL P n w0 D ops os Q Γ σ := by
  obtain ⟨σ', hp, h⟩ := h
  refine .mk fun a w hs hst => h.run a w hs ?_
  have h1 := hst.perm hp
  have h0 : w.ownsRow 0 e 1 (.slice A (xs ++ ys).length c) (xs ++ ys).length ((xs ++ ys).map f) := h1.ok (osl e f A c (xs ++ ys)) List.mem_cons_self
  refine h1.set_ (r := osl e f A c (xs ++ ys)) (r' := osl e f A c xs) 0 rfl (Only.refl _ _) ?_ (fun b hb => ⟨.inl hb, h1.lt (osl e f A c (xs ++ ys)) (List.mem_cons_self) b hb⟩) (by have := h1.nd; rw [List.flatMap_cons, List.nodup_append] at this; exact this.1)
  refine ⟨by simp, ?_⟩
  rcases h0.2 with ⟨h2, h3⟩ | ⟨g, cap, cur, h2, h3, h4, h5, h6, h7, h8⟩
  · injection h2 with e1 e2 e3
    rw [List.length_append] at h3
    have : xs.length = 0 := by omega
    exact .inl ⟨by rw [e1, e3, this], this⟩
  · injection h2 with e1 e2 e3
    subst e1 e3
    rw [List.length_append] at h5 h8
    refine .inr ⟨g, c, cur, rfl, h3, h4, by omega, h6, h7, ?_⟩
    have := congrArg (List.take xs.length) h8
    rw [List.take_take, List.map_append, List.take_left' (by simp)] at this
    rw [← this]
    congr 1
    omega
end
structure CX where
  L : List Int
  S : List Int
  A : Option Addr
  c : Nat
  k : Int
end Go.Proofs.Ytoiiellaoikojaa
