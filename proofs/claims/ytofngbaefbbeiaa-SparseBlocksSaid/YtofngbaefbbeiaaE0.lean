/- Walks: the law SparseBlocks. -/
import Derived.Test.YtofngbaefbbeiaaDR
import Derived.Test.YtofngbaefbbeiaaC3
set_option linter.unusedVariables false
set_option linter.unusedSimpArgs false
set_option maxHeartbeats 8000000
namespace Go.Proofs.Ytofngbaefbbeiaa
open Go.RowKit
/-- places of one block alone -/
noncomputable def inB (p : Pat) (b : List Int) (r k : Int) : Bool := hasB p r k && decide (gt b r = gt b k)
structure BF (p : Pat) (n m : Nat) (b c : List Int) : Prop where
  len : b.length = n
  clen : c.length = n
  mn : m ≤ n
  rng : ∀ u : Int, 0 ≤ u → u < n → 0 ≤ gt b u ∧ gt b u < m
  out : ∀ r k : Int, hasB p r k = true → gt b k ≤ gt b r
  comp : ∀ r k : Int, 0 ≤ r → r < n → 0 ≤ k → k < n → gt b r = gt b k → gt c r = gt c k
  win : ∀ r k : Int, 0 ≤ r → r < n → 0 ≤ k → k < n → gt b r = gt b k → Way (inB p b) r k
  even : Sym p → ∀ r k : Int, 0 ≤ r → r < n → 0 ≤ k → k < n → gt c r = gt c k → gt b r = gt b k
  used : ∀ j : Int, 0 ≤ j → j < m → ∃ u : Int, 0 ≤ u ∧ u < n ∧ gt b u = j
section
variable {p : Pat} {n : Nat} {x : PA} {b c : List Int}
theorem blkE_zero (he : blkE p = 0) : May p ∧ p.rows = p.width := by
  unfold blkE at he
  by_cases hm : May p
  · rw [if_neg (by simp [hm])] at he
    by_cases hsq : p.rows = p.width
    · exact ⟨hm, hsq⟩
    · rw [if_pos hsq] at he; exact absurd he (by decide)
  · rw [if_pos hm] at he; exact absurd he (by decide)
theorem BF.of (hm : May p) (hsq : p.rows = p.width) (hn : p.rows = n) (hb : NumOK p n b) (hc : c = (compS p).1) : ∃ m, BF p n m b c := by
  have hon : On n (hasB p) := by rw [← hn]; exact hasB_on hm hsq
  obtain ⟨m, hN⟩ := hb.nums
  have hi := hN.ni hon
  have hle := hN.le hon
  have h0 := hm.toHead.r0
  obtain ⟨hmq, hsq', hEv⟩ := closed_facts (p := p) (by rw [closed_ok hm hsq])
  have hcl := comp_len hm hsq
  rw [← hc] at hcl
  have hcs := comp_ok hm hsq
  have hlab : ∀ u : Int, 0 ≤ u → u < n → gt c u = lab (hasB (closedS p true).1) u := fun u u0 u1 => by
    rw [hc, hcs]
    exact compL_at u0 (by omega)
  have same : ∀ r k : Int, 0 ≤ r → r < n → 0 ≤ k → k < n → gt b r = gt b k → Same (hasB p) r k := fun r k r0 r1 k0 k1 e => hi.eq r k r0 r1 k0 k1 (hb.all r r0 r1) e
  have up : ∀ {r k : Int}, Way (hasB p) r k → Way (hasB (closedS p true).1) r k := fun h => by
    induction h with
    | refl => exact .refl _
    | step _ he ih =>
      have := hon _ _ he
      exact .step ih ((closeE_iff hm hsq).2 ⟨by omega, by omega, .inl (hasB_iff.1 he)⟩)
  have inn : ∀ {r k : Int}, Way (hasB p) r k → Way (hasB p) k r → Way (inB p b) r k := fun h => by
    induction h with
    | refl => exact fun _ => .refl _
    | @step y z h1 he ih =>
      intro hk
      have hyz := hon _ _ he
      refine .step (ih ((Way.one he).trans hk)) ?_
      unfold inB
      rw [he, Bool.true_and, decide_eq_true_iff]
      exact hi.same _ _ hyz.1 hyz.2.1 hyz.2.2.1 hyz.2.2.2 ⟨Way.one he, hk.trans h1⟩
  refine ⟨m, hb.len, by omega, hle, fun u u0 u1 => ⟨hb.all u u0 u1, (hi.rng u u0 u1).2⟩, fun r k he => ?_, fun r k r0 r1 k0 k1 e => ?_, fun r k r0 r1 k0 k1 e => ?_, fun hs r k r0 r1 k0 k1 e => ?_, hi.used⟩
  · have := hon _ _ he
    exact (hi.out r k he (hb.all r this.1 this.2.1)).2
  · rw [hlab r r0 r1, hlab k k0 k1, lab_eq hEv r0 k0]
    exact up (same r k r0 r1 k0 k1 e).1
  · have := same r k r0 r1 k0 k1 e
    exact inn this.1 this.2
  · rw [hlab r r0 r1, hlab k k0 k1, lab_eq hEv r0 k0] at e
    have hev : Ev (hasB p) := fun y z hyz => by
      rw [hasB_iff] at hyz ⊢
      exact hs.2.2 y z hyz
    have dn : ∀ {r k : Int}, Way (hasB (closedS p true).1) r k → Way (hasB p) r k := fun h => by
      induction h with
      | refl => exact .refl _
      | step _ he ih =>
        have := ((closeE_iff hm hsq).1 he).2.2
        refine .step ih ?_
        rcases this with h | h
        · exact hasB_iff.2 h
        · exact hev _ _ (hasB_iff.2 h)
    have hw := dn e
    exact hi.same r k r0 r1 k0 k1 ⟨hw, hw.symm hev⟩
end
end Go.Proofs.Ytofngbaefbbeiaa
