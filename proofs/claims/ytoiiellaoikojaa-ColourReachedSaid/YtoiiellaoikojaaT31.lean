/- Walks: lists of patterns that are built; the law SparseAlgebra. -/
import Derived.Test.YtoiiellaoikojaaT30
import Derived.Test.YtoiiellaoikojaaT24
import Derived.Test.YtoiiellaoikojaaT28
import Derived.Test.YtoiiellaoikojaaTJ
import Derived.Test.YtoiiellaoikojaaAB
set_option linter.unusedVariables false
set_option linter.unusedSimpArgs false
set_option maxHeartbeats 8000000
namespace Go.Proofs.Ytoiiellaoikojaa
open Go.RowKit
abbrev lpC (l : LP) : List Value := l.flatMap fun x => pcs x.1 x.2
theorem lpC_len : ∀ l : LP, (lpC l).length = l.length * 4
  | [] => rfl
  | x :: l => by
    have := lpC_len l
    simp only [lpC, List.flatMap_cons, List.length_append, List.length_cons] at this ⊢
    simp only [List.length_nil]
    omega
theorem lpC_get : ∀ (l : LP) (j : Nat) (h : j < l.length) (f : Nat) (v : Value), (pcs l[j].1 l[j].2)[f]? = some v → (lpC l)[j * 4 + f]? = some v
  | [], j, h, _, _, _ => by simp at h
  | x :: l, 0, _, f, v, hv => by
    have hv' : (pcs x.1 x.2)[f]? = some v := by simpa using hv
    have hf : f < (pcs x.1 x.2).length := (List.getElem?_eq_some_iff.1 hv').1
    simp only [lpC, List.flatMap_cons]
    rw [List.getElem?_append_left (by omega), show 0 * 4 + f = f by omega]
    exact hv'
  | x :: l, j + 1, h, f, v, hv => by
    have ih := lpC_get l j (by simpa using h) f v (by simpa using hv)
    simp only [lpC, List.flatMap_cons] at ih ⊢
    rw [List.getElem?_append_right (by simp only [List.length_cons, List.length_nil]; omega), show (j + 1) * 4 + f - (pcs x.1 x.2).length = j * 4 + f by simp only [List.length_cons, List.length_nil]; omega]
    exact ih
theorem rdPs_blk {w : World} {b : Nat} {l : LP} (h : (blk b (lpC l) TP).ok w) (hs : l.length ≤ 1000) (hp : ∀ x ∈ l, RdP w x.1 x.2) : RdPs w (some ⟨b, 0, none⟩) l.length l := by
  have hb : w.heap[b]? = some (.cells (lpC l).toArray TP (0, 0)) := h
  refine ⟨Nat.le_refl _, by omega, fun _ => ⟨_, rfl⟩, fun ad e j hj f v hv => ?_, hp⟩
  simp only [Option.some.injEq] at e
  subst e
  have := lpC_get l j hj f v hv
  rw [add_own]
  simp only [World.cell?, hb, Nat.zero_add]
  simpa using this
section
variable {n : Nat} {w0 : World} {D : List Nat} {Γ : Tm} {σ : List Res} {ops : Array Oper} {o : Oper} {os : List Oper} {Q : QQ}
theorem gbp (l : LP) {len dd : Nat} {parts : Array (Nat × Operand)} {ps : List (Nat × Value)} (hop : o.op = .buildSlice TPs len parts) (hp : parts.toList.map (fun p => (p.1, ev Γ p.2)) = ps.map (fun p => (p.1, some p.2))) (hg : gd Γ ops o = some true) (hd : o.dst = some dd) (hdn : Nat.blt dd n = true)
    (hlen : l.length = len) (hpos : 0 < len) (hsmall : len ≤ 1024) (hf : Instr.fill (fun i => some (i * 4, 4)) ((Array.range (len * 4)).map ((Value.agg pat0.toArray).cells[· % (Value.agg pat0.toArray).cells.size]!)) ps = some (lpC l).toArray)
    (k : ∀ b, WL Try.prog n w0 D ops os Q ((dd, .slice (some ⟨b, 0, none⟩) l.length l.length) :: Γ) (blk b (lpC l) TP :: σ)) : WL Try.prog n w0 D ops (o :: os) Q Γ σ :=
  wl_op (ok_run hg hd hdn fun w hst g hgf => by
    have key : ∀ (xs : List (Nat × Operand)) (vs : List (Nat × Value)), xs.map (fun p => (p.1, ev Γ p.2)) = vs.map (fun p => (p.1, some p.2)) → xs.map (fun p => (p.1, g p.2)) = vs := by
      intro xs
      induction xs with
      | nil => intro vs h; cases vs with | nil => rfl | cons _ _ => simp at h
      | cons x xs ih =>
        intro vs h
        cases vs with
        | nil => simp at h
        | cons v vs =>
          simp only [List.map_cons, List.cons.injEq, Prod.mk.injEq] at h ⊢
          exact ⟨Prod.ext h.1.1 (hgf _ _ h.1.2), ih vs h.2⟩
    have e1 : parts.map (fun p => (p.1, g p.2)) = ps.toArray := Array.toList_inj.1 (by rw [Array.toList_map]; exact key _ _ hp)
    have hz := ze_of (t := TP) (v := .agg pat0.toArray) rfl
    have hs := sz_of (t := TP) (k := 4) rfl
    unfold zero? at hz
    unfold size? at hs
    cases hi : Try.prog.info? TP with
    | none => rw [hi] at hz; cases hz
    | some ie =>
      rw [hi] at hz hs
      simp only [Option.bind_some, Option.map_some, Option.some.injEq] at hz hs
      have hr := run_buildSlice (P := Try.prog) w TPs TP len ps.toArray (lpC l).toArray ie (.agg pat0.toArray) (elem?_spec (el_of rfl)) hi hz (by rw [hs]; omega) (by rw [hs]; omega) (by rw [hs]; exact hf)
      refine ⟨_, w.alloc (.cells (lpC l).toArray TP), _, ?_, hst.alloc _ _, k _⟩
      simp only [execOp, hop]
      rw [e1]
      simp [hr, hlen])
/-- a comparison told by a truth -/
theorem gb0 {P : Program} {dd : Nat} {op : BinOp} {k : IntKind} {a b : Int} (z : Bool) (h : biS n ops Γ o = some (dd, op, k, a, k, b)) (hc : isCmp op = true) (hz : z = true ↔ cmpP op a b) (kk : WL P n w0 D ops os Q ((dd, .bool z) :: Γ) σ) : WL P n w0 D ops (o :: os) Q Γ σ := by
  cases z with
  | true => exact gb1 h kk (.t hc (hz.1 rfl))
  | false => exact gb1 h kk (.f hc fun e => by have := hz.2 e; cases this)
theorem grdPs {w : World} {b : Nat} {l : LP} (hst : St w0 D σ w) (hp : ∀ x ∈ l, RdP w x.1 x.2) (hs : l.length ≤ 1000) (h : HasR σ (blk b (lpC l) TP) := by (repeat (first | exact .here | refine .there ?_)) <;> fail) : RdPs w (some ⟨b, 0, none⟩) l.length l := rdPs_blk (h.st hst) hs hp
end
end Go.Proofs.Ytoiiellaoikojaa
