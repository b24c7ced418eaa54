/- Rows: how arguments are opened: a pattern that comes in is a pattern that reads so. -/
import Derived.Test.YtoiiellaoikojaaRows
import Derived.Test.YtoiiellaoikojaaTD
import Derived.Test.YtoiiellaoikojaaTC
import Derived.ProofKit
import Derived.SizedLaws
import Derived.Lib.SmallJoins
set_option linter.unusedVariables false
set_option linter.unusedSimpArgs false
set_option maxHeartbeats 8000000
namespace Go.Proofs.Ytoiiellaoikojaa
open Go.ChangeShapes Go.WideShapes Go.ChangeAt Go.RowKit
theorem rds_nil0 (w : World) : Rds vi w none 0 [] := osl_reads (e := TI) (f := vi) ⟨by simp, .inl ⟨rfl, rfl⟩⟩
theorem ownK : ownKnob Try.prog.godebug = none := by kernel_rfl
theorem laidOutK : laidOutB Try.prog = true := by kernel_rfl
theorem uInt : Try.prog.underlying TI = some (.int .i64) := by kernel_rfl
theorem uBool : Try.prog.underlying TB = some .bool := by kernel_rfl
theorem uInts : Try.prog.underlying TIs = some (.slice TI) := by kernel_rfl
theorem cInt : Try.prog.cellsOf TI = 1 := by kernel_rfl
theorem bInt : Try.prog.bytesOf TI = 8 := by kernel_rfl
theorem cPat : Try.prog.cellsOf TP = 4 := by kernel_rfl
theorem uPat : ∃ f0 f1 f2 f3 : Field, Try.prog.underlying TP = some (.struct #[f0, f1, f2, f3]) ∧ f0.type = TI ∧ f1.type = TI ∧ f2.type = TIs ∧ f3.type = TIs ∧ Go.Deep.oneCellFields Try.prog #[f0, f1, f2, f3] = true := by
  have h : (match Try.prog.underlying TP with | some (.struct fs) => (match fs.toList with | [f0, f1, f2, f3] => f0.type == TI && (f1.type == TI && (f2.type == TIs && (f3.type == TIs && Go.Deep.oneCellFields Try.prog #[f0, f1, f2, f3]))) | _ => false) | _ => false) = true := by kernel_rfl
  split at h
  · rename_i fs e
    split at h
    · rename_i f0 f1 f2 f3 e2
      simp only [Bool.and_eq_true, beq_iff_eq] at h
      have e3 : fs = #[f0, f1, f2, f3] := Array.toList_inj.1 e2
      subst e3
      exact ⟨f0, f1, f2, f3, e, h.1, h.2.1, h.2.2.1, h.2.2.2.1, h.2.2.2.2⟩
    · cases h
  · cases h
section
variable {H : Type} {enc : TypeId × Value → H} {W : World} {base : Nat} {spare : Nat → Bool} {held : Bool}
theorem rds_open {n : Nat} {v : Value} {y : DataW H × List MemPlace} (h : DataW.trod enc Try.prog W base spare held n TIs [v] = some y) :
    ∃ (A : Option Addr) (c : Nat) (xs : List Int), v = .slice A xs.length c ∧ Rds vi W A c xs ∧ ((∀ k ∈ y.1.weights Try.prog TIs, k ≤ reachBytes) → xs.length ≤ 17592186043904) := by
  rcases open_ints uInts uInt cInt h with ⟨h1, h2⟩ | ⟨a, len, cap, zs, h1, h2, h3, h4, h5, h6, h7, h8⟩
  · simp only [List.cons.injEq, and_true] at h1
    subst h1
    exact ⟨none, 0, [], rfl, rds_nil0 W, fun _ => by simp⟩
  · simp only [List.cons.injEq, and_true] at h1
    subst h1
    have hz : len ≤ zs.length := by rw [h5]; split <;> omega
    have hl : (zs.take len).length = len := by rw [List.length_take]; omega
    refine ⟨some a, cap, zs.take len, by rw [hl], ⟨by rw [hl]; exact h3, by unfold maxLen at h4; omega, fun _ => ⟨a, rfl, fun j hj => ?_⟩⟩, fun hw => ?_⟩
    · rw [hl] at hj
      rw [h7 j (by omega)]
      simp [vi, List.getElem?_eq_getElem (show j < zs.length by omega)]
    · subst h6
      have hm := hw (((lits (H := H) .i64 (zs.take len)).length + (lits (H := H) .i64 (zs.drop len)).length) * 8) (by simp [DataW.weights, uInts, bInt])
      have e : (lits (H := H) .i64 (zs.take len)).length = (zs.take len).length := by simp [lits]
      rw [e] at hm
      unfold reachBytes at hm
      omega
set_option maxRecDepth 100000 in
/-- a pattern that comes in, opened -/
theorem pat_open {b0 : Nat} {v : Value} {d : DataW H} {ps : List MemPlace} (hv : Value.okWide Try.prog W .any b0 TP v) (h : DataW.Trod enc Try.prog W base spare held TP v d ps) :
    ∃ (p : Pat) (A : Option Addr) (c : Nat) (B : Option Addr) (e : Nat), v = patV p A c B e ∧ Rds vi W A c p.start ∧ Rds vi W B e p.cols ∧ ((∀ k ∈ d.weights Try.prog TP, k ≤ reachBytes) → p.start.length ≤ 17592186043904 ∧ p.cols.length ≤ 17592186043904) := by
  obtain ⟨f0, f1, f2, f3, hu, t0, t1, t2, t3, hone⟩ := uPat
  obtain ⟨v0, v1, v2, v3, y0, y1, y2, y3, n, ev, ed, ep, k0, k1, k2, k3⟩ := Joins.open_agg4 (enc := enc) hu hone cPat hv h
  clear hv h hone
  subst ev ed ep
  rw [t0] at k0
  rw [t1] at k1
  rw [t2] at k2
  rw [t3] at k3
  obtain ⟨a, e0, _, _⟩ := DataW.trod_int uInt k0
  obtain ⟨b, e1, _, _⟩ := DataW.trod_int uInt k1
  simp only [List.cons.injEq, and_true] at e0 e1
  subst e0 e1
  obtain ⟨A, c, xs, rfl, hA, lA⟩ := rds_open k2
  obtain ⟨B, e, ys, rfl, hB, lB⟩ := rds_open k3
  refine ⟨⟨a, b, xs, ys⟩, A, c, B, e, rfl, hA, hB, fun hw => ⟨lA fun k hk => hw k ?_, lB fun k hk => hw k ?_⟩⟩
  · simp only [DataW.weights, hu, List.map_cons, List.map_nil, DataW.weightsEach, t2, List.mem_append]
    exact .inr (.inr (.inl hk))
  · simp only [DataW.weights, hu, List.map_cons, List.map_nil, DataW.weightsEach, t3, List.mem_append]
    exact .inr (.inr (.inr (.inl hk)))
set_option maxRecDepth 100000 in
/-- a list of ints that comes in, opened -/
theorem ints_open {b0 : Nat} {v : Value} {d : DataW H} {ps : List MemPlace} (hv : Value.okWide Try.prog W .any b0 TIs v) (h : DataW.Trod enc Try.prog W base spare held TIs v d ps) :
    ∃ (A : Option Addr) (c : Nat) (xs : List Int), v = .slice A xs.length c ∧ Rds vi W A c xs ∧ ((∀ k ∈ d.weights Try.prog TIs, k ≤ reachBytes) → xs.length ≤ 17592186043904) := by
  obtain ⟨a0, len, cap, rfl⟩ := okWide_slice uInts hv
  obtain ⟨fuel, hf⟩ := h
  have hf' : DataW.trod enc Try.prog W base spare held fuel TIs [.slice a0 len cap] = some (d, ps) := hf
  obtain ⟨A, c, xs, e, hr, hl⟩ := rds_open hf'
  exact ⟨A, c, xs, e, hr, hl⟩
end
end Go.Proofs.Ytoiiellaoikojaa
