/- Rows: how a list of patterns that comes in is opened. -/
import Derived.Test.YtofngbaefbbeiaaR0
import Derived.Test.YtofngbaefbbeiaaG4
set_option linter.unusedVariables false
set_option linter.unusedSimpArgs false
set_option maxHeartbeats 8000000
namespace Go.Proofs.Ytofngbaefbbeiaa
open Go.ChangeShapes Go.WideShapes Go.ChangeAt Go.RowKit
theorem uPats : Try.prog.underlying TPs = some (.slice TP) := by kernel_rfl
theorem bPat : Try.prog.bytesOf TP = 64 := by kernel_rfl
section
variable {H : Type} {enc : TypeId × Value → H} {W : World} {base : Nat} {spare : Nat → Bool} {held : Bool}
theorem weightsAll_mem {P : Program} {e : TypeId} : ∀ {l : List (DataW H)} {d : DataW H}, d ∈ l → ∀ k ∈ d.weights P e, k ∈ DataW.weightsAll P e l
  | x :: l, d, hd, k, hk => by
    rw [DataW.weightsAll, List.mem_append]
    rcases List.mem_cons.1 hd with rfl | hd
    · exact .inl hk
    · exact .inr (weightsAll_mem hd k hk)
theorem list4 {α : Type} {cs : List α} (h : cs.length = 4) : ∃ c0 c1 c2 c3, cs = [c0, c1, c2, c3] := by
  match cs, h with
  | [c0, c1, c2, c3], _ => exact ⟨c0, c1, c2, c3, rfl⟩
set_option maxRecDepth 100000 in
/-- four cells that read as a pattern -/
theorem rd4_open {n : Nat} {cs : List Value} {y : DataW H × List MemPlace} (h : DataW.trod enc Try.prog W base spare held n TP cs = some y) (hl : cs.length = 4) :
    ∃ z : PA × Pat, cs = pcs z.1 z.2 ∧ RdP W z.1 z.2 ∧ ((∀ k ∈ y.1.weights Try.prog TP, k ≤ reachBytes) → z.2.start.length ≤ 17592186043904 ∧ z.2.cols.length ≤ 17592186043904) := by
  obtain ⟨f0, f1, f2, f3, hu, t0, t1, t2, t3, hone⟩ := uPat
  obtain ⟨y0, y1, y2, y3, m, hx, _, h0, h1, h2, h3⟩ := Joins.trod_struct4 hu h
  obtain ⟨o0, k0⟩ := Go.Deep.hone_of hone 0 f0 rfl
  obtain ⟨o1, k1⟩ := Go.Deep.hone_of hone 1 f1 rfl
  obtain ⟨o2, k2⟩ := Go.Deep.hone_of hone 2 f2 rfl
  obtain ⟨o3, k3⟩ := Go.Deep.hone_of hone 3 f3 rfl
  clear h hone
  obtain ⟨c0, c1, c2, c3, rfl⟩ := list4 hl
  rw [o0, k0, t0] at h0
  rw [o1, k1, t1] at h1
  rw [o2, k2, t2] at h2
  rw [o3, k3, t3] at h3
  obtain ⟨a, e0, _, _⟩ := DataW.trod_int uInt (show DataW.trod enc Try.prog W base spare held m TI [c0] = some y0 from h0)
  obtain ⟨b, e1, _, _⟩ := DataW.trod_int uInt (show DataW.trod enc Try.prog W base spare held m TI [c1] = some y1 from h1)
  simp only [List.cons.injEq, and_true] at e0 e1
  subst e0 e1
  obtain ⟨A, c, xs, rfl, hA, lA⟩ := rds_open (show DataW.trod enc Try.prog W base spare held m TIs [c2] = some y2 from h2)
  obtain ⟨B, e, ys, rfl, hB, lB⟩ := rds_open (show DataW.trod enc Try.prog W base spare held m TIs [c3] = some y3 from h3)
  subst hx
  refine ⟨(⟨A, c, B, e⟩, ⟨a, b, xs, ys⟩), rfl, ⟨hA, hB⟩, fun hw => ⟨lA fun k hk => hw k ?_, lB fun k hk => hw k ?_⟩⟩
  · simp only [DataW.weights, hu, List.map_cons, List.map_nil, DataW.weightsEach, t2, List.mem_append]
    exact .inr (.inr (.inl hk))
  · simp only [DataW.weights, hu, List.map_cons, List.map_nil, DataW.weightsEach, t3, List.mem_append]
    exact .inr (.inr (.inr (.inl hk)))
theorem rdPs_nil (w : World) : RdPs w none 0 [] := ⟨by simp, by omega, fun h => absurd h (by simp), fun ad e => by simp at e, fun x hx => by simp at hx⟩
set_option maxRecDepth 100000 in
theorem pats_open {b0 : Nat} {v : Value} {d : DataW H} {ps : List MemPlace} (hv : Value.okWide Try.prog W .any b0 TPs v) (h : DataW.Trod enc Try.prog W base spare held TPs v d ps) :
    ∃ (A : Option Addr) (c : Nat) (l : LP), v = .slice A l.length c ∧ RdPs W A c l ∧ ((∀ k ∈ d.weights Try.prog TPs, k ≤ reachBytes) → l.length ≤ 2199023255488 ∧ ∀ x ∈ l, x.2.start.length ≤ 17592186043904 ∧ x.2.cols.length ≤ 17592186043904) := by
  obtain ⟨a0, len0, cap0, rfl⟩ := okWide_slice uPats hv
  obtain ⟨fuel, hf⟩ := h
  have hf' : DataW.trod enc Try.prog W base spare held fuel TPs [.slice a0 len0 cap0] = some (d, ps) := hf
  rcases DataW.trod_slice uPats hf' with ⟨h1, h2⟩ | ⟨a, len, cap, elems, rest, n, _, h1, h2, hb, hl, hm, hlen, hel, hsp, hns⟩
  · simp only [List.cons.injEq, and_true] at h1
    rw [h1]
    exact ⟨none, 0, [], rfl, rdPs_nil W, fun _ => by simp⟩
  · simp only [List.cons.injEq, and_true, Value.slice.injEq] at h1
    obtain ⟨rfl, rfl, rfl⟩ := h1
    simp only [Prod.mk.injEq] at h2
    have each : ∀ i, i < len0 → ∃ z : PA × Pat, (∀ j u, (pcs z.1 z.2)[j]? = some u → W.cell? (a.add (i * 4 + j)) = some u) ∧ RdP W z.1 z.2 ∧ ((∀ k ∈ d.weights Try.prog TPs, k ≤ reachBytes) → z.2.start.length ≤ 17592186043904 ∧ z.2.cols.length ≤ 17592186043904) := by
      intro i hi
      have h := hel i hi
      have hlt : i < elems.length := by omega
      rw [List.getElem?_eq_getElem hlt, cPat, Option.bind_eq_some_iff] at h
      obtain ⟨cs, hcs, hy⟩ := h
      obtain ⟨_, hc4, hcell⟩ := World.cells?_some hcs
      obtain ⟨z, rfl, hz, hw⟩ := rd4_open hy hc4
      refine ⟨z, fun j u hu => ?_, hz, fun hk => hw fun k hk' => hk k ?_⟩
      · have hj : j < 4 := (List.getElem?_eq_some_iff.1 hu).1
        have := hcell j hj
        rw [add_add] at this
        rw [this, hu]
      · rw [h2.1]
        simp only [DataW.weights, uPats, List.mem_cons, List.mem_append]
        exact .inr (.inl (weightsAll_mem (List.mem_map.2 ⟨elems[i], List.getElem_mem hlt, rfl⟩) k hk'))
    have : ∃ f : Nat → PA × Pat, ∀ i, i < len0 → (∀ j u, (pcs (f i).1 (f i).2)[j]? = some u → W.cell? (a.add (i * 4 + j)) = some u) ∧ RdP W (f i).1 (f i).2 ∧ ((∀ k ∈ d.weights Try.prog TPs, k ≤ reachBytes) → (f i).2.start.length ≤ 17592186043904 ∧ (f i).2.cols.length ≤ 17592186043904) :=
      ⟨fun i => if h : i < len0 then (each i h).choose else (PA.nil, zP), fun i h => by simp only [dif_pos h]; exact (each i h).choose_spec⟩
    obtain ⟨f, hf⟩ := this
    have hll : ((List.range len0).map f).length = len0 := by simp
    have hmem : ∀ x ∈ (List.range len0).map f, ∃ i, i < len0 ∧ x = f i := fun x hx => by
      obtain ⟨i, hi, rfl⟩ := List.mem_map.1 hx
      exact ⟨i, List.mem_range.1 hi, rfl⟩
    refine ⟨some a, cap0, (List.range len0).map f, by rw [hll], ⟨by rw [hll]; exact hl, by simpa [maxLen] using hm, fun _ => ⟨a, rfl⟩, fun ad e j hj g v hv => ?_, fun x hx => ?_⟩, fun hk => ⟨?_, fun x hx => ?_⟩⟩
    · simp only [Option.some.injEq] at e
      subst e
      rw [hll] at hj
      have e2 : ((List.range len0).map f)[j]'(by rw [hll]; exact hj) = f j := by simp
      rw [e2] at hv
      exact (hf j hj).1 g v hv
    · obtain ⟨i, hi, rfl⟩ := hmem x hx
      exact (hf i hi).2.1
    · rw [hll]
      have hm := hk ((elems.length + rest.length) * 64) (by rw [h2.1]; simp [DataW.weights, uPats, bPat])
      unfold reachBytes at hm
      omega
    · obtain ⟨i, hi, rfl⟩ := hmem x hx
      exact (hf i hi).2.2 hk
end
end Go.Proofs.Ytofngbaefbbeiaa
