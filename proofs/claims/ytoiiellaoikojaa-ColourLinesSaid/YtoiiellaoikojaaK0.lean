/- Small arrays; slices with three places; many read-only pieces as one. -/
import Derived.Test.YtoiiellaoikojaaF7
import Derived.Test.YtoiiellaoikojaaF5
set_option linter.unusedVariables false
set_option linter.unusedSimpArgs false
set_option maxHeartbeats 8000000
namespace Go.Proofs.Ytoiiellaoikojaa
open Go.RowKit
theorem nth_map {α : Type} [Inhabited α] {f : α → Value} {xs : List α} {i : Int} (h0 : 0 ≤ i) (h1 : i < xs.length) : nth (xs.map f) i.toNat = some (f (gt xs i)) := by
  rw [nth_get, List.getElem?_map, List.getElem?_eq_getElem (by omega), gt_elem h0 (by omega)]
  rfl
theorem splice_map {α : Type} {f : α → Value} {xs : List α} {k : Nat} {v : α} (h : k < xs.length) : splice (xs.map f) k [f v] = (xs.set k v).map f := by
  unfold splice
  rw [← List.map_take, List.set_eq_take_append_cons_drop, if_pos h, List.map_append, List.map_cons, ← List.map_drop]
  simp
section
variable {P : Program} {n : Nat} {w0 : World} {D : List Nat} {Γ : Tm} {σ : List Res} {o : Oper}
theorem val_arr {t e : TypeId} {m : Nat} {x y : Operand} {b : Nat} {i : Int} {k : IntKind} (hop : o.op = .indexAddr t x y) (hx : ev Γ x = some (.pointer (some ⟨b, 0, none⟩))) (hy : ev Γ y = some (.int k i)) (ht : P.underlying t = some (.array m e)) (hs : size? P e = some 1)
    (h0 : 0 ≤ i) (h1 : i < m) : ValOK P w0 D σ Γ o (.pointer (some ⟨b, i.toNat, none⟩)) := by
  refine ⟨fun w hst g hg => ?_⟩
  have e : (⟨b, 0, none⟩ : Addr).add i.toNat = ⟨b, i.toNat, none⟩ := by
    unfold Addr.add
    by_cases hi : i.toNat = 0 <;> simp [hi]
  simp [execOp, hop, hg _ _ hx, hg _ _ hy, Instr.indexAt, run_underlying ht, asIntOf, h0, h1, run_sizeOf' hs, Result.andThen, e, Instr.sureAddr]
theorem run_sub3 {α : Type} {f : α → Value} {w : World} {A : Option Addr} {c : Nat} {xs : List α} {t e : TypeId} (h : Rds f w A c xs) (ht : elem? P t = some e) (hs : size? P e = some 1) {lo hi : Int} (h0 : 0 ≤ lo) (h1 : lo ≤ hi) (h2 : hi ≤ xs.length) :
    (Instr.sliceAt t (.slice A xs.length c) (some (.int .i64 lo)) (some (.int .i64 hi)) (some (.int .i64 hi))).run P w = .ok (.slice (if hi.toNat = lo.toNat then A else A.map (·.add lo.toNat)) (hi.toNat - lo.toNat) (hi.toNat - lo.toNat)) w := by
  have hu := elem?_spec ht
  have hlc := h.1
  have hc : (hi : Int) ≤ c := by omega
  have e1 : 0 ≤ hi ∧ hi ≤ (c : Int) := by omega
  have e2 : 0 ≤ lo ∧ lo ≤ (hi.toNat : Int) := by omega
  have e3 : lo ≤ max hi 0 := by omega
  have e4 : 0 ≤ hi := by omega
  have e5 : hi ≤ max hi 0 := by omega
  simp [Instr.sliceAt, Instr.slice, run_underlying hu, Instr.sliceBounds, Instr.sliceBound, asIntOf, e1, e2, e3, e4, e5, h0, run_sizeOf' hs, Result.andThen]
end
/-- a row of a pattern's places as a slice -/
def rowA (B : Option Addr) (lo hi : Int) : Option Addr := if hi.toNat = lo.toNat then B else B.map (·.add lo.toNat)
theorem row_rd {w : World} {B : Option Addr} {d : Nat} {xs : List Int} {lo hi : Int} (h : Rds vi w B d xs) (h0 : 0 ≤ lo) (h1 : lo ≤ hi) (h2 : hi ≤ xs.length) : Rds vi w (rowA B lo hi) (hi.toNat - lo.toNat) (sub xs lo hi) := by
  have hsl := sub_length xs h0 h1 h2
  refine ⟨by omega, by have := h.1; have := h.2.1; omega, fun hn => ?_⟩
  rw [hsl] at hn
  obtain ⟨ad, rfl, hc⟩ := h.2.2 (by omega)
  unfold rowA
  rw [if_neg (by omega)]
  refine ⟨_, rfl, fun j hj => ?_⟩
  rw [hsl] at hj
  have e3 : (ad.add lo.toNat).add j = ad.add (lo.toNat + j) := by
    unfold Addr.add
    by_cases hi : lo.toNat = 0 <;> by_cases hj : j = 0 <;> simp [hi, hj, Nat.add_assoc]
  rw [e3, hc (lo.toNat + j) (by omega)]
  simp [sub]
/-- a pattern reads so as long as the pieces R stand -/
def RdB (w0 : World) (D : List Nat) (R : List Res) (x : PA) (p : Pat) : Prop := ∀ w, Only D w0 w → (bun R).ok w → RdP w x p
section
variable {w0 w : World} {D : List Nat} {R σ : List Res} {x : PA} {p : Pat}
theorem RdB.now (h : RdB w0 D R x p) (hst : St w0 D σ w) (hb : HasR σ (bun R) := by (repeat (first | exact .here | refine .there ?_)) <;> fail) : RdP w x p := h w hst.only (hb.st hst)
theorem only_later {w' : World} (hst : St w0 D σ w) (ho : Only (σ.flatMap Res.fp) w w') : Only D w0 w' := by
  have h := hst.only
  refine ⟨ho.os.trans h.os, ho.tape.trans h.tape, ho.output.trans h.output, Nat.le_trans h.size ho.size, fun b hb hD => ?_⟩
  refine (ho.block b (Nat.lt_of_lt_of_le hb h.size) (fun hm => ?_)).trans (h.block b hb hD)
  obtain ⟨r, hr, hbr⟩ := List.mem_flatMap.1 hm
  rcases hst.new r hr b hbr with h1 | h1
  · exact hD h1
  · omega
theorem RdB.later (h : RdB w0 D R x p) (hst : St w0 D σ w) : RdB w (σ.flatMap Res.fp) R x p := fun w' ho hok => h w' (only_later hst ho) hok
theorem RdB.nil (h : RdPO w0 D x p) : RdB w0 D [] x p := fun w ho _ => ⟨h.s w ho, h.c w ho⟩
theorem RdB.own : RdB w0 D (PatR x p) x p := fun w ho hok => ⟨osl_reads (hok (osl TI vi x.A x.c p.start) (by simp)), osl_reads (hok (osl TI vi x.B x.d p.cols) (by simp))⟩
end
end Go.Proofs.Ytoiiellaoikojaa
