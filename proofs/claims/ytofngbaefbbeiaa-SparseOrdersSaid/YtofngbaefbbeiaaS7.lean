/- Tables of marks: a row of maps, each a set of columns. -/
import Derived.Test.YtofngbaefbbeiaaS6
import Derived.Maps.OwnSet
import Derived.Lib.SlKeysI
set_option linter.unusedVariables false
set_option linter.unusedSimpArgs false
set_option maxHeartbeats 1000000
namespace Go.Proofs.Ytofngbaefbbeiaa
open Go.RowKit Go.Maps

theorem nodup_le : ∀ (n : Nat) (l : List Int), l.Nodup → (∀ x ∈ l, 0 ≤ x ∧ x < (n : Int)) → l.length ≤ n
  | 0, l, _, h => by
    cases l with
    | nil => simp
    | cons a l => have := h a (by simp); omega
  | n + 1, l, hn, h => by
    have h1 := nodup_le n (l.erase n) (hn.erase _) (fun x hx => by
      have h2 := h x (List.mem_of_mem_erase hx)
      have h3 : x ≠ (n : Int) := by
        rintro rfl
        exact (List.Nodup.mem_erase_iff hn).1 hx |>.1 rfl
      omega)
    have h2 : l.length ≤ (l.erase (n : Int)).length + 1 := by
      by_cases hm : (n : Int) ∈ l
      · rw [List.length_erase_of_mem hm]; omega
      · rw [List.erase_of_not_mem hm]; omega
    omega


abbrev TI : TypeId := 3
abbrev TB : TypeId := 4
abbrev TM : TypeId := 106
theorem keyedI : Keyed Try.prog TI := int_keyed Try.underlying3
theorem underM : Try.prog.underlying TM = some (.map TI 105) := Try.underlying106

/-- block b is a map whose keys are the x with f x -/
def IsSet (w : World) (b : Nat) (f : Int → Bool) : Prop :=
  ∃ D : DataW Unit, w.ownsMap Try.prog TI unitElem b (size D) D ∧ (∀ x, has D (.int .i64 x) = f x) ∧ ∀ x, f x = true → 0 ≤ x ∧ x < 128
theorem IsSet.st {w w' : World} {b : Nat} {f : Int → Bool} (h : IsSet w b f) (hb : w'.heap[b]? = w.heap[b]?) : IsSet w' b f := by
  obtain ⟨D, ⟨es, clock, h1, h2⟩, h3⟩ := h
  exact ⟨D, ⟨es, clock, hb.trans h1, h2⟩, h3⟩
theorem IsSet.made (w : World) : IsSet (w.alloc (.map #[] 0)) w.heap.size (fun _ => false) :=
  ⟨.map [], World.ownsMap_made w Try.prog TI unitElem, fun x => rfl, fun x h => by cases h⟩
theorem IsSet.keys {w : World} {b : Nat} {f : Int → Bool} {D : DataW Unit} (h1 : w.ownsMap Try.prog TI unitElem b (size D) D) (h2 : ∀ x, has D (.int .i64 x) = f x) :
    (intKeys D).Nodup ∧ (∀ x, x ∈ intKeys D ↔ f x = true) ∧ size D = (intKeys D).length := by
  obtain ⟨es, hD, hpw, _⟩ := h1.entries keyedI
  obtain ⟨es', hD', hko⟩ := h1.keysOf
  obtain rfl : es = es' := by rw [hD] at hD'; simpa using hD'
  subst hD
  have hk : ∀ p ∈ es, ∃ x, p.1 = .int .i64 x := fun p hp => by
    obtain ⟨v, hv⟩ := hko p hp
    obtain ⟨x, _, hx, _⟩ := Maps.keyOf_i64 Try.underlying3 hv
    exact ⟨x, hx⟩
  refine ⟨?_, fun x => ?_, by simp [size, intKeys]⟩
  · refine List.pairwise_map.2 (hpw.imp_of_mem fun {p q} hp' hq' hne e => hne ?_)
    obtain ⟨a, ha⟩ := hk p hp'
    obtain ⟨c, hc⟩ := hk q hq'
    rw [ha, hc] at e ⊢
    simp only [Go.intOf] at e
    rw [e]
  · rw [← h2 x, has_eq, List.any_eq_true]
    simp only [intKeys, List.mem_map]
    constructor
    · rintro ⟨p, hp', rfl⟩
      obtain ⟨a, ha⟩ := hk p hp'
      exact ⟨p, hp', by rw [ha]; simp [Lit.sameKey, Go.intOf]⟩
    · rintro ⟨p, hp', hs⟩
      obtain ⟨a, ha⟩ := hk p hp'
      rw [ha] at hs
      exact ⟨p, hp', by rw [ha]; simpa [Lit.sameKey, Go.intOf] using hs⟩
theorem IsSet.size_le {w : World} {b : Nat} {f : Int → Bool} {D : DataW Unit} (h1 : w.ownsMap Try.prog TI unitElem b (size D) D) (h2 : ∀ x, has D (.int .i64 x) = f x) (h3 : ∀ x, f x = true → 0 ≤ x ∧ x < 128) : size D ≤ 128 := by
  obtain ⟨k1, k2, k3⟩ := IsSet.keys h1 h2
  rw [k3]
  exact nodup_le 128 _ k1 fun x hx => h3 x ((k2 x).1 hx)
theorem wf64 {x : Int} (h0 : 0 ≤ x) (h1 : x < 128) : (Lit.int .i64 x).wf = true := by
  simp only [Lit.wf, IntKind.min, IntKind.max, Bool.and_eq_true, decide_eq_true_eq]
  simp [IntKind.bits, IntKind.signed]; omega
theorem IsSet.put {w : World} {b : Nat} {f : Int → Bool} (h : IsSet w b f) {c : Int} (h0 : 0 ≤ c) (h1 : c < 128) :
    ∃ w', (Instr.mapUpdate TM (.map (some b)) (.int .i64 c) (.agg #[])).run Try.prog w = .ok () w' ∧ IsSet w' b (fun x => f x || x == c) ∧ Only [b] w w' := by
  obtain ⟨D, h2, h3, h4⟩ := h
  have hs := IsSet.size_le h2 h3 h4
  have hkey : keyOf Try.prog TI (.int .i64 c) = some (.int .i64 c) := keyOf_int_mk Try.underlying3 (wf64 h0 h1)
  obtain ⟨w', hr, hown, hg⟩ := h2.update keyedI underM (by simp [maxLen]; omega) (val := .agg #[]) hkey unitElem_mk
  have htidy := h2.tidy keyedI
  have hkl : WideAt.IsKeyLit (.int .i64 c) := by simp [WideAt.IsKeyLit]
  have hhas : ∀ x, has (D.put (.int .i64 c) (.agg [])) (.int .i64 x) = (f x || x == c) := fun x => by
    by_cases e : x = c
    · subst e; rw [has_put_same htidy.isMap hkl]; simp
    · rw [has_put_other (by simpa using e), h3]; simp [e]
  refine ⟨w', hr, ⟨D.put (.int .i64 c) (.agg []), ?_, hhas, fun x hx => ?_⟩, Only.grown hg (by simp)⟩
  · obtain ⟨es, clock, g1, g2, g3, g4⟩ := hown
    refine ⟨es, clock, g1, g2, ?_, g4⟩
    rw [g4, Maps.size_eq, length_sorted]; simp
  · simp only [Bool.or_eq_true, beq_iff_eq] at hx
    rcases hx with hx | hx
    · exact h4 x hx
    · omega

/-- a table of marks: the row of its maps lies in block R -/
def Tab (R : Nat) (ms : List Nat) (S : Int → Int → Bool) : Res where
  fp := R :: ms
  ok := fun w => w.heap[R]? = some (.cells (ms.map fun b => Value.map (some b)).toArray TM (0, 0)) ∧ ∀ r (h : r < ms.length), IsSet w ms[r] (S r)
  st := fun w w' h hw => ⟨(h R (by simp)).trans hw.1, fun r hr => (hw.2 r hr).st (h _ (List.mem_cons_of_mem _ (List.getElem_mem hr)))⟩

section
variable {n : Nat} {w0 : World} {D : List Nat} {Γ : Tm} {σ : List Res} {ops : Array Oper} {o : Oper} {K : Tm → List Res → Prop} {R : Nat} {ms : List Nat} {S : Int → Int → Bool} {i : Int} {Z : Value → Prop}
theorem ld_tab (m : Nat) (hi : σ[m]? = some (Tab R ms S)) (h0 : 0 ≤ i) (h1 : i < ms.length) (h : Z (.map (some (gt ms i)))) : LD Try.prog w0 D σ TM false (.pointer (some (elA (some ⟨R, 0, none⟩) 1 i))) Z :=
  ld_cell (ag_of rfl) (fun w hst => by
    have hb := (hst.at_ m hi).1
    have hlt : i.toNat < ms.length := by omega
    simp [elA, add_own, World.cell?, hb, gt, hlt, List.getD_eq_getElem?_getD, List.getElem?_eq_getElem hlt]) h
/-- t.rows[r][c] = mark{} -/
theorem ok_mark (m : Nat) (hi : σ[m]? = some (Tab R ms S)) {x y v : Operand} {c : Int} (hop : o.op = .mapUpdate TM x y v) (hx : ev Γ x = some (.map (some (gt ms i)))) (hy : ev Γ y = some (.int .i64 c)) (hv : ev Γ v = some (.agg #[])) (hg : gd Γ ops o = some true) (hd : o.dst = none)
    (h0 : 0 ≤ i) (h1 : i < ms.length) (hc0 : 0 ≤ c) (hc1 : c < 128) (h : K Γ (σ.set m (Tab R ms (fun a b => S a b || (a == i && b == c))))) : OpOK Try.prog n w0 D ops o K Γ σ :=
  ok_skip hg hd fun w hst f hf => by
    have hlt : i.toNat < ms.length := by omega
    have hok := hst.at_ m hi
    have hms : gt ms i = ms[i.toNat] := by simp [gt, List.getD_eq_getElem?_getD, List.getElem?_eq_getElem hlt]
    obtain ⟨w', hr, hset, ho⟩ := (hok.2 i.toNat hlt).put hc0 hc1
    have hnd : (R :: ms).Nodup := by
      have h2 := hst.nd
      have h3 : (Tab R ms S).fp.Nodup := by
        obtain ⟨hl, he⟩ := List.getElem?_eq_some_iff.1 hi
        have h4 := perm_front σ m _ hi
        have h5 := (List.Perm.nodup_iff (h4.flatMap_right Res.fp)).2 h2
        rw [List.flatMap_cons, List.nodup_append] at h5
        exact h5.1
      exact h3
    obtain ⟨hR, hnd'⟩ := List.nodup_cons.1 hnd
    have hne : R ≠ ms[i.toNat] := fun e => hR (e ▸ List.getElem_mem hlt)
    have hlR : R < w.heap.size := hst.lt _ (List.mem_of_getElem? hi) R (by simp [Tab])
    have hlm : ∀ b ∈ ms, b < w.heap.size := fun b hb => hst.lt _ (List.mem_of_getElem? hi) b (by simp [Tab, hb])
    refine ⟨w', _, ?_, hst.set_ m hi (ho.mono (by simp [Tab])) ?_ ?_ hnd, h⟩
    · simp [execOp, hop, hf _ _ hx, hf _ _ hy, hf _ _ hv, hms, hr, Result.andThen]
    · refine ⟨(ho.block R hlR (by simpa using hne)).trans hok.1, fun r hr => ?_⟩
      by_cases e : r = i.toNat
      · subst e
        have e2 : ((i.toNat : Nat) : Int) = i := by omega
        simpa only [e2, beq_self_eq_true, Bool.true_and] using hset
      · have e2 : ((r : Int) == i) = false := by simp; omega
        have := (hok.2 r hr).st (w' := w') (ho.block _ (hlm _ (List.getElem_mem hr)) (by
          simp only [List.mem_singleton]
          exact fun e3 => e ((List.getElem_inj hnd').1 e3)))
        simpa [e2] using this
    · intro b hb
      exact ⟨.inl hb, Nat.lt_of_lt_of_le (hst.lt _ (List.mem_of_getElem? hi) b hb) ho.size⟩
end
end Go.Proofs.Ytofngbaefbbeiaa
