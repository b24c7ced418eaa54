/- A loop over a set of columns, from which some are struck: range, next, entry, delete. -/
import Derived.Test.YtofngbaefbbeiaaG3
import Derived.Maps.RangeWalk
import Derived.Maps.Views
set_option linter.unusedVariables false
set_option linter.unusedSimpArgs false
set_option maxHeartbeats 4000000
namespace Go.Proofs.Ytofngbaefbbeiaa
open Go.RowKit Go.Maps Go.MapKept Go.ChangeMaps
/-- the iterator r over map b stands at an entry: x -/
def Cur (w : World) (b r : Nat) (x : Int) : Prop := ∃ (es : Array MapEntry) (clock since : Nat) (seen : Array Nat) (c0 stamp : Nat) (e : MapEntry),
  w.heap[r]? = some (.mapIter (some b) since seen c0) ∧ w.heap[b]? = some (.map es clock) ∧ seen.back? = some stamp ∧ clock = c0 ∧ es.find? (·.born == stamp) = some e ∧ e.key = .int .i64 x ∧ e.val = .agg #[]
theorem run_getObj_it {P : Program} {w : World} {r since c0 : Nat} {m : Option Nat} {seen : Array Nat} (h : w.heap[r]? = some (.mapIter m since seen c0)) : (getObj r).run P w = .ok (.mapIter m since seen c0) w := by
  simp [getObj, Sem.run, h]
theorem Cur.run {P : Program} {w : World} {b r : Nat} {x : Int} (h : Cur w b r x) : (Instr.entry (.pointer (some ⟨r, 0, none⟩))).run P w = .ok (.tuple #[.int .i64 x, .agg #[]]) w := by
  obtain ⟨es, clock, since, seen, c0, stamp, e, h1, h2, h3, h4, h5, h6, h7⟩ := h
  simp [Instr.entry, run_getObj_it h1, MapKept.run_getObj_map h2, h3, h4, h5, h6, h7, Result.andThen]
theorem Cur.of {P : Program} {w : World} {b r : Nat} {x : Int} {es : Array MapEntry} {clock since : Nat} {seen : Array Nat} {c0 : Nat} (h1 : w.heap[r]? = some (.mapIter (some b) since seen c0)) (h2 : w.heap[b]? = some (.map es clock))
    (h : (Instr.entry (.pointer (some ⟨r, 0, none⟩))).run P w = .ok (.tuple #[.int .i64 x, .agg #[]]) w) : Cur w b r x := by
  cases h3 : seen.back? with
  | none => simp [Instr.entry, run_getObj_it h1, h3, Result.andThen, stuck] at h
  | some stamp =>
    by_cases h4 : clock = c0
    · cases h5 : es.find? (·.born == stamp) with
      | none => simp [Instr.entry, run_getObj_it h1, MapKept.run_getObj_map h2, h3, h4, h5, Result.andThen, unsupported] at h
      | some e =>
        simp [Instr.entry, run_getObj_it h1, MapKept.run_getObj_map h2, h3, h4, h5, Result.andThen] at h
        exact ⟨es, clock, since, seen, c0, stamp, e, h1, h2, h3, h4, h5, h.1, h.2⟩
    · simp [Instr.entry, run_getObj_it h1, MapKept.run_getObj_map h2, h3, h4, Result.andThen, unsupported] at h
theorem Cur.st {w w' : World} {b r : Nat} {x : Int} (h : Cur w b r x) (hb : w'.heap[b]? = w.heap[b]?) (hr : w'.heap[r]? = w.heap[r]?) : Cur w' b r x := by
  obtain ⟨es, clock, since, seen, c0, stamp, e, h1, h2, h3⟩ := h
  exact ⟨es, clock, since, seen, c0, stamp, e, hr.trans h1, hb.trans h2, h3⟩
theorem ranges_st {w w' : World} {b r n : Nat} {D : DataW Unit} {left : Lit → Bool} {cnt : Nat} (h : w.ranges Try.prog TI unitElem b r n D left cnt) (hb : w'.heap[b]? = w.heap[b]?) (hr : w'.heap[r]? = w.heap[r]?) : w'.ranges Try.prog TI unitElem b r n D left cnt := by
  obtain ⟨es, clock, since, seen, c0, h1, F, h3, h4, h5, h6⟩ := h
  exact ⟨es, clock, since, seen, c0, hb.trans h1, F, h3, h4, hr.trans h5, h6⟩
/-- the set g in block b, gone through by r: what is left to come, at which entry it stands -/
def RangeR (b r : Nat) (g lf : Int → Bool) (cnt : Nat) (cur : Option Int) : Res where
  fp := [b, r]
  ok := fun w => (∃ (n : Nat) (D : DataW Unit) (left : Lit → Bool), w.ranges Try.prog TI unitElem b r n D left cnt ∧ n ≤ 128 ∧ (∀ x, has D (.int .i64 x) = g x) ∧ (∀ x, g x = true → 0 ≤ x ∧ x < 128) ∧ ∀ x, left (.int .i64 x) = lf x) ∧ ∀ x, cur = some x → Cur w b r x
  st := fun w w' h hw => by
    obtain ⟨⟨n, D, left, h1, h2⟩, h3⟩ := hw
    exact ⟨⟨n, D, left, ranges_st h1 (h b (by simp)) (h r (by simp)), h2⟩, fun x hx => (h3 x hx).st (h b (by simp)) (h r (by simp))⟩
theorem lit_int_key {w : World} {key : Value} {kl : Lit} (h : keyOf Try.prog TI key = some kl) : ∃ x : Int, key = .int .i64 x ∧ kl = .int .i64 x := by
  obtain ⟨x, h1, h2, _⟩ := Maps.keyOf_i64 Try.underlying3 h
  exact ⟨x, h1, h2⟩
section
variable {n : Nat} {w0 : World} {D : List Nat} {Γ : Tm} {σ : List Res} {ops : Array Oper} {o : Oper} {os : List Oper} {Q : QQ} {K : Tm → List Res → Prop} {b r : Nat} {f g lf : Int → Bool} {cnt : Nat} {cur : Option Int}
theorem grange {t x : _} {dd : Nat} (hop : o.op = .range TM x) (hx : ev Γ x = some (.map (some b))) (hg : gd Γ ops o = some true) (hd : o.dst = some dd) (hdn : Nat.blt dd n = true) (ht : t = TM)
    (k : ∀ r cnt, K ((dd, .pointer (some ⟨r, 0, none⟩)) :: Γ) (RangeR b r f f cnt none :: σ)) : OpOK Try.prog n w0 D ops o K Γ (SetR b f :: σ) :=
  ok_run hg hd hdn fun w hst h hf => by
    have hset : IsSet w b f := hst.at_ 0 (r := SetR b f) rfl
    obtain ⟨D0, h1, h2, h3⟩ := hset
    have hs := IsSet.size_le h1 h2 h3
    obtain ⟨w', hrun, r1, r2, r3⟩ := h1.range keyedI underM
    have hlt := h1.lt
    refine ⟨.pointer (some ⟨w.heap.size, 0, none⟩), w', _, by simp [execOp, hop, hf _ _ hx, hrun, Result.andThen], St.turn (σ1 := [SetR b f]) (σ2 := [RangeR b w.heap.size f f (size D0) none]) (σ := σ) hst ?_ ?_ ?_ ?_, k _ _⟩
    · exact Only.grown r2 (by simp)
    · intro q hq
      simp only [List.mem_singleton] at hq
      subst hq
      exact ⟨⟨_, D0, _, r1, hs, h2, h3, h2⟩, by simp⟩
    · intro c hc
      simp [RangeR] at hc
      rcases hc with rfl | rfl
      · exact ⟨.inl (by simp [SetR]), by omega⟩
      · exact ⟨.inr (Nat.le_refl _), by omega⟩
    · simp [RangeR]; omega
theorem gnext {x : Operand} {dd : Nat} (hop : o.op = .next x false) (hx : ev Γ x = some (.pointer (some ⟨r, 0, none⟩))) (hg : gd Γ ops o = some true) (hd : o.dst = some dd) (hdn : Nat.blt dd n = true)
    (hDone : (∀ y, lf y = false) → K ((dd, .tuple #[.bool false]) :: Γ) (RangeR b r g lf cnt none :: σ))
    (hMore : ∀ y cnt', lf y = true → cnt' < cnt → K ((dd, .tuple #[.bool true, .int .i64 y, .agg #[]]) :: Γ) (RangeR b r g (fun z => lf z && !(z == y)) cnt' (some y) :: σ)) : OpOK Try.prog n w0 D ops o K Γ (RangeR b r g lf cnt none :: σ) :=
  ok_run hg hd hdn fun w hst h hf => by
    obtain ⟨⟨m, D0, left, h1, h2, h3, h4, h5⟩, _⟩ := hst.at_ 0 (r := RangeR b r g lf cnt none) rfl
    have hlr := h1.lt
    have hlb := h1.owns.lt
    rcases h1.next keyedI o.type with ⟨e0, hl, hrun⟩ | ⟨key, v, kl, y, w', cnt', hkey, hlk, hv, hat, hrun, hrg, hlt, hgr, hsz, hen⟩
    · exact ⟨_, w, _, by simp [execOp, hop, hf _ _ hx, hrun, Result.andThen], hst, hDone fun y => by rw [← h5, hl]⟩
    · obtain ⟨c, rfl, rfl⟩ := lit_int_key (w := w) hkey
      obtain ⟨rfl, _⟩ := unitElem_inv hv
      refine ⟨_, w', _, by simp [execOp, hop, hf _ _ hx, hrun, Result.andThen], hst.set_ 0 (r := RangeR b r g lf cnt none) (r' := RangeR b r g (fun z => lf z && !(z == c)) cnt' (some c)) rfl (Only.grown hgr (by simp [RangeR])) ⟨⟨m, D0, _, hrg, h2, h3, h4, fun z => ?_⟩, fun x hx => ?_⟩ (fun d hd => ⟨.inl hd, ?_⟩) ?_, hMore c cnt' (by rw [← h5]; exact hlk) hlt⟩
      · rw [h5]
        simp [Lit.sameKey]
        rfl
      · simp only [Option.some.injEq] at hx
        subst hx
        have hrg' := hrg
        obtain ⟨es, clock, since, seen, c0, g1, _, _, _, g5, _⟩ := hrg'
        exact Cur.of g5 g1 hen
      · simp [RangeR] at hd
        rcases hd with rfl | rfl <;> omega
      · simp only [RangeR, List.nodup_cons, List.mem_singleton, List.not_mem_nil, not_false_eq_true, List.nodup_nil, and_true]
        exact fun e => h1.ne e.symm
theorem gentry {x : Operand} {dd : Nat} {y : Int} (hop : o.op = .entry x) (hx : ev Γ x = some (.pointer (some ⟨r, 0, none⟩))) (hg : gd Γ ops o = some true) (hd : o.dst = some dd) (hdn : Nat.blt dd n = true)
    (k : K ((dd, .tuple #[.int .i64 y, .agg #[]]) :: Γ) (RangeR b r g lf cnt (some y) :: σ)) : OpOK Try.prog n w0 D ops o K Γ (RangeR b r g lf cnt (some y) :: σ) :=
  ok_run hg hd hdn fun w hst h hf => by
    obtain ⟨_, hc⟩ := hst.at_ 0 (r := RangeR b r g lf cnt (some y)) rfl
    exact ⟨_, w, _, by simp [execOp, hop, hf _ _ hx, (hc y rfl).run, Result.andThen], hst, k⟩
theorem gdelete {x z : Operand} {y : Int} (hop : o.op = .call { callee := .builtin .delete, args := #[x, z], argTypes := #[TM, TI] }) (hx : ev Γ x = some (.map (some b))) (hz : ev Γ z = some (.int .i64 y)) (hg : gd Γ ops o = some true) (hd : o.dst = none) (h0 : 0 ≤ y) (h1 : y < 128)
    (k : ∀ cnt', cnt' ≤ cnt → K Γ (RangeR b r (fun u => g u && !(u == y)) (fun u => lf u && !(u == y)) cnt' none :: σ)) : OpOK Try.prog n w0 D ops o K Γ (RangeR b r g lf cnt cur :: σ) := by
  refine ⟨fun a w hs hst Qx K' hK => ?_⟩
  rw [if_pos (gd_spec hs hg)]
  unfold Oper.wp
  obtain ⟨⟨m, D0, left, g1, g2, g3, g4, g5⟩, _⟩ := hst.at_ 0 (r := RangeR b r g lf cnt cur) rfl
  have hlr := g1.lt
  have hlb := g1.owns.lt
  have hkey : keyOf Try.prog TI (.int .i64 y) = some (.int .i64 y) := keyOf_int_mk Try.underlying3 (wf64 h0 h1)
  obtain ⟨w', cnt', hrun, r1, r2, r3⟩ := g1.drop keyedI underM hkey o.type
  have hkl : WideAt.IsKeyLit (.int .i64 y) := by simp [WideAt.IsKeyLit]
  have ht := g1.owns.tidy keyedI
  have hst' : St w0 D (RangeR b r (fun u => g u && !(u == y)) (fun u => lf u && !(u == y)) cnt' none :: σ) w' := by
    refine hst.set_ 0 (r := RangeR b r g lf cnt cur) (r' := RangeR b r (fun u => g u && !(u == y)) (fun u => lf u && !(u == y)) cnt' none) rfl (Only.grown r3.grown (by simp [RangeR])) ⟨⟨m, _, _, r1, g2, fun u => ?_, fun u hu => g4 u ?_, fun u => ?_⟩, by simp⟩ (fun d hd => ⟨.inl hd, ?_⟩) ?_
    · by_cases e : u = y
      · subst e
        rw [has_del_same]
        simp
      · rw [has_del_other (by simpa using e), g3]
        simp [e]
    · simp only [Bool.and_eq_true] at hu
      exact hu.1
    · rw [g5]
      simp [Lit.sameKey]
      rfl
    · simp [RangeR] at hd
      have := r3.grown.size
      rcases hd with rfl | rfl <;> omega
    · simp only [RangeR, List.nodup_cons, List.mem_singleton, List.not_mem_nil, not_false_eq_true, List.nodup_nil, and_true]
      exact fun e => g1.ne e.symm
  have hr2 : (execOp a.eval o).run Try.prog w = .ok (.value (.tuple #[])) w' := by
    simp [execOp, hop, resolve, invoke, builtin, hs.eval hx, hs.eval hz, hrun, Result.andThen]
  rw [hr2]
  simp only [Oper.upon, hd]
  exact hK _ _ _ _ hs hst' (k cnt' r2)
/-- the loop is over: the set by itself -/
theorem St.rangeEnd {w : World} (h : St w0 D (RangeR b r g lf cnt cur :: σ) w) : St w0 D (SetR b g :: σ) w := by
  obtain ⟨⟨m, D0, left, g1, g2, g3, g4, g5⟩, _⟩ := h.at_ 0 (r := RangeR b r g lf cnt cur) rfl
  have ho := g1.owns
  refine h.set_ 0 (r := RangeR b r g lf cnt cur) (r' := SetR b g) rfl (Only.refl _ _) ⟨D0, ?_, g3, g4⟩ (fun d hd => ?_) (by simp [SetR])
  · obtain ⟨es, clock, q1, q2, q3, q4⟩ := ho
    exact ⟨es, clock, q1, q2, by rw [q4, Maps.size_eq, length_sorted]; simp, q4⟩
  · simp [SetR] at hd
    subst hd
    exact ⟨.inl (by simp [RangeR]), h.lt (RangeR d r g lf cnt cur) (by simp) d (by simp [RangeR])⟩
theorem wc_rangeEnd {c : Code} (h : WC Try.prog n w0 D c Q Γ (SetR b g :: σ)) : WC Try.prog n w0 D c Q Γ (RangeR b r g lf cnt cur :: σ) := .mk fun a w hs hst => h.run a w hs hst.rangeEnd
theorem wl_rangeEnd (h : WL Try.prog n w0 D ops os Q Γ (SetR b g :: σ)) : WL Try.prog n w0 D ops os Q Γ (RangeR b r g lf cnt cur :: σ) := .mk fun a w hs hst => h.run a w hs hst.rangeEnd
theorem wl_noCur (h : WL Try.prog n w0 D ops os Q Γ (RangeR b r g lf cnt none :: σ)) : WL Try.prog n w0 D ops os Q Γ (RangeR b r g lf cnt cur :: σ) := .mk fun a w hs hst => h.run a w hs (hst.conv 0 (r := RangeR b r g lf cnt cur) (r' := RangeR b r g lf cnt none) rfl rfl (fun w hw => ⟨hw.1, by simp⟩))
theorem wl_keep {P : Program} (M : List Res) (h : SubE M σ) (k : WL P n w0 D ops os Q Γ M) : WL P n w0 D ops os Q Γ σ := .mk fun a w hs hst => by
  obtain ⟨rest, hp⟩ := h
  exact k.run a w hs (hst.perm hp).keep
end
/-! ### a table without one of its maps -/
def TabX (R : Nat) (ms : List Nat) (S : Int → Int → Bool) (i : Nat) : Res where
  fp := R :: ms.eraseIdx i
  ok := fun w => i < ms.length ∧ w.heap[R]? = some (.cells (ms.map fun b => Value.map (some b)).toArray TM (0, 0)) ∧ ∀ r (h : r < ms.length), r ≠ i → IsSet w ms[r] (S r)
  st := fun w w' h hw => ⟨hw.1, (h R (by simp)).trans hw.2.1, fun r hr hne => (hw.2.2 r hr hne).st (h _ (List.mem_cons_of_mem _ (List.mem_eraseIdx_iff_getElem.2 ⟨r, hr, hne, rfl⟩)))⟩
theorem perm_erase {α : Type _} : ∀ (l : List α) (i : Nat) (h : i < l.length), (l[i] :: l.eraseIdx i).Perm l
  | a :: l, 0, _ => List.Perm.refl _
  | a :: l, i + 1, h => by
    have h' : i < l.length := by simpa using h
    have ih := perm_erase l i h'
    simp only [List.getElem_cons_succ, List.eraseIdx_cons_succ]
    exact (List.Perm.swap a l[i] _).trans (List.Perm.cons a ih)
section
variable {n : Nat} {w0 : World} {D : List Nat} {Γ : Tm} {σ : List Res} {Q : QQ} {R : Nat} {ms : List Nat} {S : Int → Int → Bool} {f : Int → Bool}
theorem St.hole {w : World} {i : Nat} (hi : i < ms.length) (h : St w0 D (Tab R ms S :: σ) w) : St w0 D (SetR (gt ms (i : Int)) (S i) :: TabX R ms S i :: σ) w := by
  have e : gt ms (i : Int) = ms[i] := by simp [gt, List.getElem?_eq_getElem hi]
  have h0 : (Tab R ms S).ok w := h.ok _ (by simp)
  have hp := perm_erase ms i hi
  have hfp : ∀ b, b = ms[i] ∨ b ∈ ms.eraseIdx i → b ∈ ms := fun b hb => hp.mem_iff.1 (List.mem_cons.2 hb)
  rw [e]
  refine ⟨h.only, ?_, ?_, ?_, ?_⟩
  · intro r hr
    simp only [List.mem_cons] at hr
    rcases hr with rfl | rfl | hr
    · exact h0.2 i hi
    · exact ⟨hi, h0.1, fun r hr _ => h0.2 r hr⟩
    · exact h.ok r (by simp [hr])
  · intro r hr b hb
    simp only [List.mem_cons] at hr
    rcases hr with rfl | rfl | hr
    · simp only [SetR, List.mem_singleton] at hb
      exact h.lt (Tab R ms S) (by simp) b (List.mem_cons_of_mem _ (hfp b (.inl hb)))
    · simp only [TabX, List.mem_cons] at hb
      rcases hb with rfl | hb
      · exact h.lt (Tab b ms S) (by simp) b (by simp [Tab])
      · exact h.lt (Tab R ms S) (by simp) b (List.mem_cons_of_mem _ (hfp b (.inr hb)))
    · exact h.lt r (by simp [hr]) b hb
  · intro r hr b hb
    simp only [List.mem_cons] at hr
    rcases hr with rfl | rfl | hr
    · simp only [SetR, List.mem_singleton] at hb
      exact h.new (Tab R ms S) (by simp) b (List.mem_cons_of_mem _ (hfp b (.inl hb)))
    · simp only [TabX, List.mem_cons] at hb
      rcases hb with rfl | hb
      · exact h.new (Tab b ms S) (by simp) b (by simp [Tab])
      · exact h.new (Tab R ms S) (by simp) b (List.mem_cons_of_mem _ (hfp b (.inr hb)))
    · exact h.new r (by simp [hr]) b hb
  · have hnd : ((R :: ms) ++ σ.flatMap Res.fp).Nodup := h.nd
    have hp2 : ([ms[i]] ++ ((R :: ms.eraseIdx i) ++ σ.flatMap Res.fp)).Perm ((R :: ms) ++ σ.flatMap Res.fp) := by
      rw [← List.append_assoc]
      refine List.Perm.append_right _ ?_
      exact (List.Perm.swap R ms[i] _).trans (List.Perm.cons R hp)
    exact (List.Perm.nodup_iff hp2).2 hnd
theorem St.fillHole {w : World} {i : Nat} (h : St w0 D (SetR (gt ms (i : Int)) f :: TabX R ms S i :: σ) w) : St w0 D (Tab R ms (fun a b => if a = i then f b else S a b) :: σ) w := by
  obtain ⟨hi, h1, h2⟩ := h.ok (TabX R ms S i) (by simp)
  have hs : IsSet w (gt ms (i : Int)) f := h.ok (SetR (gt ms (i : Int)) f) (by simp)
  have e : gt ms (i : Int) = ms[i] := by simp [gt, List.getElem?_eq_getElem hi]
  have hp := perm_erase ms i hi
  have hm : ∀ b, b ∈ ms → b = ms[i] ∨ b ∈ ms.eraseIdx i := fun b hb => List.mem_cons.1 (hp.mem_iff.2 hb)
  rw [e] at hs
  refine ⟨h.only, ?_, ?_, ?_, ?_⟩
  · intro r hr
    rcases List.mem_cons.1 hr with rfl | hr
    · refine ⟨h1, fun r hr => ?_⟩
      by_cases er : r = i
      · subst er
        simpa using hs
      · have := h2 r hr er
        have er' : ¬ (r : Int) = (i : Int) := by omega
        simpa only [er', if_false] using this
    · exact h.ok r (by simp [hr])
  · intro r hr b hb
    rcases List.mem_cons.1 hr with rfl | hr
    · simp only [Tab, List.mem_cons] at hb
      rcases hb with rfl | hb
      · exact h.lt (TabX b ms S i) (by simp) b (by simp [TabX])
      · rcases hm b hb with rfl | hb
        · exact h.lt (SetR (gt ms (i : Int)) f) (by simp) _ (by simp [SetR, e])
        · exact h.lt (TabX R ms S i) (by simp) b (List.mem_cons_of_mem _ hb)
    · exact h.lt r (by simp [hr]) b hb
  · intro r hr b hb
    rcases List.mem_cons.1 hr with rfl | hr
    · simp only [Tab, List.mem_cons] at hb
      rcases hb with rfl | hb
      · exact h.new (TabX b ms S i) (by simp) b (by simp [TabX])
      · rcases hm b hb with rfl | hb
        · exact h.new (SetR (gt ms (i : Int)) f) (by simp) _ (by simp [SetR, e])
        · exact h.new (TabX R ms S i) (by simp) b (List.mem_cons_of_mem _ hb)
    · exact h.new r (by simp [hr]) b hb
  · have hnd : ([gt ms (i : Int)] ++ ((R :: ms.eraseIdx i) ++ σ.flatMap Res.fp)).Nodup := h.nd
    rw [e] at hnd
    have hp2 : ([ms[i]] ++ ((R :: ms.eraseIdx i) ++ σ.flatMap Res.fp)).Perm ((R :: ms) ++ σ.flatMap Res.fp) := by
      rw [← List.append_assoc]
      refine List.Perm.append_right _ ?_
      exact (List.Perm.swap R ms[i] _).trans (List.Perm.cons R hp)
    exact (List.Perm.nodup_iff hp2).1 hnd
theorem wc_hole {c : Code} (R : Nat) (ms : List Nat) (S : Int → Int → Bool) (i : Nat) (hi : i < ms.length) (h : PickK (Tab R ms S) σ (fun σ' => WC Try.prog n w0 D c Q Γ (SetR (gt ms (i : Int)) (S i) :: TabX R ms S i :: σ'))) : WC Try.prog n w0 D c Q Γ σ := by
  obtain ⟨σ', hp, h⟩ := h
  exact ⟨fun a w hs hst => h.run a w hs (St.hole hi (hst.perm hp))⟩
theorem wl_fillHole {P : Program} {ops : Array Oper} {os : List Oper} (R : Nat) (ms : List Nat) (S : Int → Int → Bool) (i : Nat) (f : Int → Bool) (h : SubK [SetR (gt ms (i : Int)) f, TabX R ms S i] σ (fun σ' => WL P n w0 D ops os Q Γ (Tab R ms (fun a b => if a = i then f b else S a b) :: σ'))) : WL P n w0 D ops os Q Γ σ := by
  obtain ⟨σ', hp, h⟩ := h
  exact ⟨fun a w hs hst => h.run a w hs (St.fillHole (hst.perm hp))⟩
theorem tab_inR {w : World} (h : (Tab R ms S).ok w) (r : Nat) (hr : r < ms.length) : ∀ y, S r y = true → 0 ≤ y ∧ y < 128 := by
  obtain ⟨D0, _, _, h3⟩ := h.2 r hr
  exact h3
end
end Go.Proofs.Ytofngbaefbbeiaa
