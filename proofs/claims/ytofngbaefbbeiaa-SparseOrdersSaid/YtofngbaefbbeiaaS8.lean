/- Tables in the making; pieces turned into others. -/
import Derived.Test.YtofngbaefbbeiaaS7
set_option linter.unusedVariables false
set_option linter.unusedSimpArgs false
set_option maxHeartbeats 1000000
namespace Go.Proofs.Ytofngbaefbbeiaa
open Go.RowKit Go.Maps

abbrev TR : TypeId := 100
/-- a set of columns by itself -/
def SetR (b : Nat) (f : Int → Bool) : Res where
  fp := [b]
  ok := fun w => IsSet w b f
  st := fun w w' h hw => hw.st (h b (by simp))
/-- a table in the making: m rows, of which the first ms.length have their maps, all empty -/
def TabP (R : Nat) (ms : List Nat) (m : Nat) : Res where
  fp := R :: ms
  ok := fun w => ms.length ≤ m ∧ w.heap[R]? = some (.cells ((ms.map fun b => Value.map (some b)) ++ List.replicate (m - ms.length) (Value.map none)).toArray TM (0, 0)) ∧ ∀ r (h : r < ms.length), IsSet w ms[r] (fun _ => false)
  st := fun w w' h hw => ⟨hw.1, (h R (by simp)).trans hw.2.1, fun r hr => (hw.2.2 r hr).st (h _ (List.mem_cons_of_mem _ (List.getElem_mem hr)))⟩

theorem fill_list {α : Type} (A B : List α) (u v : α) : (A ++ u :: B).take A.length ++ [v] ++ (A ++ u :: B).drop (A.length + 1) = A ++ [v] ++ B := by
  rw [List.take_left', List.drop_append]
  · simp
  · rfl
section
variable {P : Program} {n : Nat} {w0 : World} {D : List Nat} {Γ : Tm} {σ : List Res} {ops : Array Oper} {o : Oper} {K : Tm → List Res → Prop} {R : Nat} {ms : List Nat} {i : Int} {Z : Value → Prop}
theorem St.conv {w : World} (h : St w0 D σ w) (j : Nat) {r r' : Res} (hj : σ[j]? = some r) (hfp : r'.fp = r.fp) (hok : ∀ w, r.ok w → r'.ok w) : St w0 D (σ.set j r') w :=
  h.set_ j hj (Only.refl _ _) (hok w (h.at_ j hj)) (fun b hb => by
    rw [hfp] at hb
    exact ⟨.inl hb, h.lt _ (List.mem_of_getElem? hj) b hb⟩) (by
    rw [hfp]
    have h4 := perm_front σ j _ hj
    have h5 := (List.Perm.nodup_iff (h4.flatMap_right Res.fp)).2 h.nd
    rw [List.flatMap_cons, List.nodup_append] at h5
    exact h5.1)
theorem wc_conv {c : Code} {Q : QQ} (j : Nat) {r r' : Res} (hj : σ[j]? = some r) (hfp : r'.fp = r.fp) (hok : ∀ w, r.ok w → r'.ok w) (h : WC P n w0 D c Q Γ (σ.set j r')) : WC P n w0 D c Q Γ σ := .mk fun a w hs hst => h.run a w hs (hst.conv j hj hfp hok)
theorem wc_perm {c : Code} {Q : QQ} {σ' : List Res} (hp : σ'.Perm σ) (h : WC P n w0 D c Q Γ σ') : WC P n w0 D c Q Γ σ := .mk fun a w hs hst => h.run a w hs (hst.perm hp)
/-- what the memory says besides -/
theorem wc_know {c : Code} {Q : QQ} {φ : Prop} (hk : ∀ w, St w0 D σ w → φ) (h : φ → WC P n w0 D c Q Γ σ) : WC P n w0 D c Q Γ σ := .mk fun a w hs hst => (h (hk w hst)).run a w hs hst

theorem ok_makeTab {x y : Operand} {m : Int} (hop : o.op = .makeSlice TR x y) (hx : ev Γ x = some (.int .i64 m)) (hy : ev Γ y = some (.int .i64 m)) (hg : gd Γ ops o = some true) {dd : Nat} (hd : o.dst = some dd) (hdn : Nat.blt dd n = true) (h0 : 0 ≤ m) (h1 : m ≤ 128)
    (h : ∀ R, K ((dd, .slice (some ⟨R, 0, none⟩) m.toNat m.toNat) :: Γ) (TabP R [] m.toNat :: σ)) : OpOK Try.prog n w0 D ops o K Γ σ :=
  ok_run hg hd hdn fun w hst g hgf => by
    have hz := ze_of (t := TM) (v := .map none) rfl
    have hs := sz_of (t := TM) (k := 1) rfl
    have hb := by_of (t := TM) (k := 8) rfl
    unfold zero? at hz
    unfold size? at hs
    unfold bytes? at hb
    cases hi : Try.prog.info? TM with
    | none => rw [hi] at hz; cases hz
    | some ie =>
      rw [hi] at hz hs hb
      simp only [Option.bind_some, Option.map_some, Option.some.injEq] at hz hs hb
      have hr := run_make (P := Try.prog) w TR TM ie (.map none) (elem?_spec (el_of rfl)) hi hz .i64 .i64 m m h0 (Int.le_refl _) (by rw [hb]; omega) (by omega)
      rw [hs, Nat.mul_one] at hr
      have hcells : madeCells (Value.map none).cells m.toNat = (List.replicate m.toNat (Value.map none)).toArray := madeCells_one _ _
      rw [hcells] at hr
      refine ⟨.slice (some ⟨w.heap.size, 0, none⟩) m.toNat m.toNat, w.alloc (.cells (List.replicate m.toNat (Value.map none)).toArray TM), _, ?_, hst.push (Only.alloc _ _ _) (TabP w.heap.size [] m.toNat) ?_ (by simp [TabP]) (by simp [TabP]), h _⟩
      · simp [execOp, hop, hgf _ _ hx, hgf _ _ hy, hr]
      · exact ⟨by simp, by simpa using heap_alloc_new w _, fun r hr => by simp at hr⟩
theorem ok_makeSet (hop : o.op = .makeMap TM none) (hg : gd Γ ops o = some true) {dd : Nat} (hd : o.dst = some dd) (hdn : Nat.blt dd n = true)
    (h : ∀ b, K ((dd, .map (some b)) :: Γ) (SetR b (fun _ => false) :: σ)) : OpOK Try.prog n w0 D ops o K Γ σ :=
  ok_makeMap0 hop hg hd hdn (fun b => SetR b (fun _ => false)) (fun _ => rfl) (fun w => IsSet.made w) h
/-- t.rows[r] = map[int]V{} -/
theorem ok_tabFill {x y : Operand} {b m : Nat} {σr : List Res} (hop : o.op = .store TM x y) (hσ : σ = SetR b (fun _ => false) :: TabP R ms m :: σr) (hx : ev Γ x = some (.pointer (some (elA (some ⟨R, 0, none⟩) 1 i)))) (hy : ev Γ y = some (.map (some b))) (hg : gd Γ ops o = some true) (hd : o.dst = none)
    (hi : i = ms.length) (hm : ms.length < m) (h : K Γ (TabP R (ms ++ [b]) m :: σr)) : OpOK Try.prog n w0 D ops o K Γ σ :=
  ok_skip hg hd fun w hst f hf => by
    subst hσ hi
    have hset : IsSet w b (fun _ => false) := hst.at_ 0 rfl
    have hok : (TabP R ms m).ok w := hst.at_ 1 rfl
    obtain ⟨h1, h2, h3⟩ := hok
    have hnd := hst.nd
    have hnd2 : (b :: R :: ms).Nodup := by
      have h4 : ([b] ++ ((R :: ms) ++ σr.flatMap Res.fp)).Nodup := hnd
      rw [← List.append_assoc] at h4
      exact (List.nodup_append.1 h4).1
    obtain ⟨hb1, hb2⟩ := List.nodup_cons.1 hnd2
    obtain ⟨hR1, hR2⟩ := List.nodup_cons.1 hb2
    have hlb : b < w.heap.size := hst.lt (SetR b (fun _ => false)) (by simp) b (by simp [SetR])
    have hlR : R < w.heap.size := hst.lt (TabP R ms m) (by simp) R (by simp [TabP])
    have hlm : ∀ c ∈ ms, c < w.heap.size := fun c hc => hst.lt (TabP R ms m) (by simp) c (by simp [TabP, hc])
    have hr := run_storeCells_at (P := Try.prog) R ms.length TM [.map (some b)] 0 _ w h2 (by simp; omega) (by simp [Value.oneCell'])
    have hsp : ((List.take (ms.length + 0) (((ms.map fun b => Value.map (some b)) ++ List.replicate (m - ms.length) (Value.map none)).toArray).toList ++ [Value.map (some b)] ++ List.drop (ms.length + 0 + [Value.map (some b)].length) (((ms.map fun b => Value.map (some b)) ++ List.replicate (m - ms.length) (Value.map none)).toArray).toList)) = ((ms ++ [b]).map fun b => Value.map (some b)) ++ List.replicate (m - (ms ++ [b]).length) (Value.map none) := by
      obtain ⟨k, rfl⟩ : ∃ k, m = ms.length + (k + 1) := ⟨m - ms.length - 1, by omega⟩
      have e1 : ms.length + (k + 1) - ms.length = k + 1 := by omega
      have e2 : ms.length + (k + 1) - (ms ++ [b]).length = k := by simp; omega
      rw [e1, e2, List.replicate_succ]
      have e3 := fill_list (ms.map fun b => Value.map (some b)) (List.replicate k (Value.map none)) (Value.map none) (Value.map (some b))
      rw [List.length_map] at e3
      simpa using e3
    rw [hsp] at hr
    refine ⟨w.setRow R (((ms ++ [b]).map fun b => Value.map (some b)) ++ List.replicate (m - (ms ++ [b]).length) (Value.map none)).toArray, [TabP R (ms ++ [b]) m] ++ σr, ?_, St.turn (σ1 := [SetR b (fun _ => false), TabP R ms m]) (σ2 := [TabP R (ms ++ [b]) m]) hst (Only.setRow w (b := R) (by simp [SetR, TabP]) _) ?_ ?_ ?_, h⟩
    · have hx' : f x = .pointer (some ⟨R, ms.length, none⟩) := by rw [hf _ _ hx]; simp [elA, add_own]
      simp only [execOp, hop, hx', hf _ _ hy]
      simp only [Instr.storeAt, Instr.sureAddr, storeVar, Sem.run_bind, Sem.run_pure, Result.andThen_ok, run_sizeOf' (sz_of (t := TM) (k := 1) rfl)]
      simp [Value.cells, hr, Result.andThen]
    · intro r hr'
      simp only [List.mem_singleton] at hr'
      subst hr'
      refine ⟨by simp; omega, by simp [World.setRow, Array.getElem?_modify, h2], fun r hr => ?_⟩
      have hother : ∀ c, c ≠ R → (w.setRow R (((ms ++ [b]).map fun b => Value.map (some b)) ++ List.replicate (m - (ms ++ [b]).length) (Value.map none)).toArray).heap[c]? = w.heap[c]? := fun c hc => by simp [World.setRow, Array.getElem?_modify, Ne.symm hc]
      by_cases e : r < ms.length
      · have e2 : (ms ++ [b])[r] = ms[r] := by simp [List.getElem_append, e]
        rw [e2]
        exact (h3 r e).st (hother _ (fun e3 => hR1 (e3 ▸ List.getElem_mem e)))
      · have e2 : (ms ++ [b])[r] = b := by simp [List.getElem_append, e]
        rw [e2]
        exact hset.st (hother b (fun e3 => hb1 (by simp [e3])))
    · intro c hc
      simp [TabP] at hc
      refine ⟨.inl (by simp [SetR, TabP]; rcases hc with h | h | h <;> simp [h]), ?_⟩
      have : c < w.heap.size := by
        rcases hc with rfl | h | rfl
        · exact hlR
        · exact hlm c h
        · exact hlb
      simpa [World.setRow] using this
    · simp only [List.flatMap_cons, List.flatMap_nil, List.append_nil, TabP]
      refine List.nodup_cons.2 ⟨fun h => ?_, List.nodup_append.2 ⟨hR2, by simp, fun a ha c hc => ?_⟩⟩
      · rcases List.mem_append.1 h with h | h
        · exact hR1 h
        · simp at h; exact hb1 (by simp [h])
      · simp at hc; subst hc; rintro rfl; exact hb1 (by simp [ha])
theorem tabP_done {w : World} {m : Nat} (hm : ms.length = m) (h : (TabP R ms m).ok w) : (Tab R ms (fun _ _ => false)).ok w := by
  obtain ⟨h1, h2, h3⟩ := h
  refine ⟨?_, h3⟩
  rw [h2]
  simp [hm]
end
end Go.Proofs.Ytofngbaefbbeiaa
