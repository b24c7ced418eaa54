/- Rows of patterns that are the call's own. Walks: Given.Ints and Given.Pattern, for many. Walks: the law's own copies: Given.Patterns. Walks: the law's own copies of patterns are intact. Walks: the law SparseJoins. -/
import Derived.Test.YtofngbaefbbeiaaT31
import Derived.Test.YtofngbaefbbeiaaT10
import Derived.Test.YtofngbaefbbeiaaJ0
set_option linter.unusedVariables false
set_option linter.unusedSimpArgs false
set_option maxHeartbeats 8000000
namespace Go.Proofs.Ytofngbaefbbeiaa
open Go.RowKit
/-- a slice of patterns of the call's own -/
def oslP (A : Option Addr) (c : Nat) (l : LP) : Res where
  fp := ownB A
  ok := fun w => w.ownsRow 0 TP 4 (.slice A l.length c) l.length (lpC l)
  st := fun w w' h hw => ownsRow_st hw h
abbrev lp0 : PA × Pat := (PA.nil, zP)
theorem lpC_app (l m : LP) : lpC (l ++ m) = lpC l ++ lpC m := by simp [lpC]
theorem madeCells_get (m : Nat) (i : Nat) (h : i < m) : (madeCells pat0.toArray m).toList[i]? = pat0[i % 4]? := by
  have h4 : i % 4 < 4 := Nat.mod_lt _ (by omega)
  simp [madeCells, h]
  rw [List.getElem?_eq_getElem (show i % 4 < pat0.length from h4)]
  rfl
theorem lpC_rep (n : Nat) (i : Nat) (h : i < n * 4) : (lpC (List.replicate n lp0))[i]? = pat0[i % 4]? := by
  have h4 : i % 4 < 4 := Nat.mod_lt _ (by omega)
  have hl : i / 4 < (List.replicate n lp0).length := by rw [List.length_replicate]; omega
  have hv : ∃ v, pat0[i % 4]? = some v := ⟨pat0[i % 4], List.getElem?_eq_getElem (by simpa using h4)⟩
  obtain ⟨v, hv⟩ := hv
  have := lpC_get (List.replicate n lp0) (i / 4) hl (i % 4) v (by
    have e : (List.replicate n lp0)[i / 4] = lp0 := by simp
    rw [e]; exact hv)
  rw [show i / 4 * 4 + i % 4 = i by omega] at this
  rw [this, hv]
theorem made_take (n m : Nat) (h : n ≤ m) : (madeCells pat0.toArray (m * 4)).toList.take (n * 4) = lpC (List.replicate n lp0) := by
  have hlen : (lpC (List.replicate n lp0)).length = n * 4 := by rw [lpC_len, List.length_replicate]
  apply List.ext_getElem?
  intro i
  by_cases hi : i < n * 4
  · rw [List.getElem?_take, if_pos hi, madeCells_get _ _ (by omega), lpC_rep _ _ hi]
  · rw [List.getElem?_eq_none (by simp; omega), List.getElem?_eq_none (by omega)]
theorem lpC_set (l : LP) (i : Nat) (h : i < l.length) (x : PA × Pat) : lpC (l.set i x) = (lpC l).take (i * 4) ++ pcs x.1 x.2 ++ (lpC l).drop (i * 4 + 4) := by
  have e : l.set i x = l.take i ++ (x :: l.drop (i + 1)) := List.set_eq_take_append_cons_drop.trans (if_pos h)
  have e2 : l = l.take i ++ (l[i] :: l.drop (i + 1)) := by simp
  have h1 : (lpC (l.take i)).length = i * 4 := by rw [lpC_len, List.length_take]; omega
  have h2 : lpC l = lpC (l.take i) ++ (pcs l[i].1 l[i].2 ++ lpC (l.drop (i + 1))) := by
    conv => lhs; rw [e2]
    simp only [lpC, List.flatMap_append, List.flatMap_cons]
  have h3 : lpC (l.set i x) = lpC (l.take i) ++ (pcs x.1 x.2 ++ lpC (l.drop (i + 1))) := by
    rw [e]
    simp only [lpC, List.flatMap_append, List.flatMap_cons]
  have h4 : (lpC l).drop (i * 4 + 4) = lpC (l.drop (i + 1)) := by
    rw [h2, ← List.append_assoc]
    exact List.drop_left' (by rw [List.length_append, h1]; rfl)
  have h5 : (lpC l).take (i * 4) = lpC (l.take i) := by
    rw [h2]
    exact List.take_left' h1
  rw [h3, h4, h5, List.append_assoc]
theorem take_splice (cs : List Value) (k L : Nat) (vs : List Value) (h1 : k + vs.length ≤ L) (h2 : L ≤ cs.length) : (cs.take k ++ vs ++ cs.drop (k + vs.length)).take L = (cs.take L).take k ++ vs ++ (cs.take L).drop (k + vs.length) := by
  have hA : (cs.take k ++ vs).length = k + vs.length := by rw [List.length_append, List.length_take]; omega
  rw [List.take_append, List.take_of_length_le (l := cs.take k ++ vs) (by rw [hA]; omega), hA, List.take_take, Nat.min_eq_left (by omega), List.drop_take]
section
variable {n : Nat} {w0 : World} {D : List Nat} {Γ : Tm} {σ : List Res} {ops : Array Oper} {o : Oper} {os : List Oper} {K : Tm → List Res → Prop} {Q : QQ}
theorem infoP : ∃ ie, Try.prog.info? TP = some ie ∧ ie.zero = some (.agg pat0.toArray) ∧ ie.size = 4 ∧ ie.bytes = 64 := by
  have hz := ze_of (t := TP) (v := .agg pat0.toArray) rfl
  have hs := sz_of (t := TP) (k := 4) rfl
  have hb := by_of (t := TP) (k := 64) rfl
  unfold zero? at hz
  unfold size? at hs
  unfold bytes? at hb
  cases hi : Try.prog.info? TP with
  | none => rw [hi] at hz; cases hz
  | some ie =>
    rw [hi] at hz hs hb
    simp only [Option.bind_some, Option.map_some, Option.some.injEq] at hz hs hb
    exact ⟨ie, rfl, hz, hs, hb⟩
/-- make([]Pattern, l, c) -/
theorem ok_makeP {x y : Operand} {l c : Int} (hop : o.op = .makeSlice TPs x y) (hx : ev Γ x = some (.int .i64 l)) (hy : ev Γ y = some (.int .i64 c)) (hg : gd Γ ops o = some true) {dd : Nat} (hd : o.dst = some dd) (hdn : Nat.blt dd n = true)
    (h0 : 0 ≤ l) (hlc : l ≤ c) (hcb : 64 * c ≤ 281474976710656) (h : ∀ b, K ((dd, .slice (some ⟨b, 0, none⟩) l.toNat c.toNat) :: Γ) (oslP (some ⟨b, 0, none⟩) c.toNat (List.replicate l.toNat lp0) :: σ)) : OpOK Try.prog n w0 D ops o K Γ σ :=
  ok_run hg hd hdn fun w hst g hgf => by
    obtain ⟨ie, hi, hz, hs, hb⟩ := infoP
    have hr := run_make (P := Try.prog) w TPs TP ie (.agg pat0.toArray) (elem?_spec (el_of rfl)) hi hz .i64 .i64 l c h0 hlc (by rw [hb]; exact hcb) (by omega)
    rw [hs] at hr
    refine ⟨.slice (some ⟨w.heap.size, 0, none⟩) l.toNat c.toNat, w.alloc (.cells (madeCells pat0.toArray (c.toNat * 4)) TP), _, by simp [execOp, hop, hgf _ _ hx, hgf _ _ hy, hr, Value.cells], hst.push (Only.alloc _ _ _) (oslP (some ⟨w.heap.size, 0, none⟩) c.toNat (List.replicate l.toNat lp0)) ?_ (by simp [oslP, ownB]) (by simp [oslP, ownB]), h w.heap.size⟩
    refine ⟨by rw [lpC_len], .inr ⟨w.heap.size, c.toNat, madeCells pat0.toArray (c.toNat * 4), by rfl, Nat.zero_le _, heap_alloc_new w _, by rw [List.length_replicate]; omega, by simp [maxLen]; omega, by simp [size_madeCells], ?_⟩⟩
    rw [List.length_replicate]
    exact made_take _ _ (by omega)
/-- l[j] = x -/
theorem ok_storeP (i : Nat) {x y : Operand} {A : Option Addr} {c : Nat} {l : LP} {j : Int} {v : PA × Pat} (hop : o.op = .store TP x y)
    (hx : ev Γ x = some (.pointer (some (elA A 4 j)))) (hy : ev Γ y = some (.agg (pcs v.1 v.2).toArray)) (hi : σ[i]? = some (oslP A c l)) (hg : gd Γ ops o = some true) (hd : o.dst = none)
    (h0 : 0 ≤ j) (h1 : j < l.length) (h : K Γ (σ.set i (oslP A c (l.set j.toNat v)))) : OpOK Try.prog n w0 D ops o K Γ σ :=
  ok_skip hg hd fun w hst g hgf => by
    have hown : w.ownsRow 0 TP 4 (.slice A l.length c) l.length (lpC l) := hst.at_ i hi
    rcases hown.2 with ⟨h2, h3⟩ | ⟨gb, cap, cur, h2, h3, hb, h5, h6, h7, h8⟩
    · omega
    · injection h2 with e1 e2 e3
      subst e1 e3
      have hj : j.toNat < l.length := by omega
      have hr := run_storeCells_at (P := Try.prog) gb (j.toNat * 4) TP (pcs v.1 v.2) 0 cur w hb (by rw [h7, Nat.add_zero]; show j.toNat * 4 + 4 ≤ _; omega) (by simp [Value.oneCell', vi])
      refine ⟨w.setRow gb (spliceA cur (j.toNat * 4) (pcs v.1 v.2)), _, ?_, hst.set_ i hi (Only.setRow w (by simp [oslP, ownB]) _) ?_ ?_ (by simp [oslP, ownB]), h⟩
      · simp [elA, add_own] at hx
        simp [execOp, hop, hgf _ _ hx, hgf _ _ hy, Instr.storeAt, Instr.sureAddr, storeVar, run_sizeOf' (sz_of (t := TP) (k := 4) rfl), Result.andThen, Value.cells, hr, spliceA]
      · refine ⟨by rw [lpC_len], .inr ⟨gb, c, spliceA cur (j.toNat * 4) (pcs v.1 v.2), by simp, Nat.zero_le _, by simp [World.setRow, Array.getElem?_modify, hb], by simpa using h5, h6, ?_, ?_⟩⟩
        · have hcl : cur.toList.length = c * 4 := by rw [Array.length_toList]; exact h7
          simp [spliceA]; omega
        · simp only [spliceA, List.length_set]
          have hcl : cur.toList.length = c * 4 := by rw [Array.length_toList]; exact h7
          rw [lpC_set l j.toNat hj v, ← h8]
          exact take_splice cur.toList (j.toNat * 4) (l.length * 4) (pcs v.1 v.2) (by show j.toNat * 4 + 4 ≤ _; omega) (by omega)
      · intro b hb'
        simp [oslP, ownB] at hb'
        subst hb'
        refine ⟨.inl (by simp [oslP, ownB]), ?_⟩
        have := hst.lt _ (List.mem_of_getElem? hi) b (by simp [oslP, ownB])
        simpa [World.setRow] using this
/-- append(l, m...) -/
theorem ok_appendP (i : Nat) {x y : Operand} {A : Option Addr} {bb : Nat} {c d : Nat} {l m : LP} (hop : o.op = .call { callee := .builtin .append, args := #[x, y], argTypes := #[TPs, TPs] })
    (hx : ev Γ x = some (.slice A l.length c)) (hy : ev Γ y = some (.slice (some ⟨bb, 0, none⟩) m.length d)) (hi : σ[i]? = some (oslP A c l)) (hm : HasR σ (blk bb (lpC m) TP)) (hg : gd Γ ops o = some true) {dd : Nat} (hd : o.dst = some dd) (hdn : Nat.blt dd n = true)
    (hl : (l.length + m.length) * 64 ≤ 140737488355328)
    (h : ∀ A' c', K ((dd, .slice A' (l ++ m).length c') :: Γ) (σ.set i (oslP A' c' (l ++ m)))) : OpOK Try.prog n w0 D ops o K Γ σ :=
  ok_run hg hd hdn fun w hst g hgf => by
    obtain ⟨ie, hie, hz, hs, hb⟩ := infoP
    have hown : w.ownsRow 0 TP 4 (.slice A l.length c) l.length (lpC l) := hst.at_ i hi
    have hmb : w.heap[bb]? = some (.cells (lpC m).toArray TP (0, 0)) := hm.st hst
    have hcells : ∀ j u, (lpC m)[j]? = some u → w.cell? ((⟨bb, 0, none⟩ : Addr).add j) = some u := by
      intro j u hu
      rw [add_own]
      simp only [World.cell?, hmb, Nat.zero_add]
      simpa using hu
    have hone : ∀ u ∈ lpC m, u.oneCell' = true := by
      intro u hu
      obtain ⟨z, hz, hu⟩ := List.mem_flatMap.1 hu
      simp only [List.mem_cons, List.not_mem_nil, or_false] at hu
      rcases hu with rfl | rfl | rfl | rfl <;> rfl
    obtain ⟨v', w', hr, hown', hgrow, hnil, hat⟩ := run_append_own_at (P := Try.prog) w 0 TPs o.type TP ie (.agg pat0.toArray) 4 64 (elem?_spec (el_of rfl)) hie hz hs hb (by simp [Value.cells]) (by omega) (.slice A l.length c) l.length (lpC l) hown ⟨bb, 0, none⟩ m.length d (lpC m) (lpC_len m) hcells hone (by simp [maxLen]; omega) hl (Nat.zero_le _)
    have hv : ∃ A' c', v' = .slice A' (l ++ m).length c' := by
      rcases hown'.2 with ⟨h2, h3⟩ | ⟨g', cap, cur, h2, _⟩
      · exact ⟨none, 0, by rw [h2, List.length_append, h3]⟩
      · exact ⟨_, cap, by rw [h2, List.length_append]⟩
    obtain ⟨A', c', rfl⟩ := hv
    refine ⟨.slice A' (l ++ m).length c', w', _, ?_, hst.set_ i hi (Only.grown hgrow ?_) (by show w'.ownsRow _ _ _ _ _ _; rw [lpC_app, List.length_append]; rw [List.length_append] at hown'; exact hown') ?_ ?_, h A' c'⟩
    · simp [execOp, hop, resolve, invoke, builtin, hgf _ _ hx, hgf _ _ hy, hr, Result.andThen]
    · intro b hb'
      cases A with
      | none => simp [Value.ownBlock] at hb'
      | some a => simp [Value.ownBlock] at hb'; simp [oslP, ownB, hb']
    · intro b hb'
      cases A' with
      | none => simp [oslP, ownB] at hb'
      | some a' =>
        simp [oslP, ownB] at hb'
        subst hb'
        have hlt := (hown'.lt a'.block rfl).2
        refine ⟨?_, hlt⟩
        rcases hat with hat | hat
        · cases A with
          | none => simp [Value.ownBlock] at hat
          | some a => simp [Value.ownBlock] at hat; exact .inl (by simp [oslP, ownB, hat])
        · simp [Value.ownBlock] at hat; exact .inr (by omega)
    · cases A' <;> simp [oslP, ownB]
/-- the first ones of a row of ours read so -/
theorem oslP_reads {A : Option Addr} {c : Nat} {l m : LP} {w : World} (h : (oslP A c (l ++ m)).ok w) (hp : ∀ x ∈ l, RdP w x.1 x.2) : RdPs w A c l := by
  have h0 : w.ownsRow 0 TP 4 (.slice A (l ++ m).length c) (l ++ m).length (lpC (l ++ m)) := h
  rcases h0.2 with ⟨h2, h3⟩ | ⟨g, cap, cur, h2, _, h4, h5, h6, h7, h8⟩
  · injection h2 with h4 h5 h6
    rw [List.length_append] at h3
    exact ⟨by omega, by omega, fun hn => absurd hn (by omega), fun ad e j hj => absurd hj (by omega), hp⟩
  · injection h2 with e1 e2 e3
    subst e1 e3
    rw [List.length_append] at h5
    refine ⟨by omega, by simpa [maxLen] using h6, fun hn => ⟨_, rfl⟩, fun ad e j hj f v hv => ?_, hp⟩
    simp only [Option.some.injEq] at e
    subst e
    have hf : f < 4 := (List.getElem?_eq_some_iff.1 hv).1
    rw [add_own]
    simp only [World.cell?, h4, Nat.zero_add]
    have := lpC_get (l ++ m) j (by rw [List.length_append]; omega) f v (by rw [List.getElem_append_left hj]; exact hv)
    rw [← h8, List.getElem?_take, if_pos (by rw [List.length_append]; omega)] at this
    simpa using this
/-- l[:n] -/
theorem val_preP {A : Option Addr} {c m : Nat} {x h : Operand} {hi : Int} (hop : o.op = .slice TPs x none (some h) none) (hx : ev Γ x = some (.slice A m c)) (hh : ev Γ h = some (.int .i64 hi)) (hmc : m ≤ c) (h1 : 0 ≤ hi) (h2 : hi ≤ m) :
    ValOK Try.prog w0 D σ Γ o (.slice A hi.toNat c) := by
  refine ⟨fun w hst g hg => ?_⟩
  have e1 : 0 ≤ hi ∧ hi ≤ (c : Int) := by omega
  have e3 : (0 : Int) ≤ max hi 0 := by omega
  have hA : A.map (·.add 0) = A := by cases A <;> simp [addr_add0]
  simp [execOp, hop, hg _ _ hx, hg _ _ hh, Instr.sliceAt, Instr.slice, run_underlying (elem?_spec (el_of (t := TPs) (k := TP) rfl)), Instr.sliceBounds, Instr.sliceBound, asIntOf, e1, e3, run_sizeOf' (sz_of (t := TP) (k := 4) rfl), Result.andThen, hA]
theorem oslP_cap {A : Option Addr} {c : Nat} {l : LP} {w : World} (h : (oslP A c l).ok w) : l.length ≤ c := by
  have h0 : w.ownsRow 0 TP 4 (.slice A l.length c) l.length (lpC l) := h
  rcases h0.2 with ⟨h2, h3⟩ | ⟨g, cap, cur, h2, _, h4, h5, h6, h7, h8⟩
  · omega
  · injection h2 with e1 e2 e3
    omega
end
theorem ints2_c {A : Option Addr} {c : Nat} {xs : List Int} {g : Nat} (x : GS) (w : World) (hA : RdO vi w ((Giv g x).flatMap Res.fp) A c xs) (hl : xs.length ≤ 17592186043904) (he : x.es.length ≤ 5864062014000) (hw : Own (Giv g x) w) :
    Calls Try.prog 21 [.pointer (some ⟨g, 0, none⟩), .slice A xs.length c].toArray w (Ret (Giv g x) (fun y : GS × GE => .slice y.2.A xs.length y.2.c) (fun y => Giv g y.1) (fun y => y.1.es = x.es ++ [y.2] ∧ y.2.xs = xs ++ gMarks) w) := by
  obtain ⟨I, i, J, j, es⟩ := x
  refine calls_wc ((Giv g ⟨I, i, J, j, es⟩).flatMap Res.fp) (Giv g ⟨I, i, J, j, es⟩) [.tmp 4] (fun y : GS × GE => [.slice y.2.A xs.length y.2.c]) Try.func21 rfl rfl (fun _ => rfl) Try.ntmps21 rfl hw rfl ?_
  unfold Giv
  dsimp only at he ⊢
  (repeat (first | with_reducible refine thenQ_normal ?_ | with_reducible refine thenQ_exit ?_ | with_reducible refine thenQ_ret ?_ | with_reducible refine blkQ_normal ?_ | with_reducible refine blkQ_ret ?_ | with_reducible refine blkQ_hit ?_ | (with_reducible refine blkQ_miss ?_ ?_; · rfl) | refine wc_seq ?_ | refine wc_skip ?_ | refine wc_block ?_ | refine wc_true rfl ?_ | refine wc_false rfl ?_ | refine wc_exit ?_ | refine wc_ret ?_ | (refine wc_region ?_; repeat (first | refine gp1 (by exact rfl) ?_ | refine gl1 (by exact rfl) ?_ | refine gb1 (by exact rfl) ?_ | refine gi1 (by exact rfl) ?_ | refine gt1 (by exact rfl) ?_)) | refine wl_nil ?_ | refine wq_nil ?_ | refine gp1 (by exact rfl) ?_ | refine gl1 (by exact rfl) ?_ | refine gb1 (by exact rfl) ?_ | refine gi1 (by exact rfl) ?_ | refine gt1 (by exact rfl) ?_ | refine gp2 (by exact rfl) ?_ | refine gl2 (by exact rfl) ?_ | refine gb2 (by exact rfl) ?_ | refine gi2 (by exact rfl) ?_))
  refine wl_callr [] _ (fun w hst => copyInts_c w (hA.now hst) (by omega)) (by rfl) (by rfl) (bod_of rfl) (by rfl) (by rfl) (by rfl) (List.Perm.refl _) ?_
  intro b0 _
  (repeat (first | with_reducible refine thenQ_normal ?_ | with_reducible refine thenQ_exit ?_ | with_reducible refine thenQ_ret ?_ | with_reducible refine blkQ_normal ?_ | with_reducible refine blkQ_ret ?_ | with_reducible refine blkQ_hit ?_ | (with_reducible refine blkQ_miss ?_ ?_; · rfl) | refine wc_seq ?_ | refine wc_skip ?_ | refine wc_block ?_ | refine wc_true rfl ?_ | refine wc_false rfl ?_ | refine wc_exit ?_ | refine wc_ret ?_ | (refine wc_region ?_; repeat (first | refine gp1 (by exact rfl) ?_ | refine gl1 (by exact rfl) ?_ | refine gb1 (by exact rfl) ?_ | refine gi1 (by exact rfl) ?_ | refine gt1 (by exact rfl) ?_)) | refine wl_nil ?_ | refine wq_nil ?_ | refine gp1 (by exact rfl) ?_ | refine gl1 (by exact rfl) ?_ | refine gb1 (by exact rfl) ?_ | refine gi1 (by exact rfl) ?_ | refine gt1 (by exact rfl) ?_ | refine gp2 (by exact rfl) ?_ | refine gl2 (by exact rfl) ?_ | refine gb2 (by exact rfl) ?_ | refine gi2 (by exact rfl) ?_))
  refine wl_op (ok_buildSlice vi gMarks (ps := [(0, vi (-41)), (1, vi (-42)), (2, vi (-43))]) rfl rfl rfl rfl rfl (el_of rfl) (ze_of rfl) (sz_of rfl) rfl (by decide) (by decide) (by kernel_rfl) ?_)
  intro b1
  refine wl_op (ok_append 1 vi (ys := gMarks) rfl rfl rfl rfl rfl rfl rfl (el_of rfl) (ze_of rfl) rfl (sz_of rfl) (by_of rfl) ⟨_, rfl⟩ (fun w hst => osl_reads (hst.at_ 0 rfl)) (fun _ => rfl) (by simp only [gMarks, List.length_cons, List.length_nil]; omega) (by simp only [gMarks, List.length_cons, List.length_nil]; omega) ?_)
  intro A1 c1
  have hlen : (xs ++ gMarks).length = xs.length + 3 := by simp [gMarks]
  (repeat (first | with_reducible refine thenQ_normal ?_ | with_reducible refine thenQ_exit ?_ | with_reducible refine thenQ_ret ?_ | with_reducible refine blkQ_normal ?_ | with_reducible refine blkQ_ret ?_ | with_reducible refine blkQ_hit ?_ | (with_reducible refine blkQ_miss ?_ ?_; · rfl) | refine wc_seq ?_ | refine wc_skip ?_ | refine wc_block ?_ | refine wc_true rfl ?_ | refine wc_false rfl ?_ | refine wc_exit ?_ | refine wc_ret ?_ | (refine wc_region ?_; repeat (first | refine gp1 (by exact rfl) ?_ | refine gl1 (by exact rfl) ?_ | refine gb1 (by exact rfl) ?_ | refine gi1 (by exact rfl) ?_ | refine gt1 (by exact rfl) ?_)) | refine wl_nil ?_ | refine wq_nil ?_ | refine gp1 (by exact rfl) ?_ | refine gl1 (by exact rfl) ?_ | refine gb1 (by exact rfl) ?_ | refine gi1 (by exact rfl) ?_ | refine gt1 (by exact rfl) ?_ | refine gp2 (by exact rfl) ?_ | refine gl2 (by exact rfl) ?_ | refine gb2 (by exact rfl) ?_ | refine gi2 (by exact rfl) ?_))
  refine wl_op (ok_build1 sv (A1, (xs ++ gMarks).length, c1) rfl rfl rfl rfl rfl (el_of rfl) (ze_of rfl) rfl (sz_of rfl) rfl ?_)
  intro b2
  refine wl_op (ok_append 4 sv (ys := [(A1, (xs ++ gMarks).length, c1)]) rfl rfl rfl rfl rfl rfl rfl (el_of rfl) (ze_of rfl) rfl (sz_of rfl) (by_of rfl) ⟨_, rfl⟩ (fun w hst => osl_reads (hst.at_ 0 rfl)) (fun _ => rfl) (by simp; omega) (by simp; omega) ?_)
  intro I' i'
  (repeat (first | with_reducible refine thenQ_normal ?_ | with_reducible refine thenQ_exit ?_ | with_reducible refine thenQ_ret ?_ | with_reducible refine blkQ_normal ?_ | with_reducible refine blkQ_ret ?_ | with_reducible refine blkQ_hit ?_ | (with_reducible refine blkQ_miss ?_ ?_; · rfl) | refine wc_seq ?_ | refine wc_skip ?_ | refine wc_block ?_ | refine wc_true rfl ?_ | refine wc_false rfl ?_ | refine wc_exit ?_ | refine wc_ret ?_ | (refine wc_region ?_; repeat (first | refine gp1 (by exact rfl) ?_ | refine gl1 (by exact rfl) ?_ | refine gb1 (by exact rfl) ?_ | refine gi1 (by exact rfl) ?_ | refine gt1 (by exact rfl) ?_)) | refine wl_nil ?_ | refine wq_nil ?_ | refine gp1 (by exact rfl) ?_ | refine gl1 (by exact rfl) ?_ | refine gb1 (by exact rfl) ?_ | refine gi1 (by exact rfl) ?_ | refine gt1 (by exact rfl) ?_ | refine gp2 (by exact rfl) ?_ | refine gl2 (by exact rfl) ?_ | refine gb2 (by exact rfl) ?_ | refine gi2 (by exact rfl) ?_))
  refine wa_begin0 mixed ?_
  (first | refine ga1 0 (by exact rfl) (by exact rfl) ?_ | refine ga2 0 (by exact rfl) (by exact rfl) ?_ | refine ga3 0 (by exact rfl) (by exact rfl) ?_ | refine ga4 0 (by exact rfl) (by exact rfl) ?_)
  (first | refine ga1 1 (by exact rfl) (by exact rfl) ?_ | refine ga2 1 (by exact rfl) (by exact rfl) ?_ | refine ga3 1 (by exact rfl) (by exact rfl) ?_ | refine ga4 1 (by exact rfl) (by exact rfl) ?_)
  (first | refine ga1 2 (by exact rfl) (by exact rfl) ?_ | refine ga2 2 (by exact rfl) (by exact rfl) ?_ | refine ga3 2 (by exact rfl) (by exact rfl) ?_ | refine ga4 2 (by exact rfl) (by exact rfl) ?_)
  (first | refine ga1 3 (by exact rfl) (by exact rfl) ?_ | refine ga2 3 (by exact rfl) (by exact rfl) ?_ | refine ga3 3 (by exact rfl) (by exact rfl) ?_ | refine ga4 3 (by exact rfl) (by exact rfl) ?_)
  (first | refine ga1 5 (by exact rfl) (by exact rfl) ?_ | refine ga2 5 (by exact rfl) (by exact rfl) ?_ | refine ga3 5 (by exact rfl) (by exact rfl) ?_ | refine ga4 5 (by exact rfl) (by exact rfl) ?_)
  refine wa_two 4 6 rfl rfl (by kernel_rfl) ?_ ?_
  · refine ok_ld rfl rfl rfl rfl rfl (ag_of rfl) ?_
    refine ld_blk 3 rfl (ag_of rfl) rfl ?_
    refine ⟨any0, ?_⟩
    refine wa_one 6 rfl (by kernel_rfl) ?_
    refine ok_call [] _ rfl (by rfl) (bod_of rfl) (by rfl) (by rfl) (by rfl) (List.Perm.refl _) (fun w hst => copyInts_c w (osl_reads (hst.at_ 2 rfl)) (by omega)) ?_
    intro b3 _
    refine ⟨any0, ?_⟩
    refine wa_one 7 rfl (by kernel_rfl) ?_
    refine ok_build1 sv (some ⟨b3, 0, none⟩, (xs ++ gMarks).length, (xs ++ gMarks).length + 3) rfl rfl rfl rfl rfl (el_of rfl) (ze_of rfl) rfl (sz_of rfl) rfl ?_
    intro b4
    refine ⟨any0, ?_⟩
    refine wa_one 8 rfl (by kernel_rfl) ?_
    refine ok_append 7 sv (ys := [(some ⟨b3, 0, none⟩, (xs ++ gMarks).length, (xs ++ gMarks).length + 3)]) rfl rfl rfl rfl rfl rfl rfl (el_of rfl) (ze_of rfl) rfl (sz_of rfl) (by_of rfl) ⟨_, rfl⟩ (fun w hst => osl_reads (hst.at_ 0 rfl)) (fun _ => rfl) (by simp; omega) (by simp; omega) ?_
    intro J' j'
    refine ⟨any0, ?_⟩
    (first | refine ga1 9 (by exact rfl) (by exact rfl) ?_ | refine ga2 9 (by exact rfl) (by exact rfl) ?_ | refine ga3 9 (by exact rfl) (by exact rfl) ?_ | refine ga4 9 (by exact rfl) (by exact rfl) ?_)
    (first | refine ga1 10 (by exact rfl) (by exact rfl) ?_ | refine ga2 10 (by exact rfl) (by exact rfl) ?_ | refine ga3 10 (by exact rfl) (by exact rfl) ?_ | refine ga4 10 (by exact rfl) (by exact rfl) ?_)
    refine wa_one 11 rfl (by kernel_rfl) ?_
    refine ok_store 5 rfl rfl rfl rfl rfl rfl rfl rfl (sz_of rfl) rfl ?_
    refine ⟨any0, ?_⟩
    refine wa_done (by kernel_rfl) ?_
    (repeat (first | with_reducible refine thenQ_normal ?_ | with_reducible refine thenQ_exit ?_ | with_reducible refine thenQ_ret ?_ | with_reducible refine blkQ_normal ?_ | with_reducible refine blkQ_ret ?_ | with_reducible refine blkQ_hit ?_ | (with_reducible refine blkQ_miss ?_ ?_; · rfl) | refine wc_seq ?_ | refine wc_skip ?_ | refine wc_block ?_ | refine wc_true rfl ?_ | refine wc_false rfl ?_ | refine wc_exit ?_ | refine wc_ret ?_ | (refine wc_region ?_; repeat (first | refine gp1 (by exact rfl) ?_ | refine gl1 (by exact rfl) ?_ | refine gb1 (by exact rfl) ?_ | refine gi1 (by exact rfl) ?_ | refine gt1 (by exact rfl) ?_)) | refine wl_nil ?_ | refine wq_nil ?_ | refine gp1 (by exact rfl) ?_ | refine gl1 (by exact rfl) ?_ | refine gb1 (by exact rfl) ?_ | refine gi1 (by exact rfl) ?_ | refine gt1 (by exact rfl) ?_ | refine gp2 (by exact rfl) ?_ | refine gl2 (by exact rfl) ?_ | refine gb2 (by exact rfl) ?_ | refine gi2 (by exact rfl) ?_))
    refine wl_v rfl rfl rfl (val_pre rfl rfl rfl (fun w hst => osl_reads (hst.at_ 4 rfl)) (el_of rfl) (sz_of rfl) (by omega) (by omega)) ?_
    (repeat (first | with_reducible refine thenQ_normal ?_ | with_reducible refine thenQ_exit ?_ | with_reducible refine thenQ_ret ?_ | with_reducible refine blkQ_normal ?_ | with_reducible refine blkQ_ret ?_ | with_reducible refine blkQ_hit ?_ | (with_reducible refine blkQ_miss ?_ ?_; · rfl) | refine wc_seq ?_ | refine wc_skip ?_ | refine wc_block ?_ | refine wc_true rfl ?_ | refine wc_false rfl ?_ | refine wc_exit ?_ | refine wc_ret ?_ | (refine wc_region ?_; repeat (first | refine gp1 (by exact rfl) ?_ | refine gl1 (by exact rfl) ?_ | refine gb1 (by exact rfl) ?_ | refine gi1 (by exact rfl) ?_ | refine gt1 (by exact rfl) ?_)) | refine wl_nil ?_ | refine wq_nil ?_ | refine gp1 (by exact rfl) ?_ | refine gl1 (by exact rfl) ?_ | refine gb1 (by exact rfl) ?_ | refine gi1 (by exact rfl) ?_ | refine gt1 (by exact rfl) ?_ | refine gp2 (by exact rfl) ?_ | refine gl2 (by exact rfl) ?_ | refine gb2 (by exact rfl) ?_ | refine gi2 (by exact rfl) ?_))
    refine ⟨(⟨I', i', J', j', es ++ [⟨A1, c1, some ⟨b3, 0, none⟩, (xs ++ gMarks).length + 3, xs ++ gMarks⟩]⟩, ⟨A1, c1, some ⟨b3, 0, none⟩, (xs ++ gMarks).length + 3, xs ++ gMarks⟩), [osl TIs sv (some ⟨b4, 0, none⟩) 1 [(some ⟨b3, 0, none⟩, (xs ++ gMarks).length, (xs ++ gMarks).length + 3)], osl TIs sv (some ⟨b2, 0, none⟩) 1 [(A1, (xs ++ gMarks).length, c1)], osl TI vi (some ⟨b1, 0, none⟩) 3 gMarks], .cons (rv_tmp (look_to rfl (by simp))) .nil, ⟨rfl, rfl⟩, ?_⟩
    dsimp only
    simp only [List.map_append, List.flatMap_append, List.map_cons, List.map_nil, List.flatMap_cons, List.flatMap_nil]
    exact permI _ _ _ _ _ _ _ _ _
  · refine ok_call [] _ rfl (by rfl) (bod_of rfl) (by rfl) (by rfl) (by rfl) (List.Perm.refl _) (fun w hst => copyInts_c w (osl_reads (hst.at_ 2 rfl)) (by omega)) ?_
    intro b3 _
    refine ⟨any0, ?_⟩
    refine wa_two 4 7 rfl rfl (by kernel_rfl) ?_ ?_
    · refine ok_ld rfl rfl rfl rfl rfl (ag_of rfl) ?_
      refine ld_blk 4 rfl (ag_of rfl) rfl ?_
      refine ⟨any0, ?_⟩
      refine wa_one 7 rfl (by kernel_rfl) ?_
      refine ok_build1 sv (some ⟨b3, 0, none⟩, (xs ++ gMarks).length, (xs ++ gMarks).length + 3) rfl rfl rfl rfl rfl (el_of rfl) (ze_of rfl) rfl (sz_of rfl) rfl ?_
      intro b4
      refine ⟨any0, ?_⟩
      refine wa_one 8 rfl (by kernel_rfl) ?_
      refine ok_append 7 sv (ys := [(some ⟨b3, 0, none⟩, (xs ++ gMarks).length, (xs ++ gMarks).length + 3)]) rfl rfl rfl rfl rfl rfl rfl (el_of rfl) (ze_of rfl) rfl (sz_of rfl) (by_of rfl) ⟨_, rfl⟩ (fun w hst => osl_reads (hst.at_ 0 rfl)) (fun _ => rfl) (by simp; omega) (by simp; omega) ?_
      intro J' j'
      refine ⟨any0, ?_⟩
      (first | refine ga1 9 (by exact rfl) (by exact rfl) ?_ | refine ga2 9 (by exact rfl) (by exact rfl) ?_ | refine ga3 9 (by exact rfl) (by exact rfl) ?_ | refine ga4 9 (by exact rfl) (by exact rfl) ?_)
      (first | refine ga1 10 (by exact rfl) (by exact rfl) ?_ | refine ga2 10 (by exact rfl) (by exact rfl) ?_ | refine ga3 10 (by exact rfl) (by exact rfl) ?_ | refine ga4 10 (by exact rfl) (by exact rfl) ?_)
      refine wa_one 11 rfl (by kernel_rfl) ?_
      refine ok_store 5 rfl rfl rfl rfl rfl rfl rfl rfl (sz_of rfl) rfl ?_
      refine ⟨any0, ?_⟩
      refine wa_done (by kernel_rfl) ?_
      (repeat (first | with_reducible refine thenQ_normal ?_ | with_reducible refine thenQ_exit ?_ | with_reducible refine thenQ_ret ?_ | with_reducible refine blkQ_normal ?_ | with_reducible refine blkQ_ret ?_ | with_reducible refine blkQ_hit ?_ | (with_reducible refine blkQ_miss ?_ ?_; · rfl) | refine wc_seq ?_ | refine wc_skip ?_ | refine wc_block ?_ | refine wc_true rfl ?_ | refine wc_false rfl ?_ | refine wc_exit ?_ | refine wc_ret ?_ | (refine wc_region ?_; repeat (first | refine gp1 (by exact rfl) ?_ | refine gl1 (by exact rfl) ?_ | refine gb1 (by exact rfl) ?_ | refine gi1 (by exact rfl) ?_ | refine gt1 (by exact rfl) ?_)) | refine wl_nil ?_ | refine wq_nil ?_ | refine gp1 (by exact rfl) ?_ | refine gl1 (by exact rfl) ?_ | refine gb1 (by exact rfl) ?_ | refine gi1 (by exact rfl) ?_ | refine gt1 (by exact rfl) ?_ | refine gp2 (by exact rfl) ?_ | refine gl2 (by exact rfl) ?_ | refine gb2 (by exact rfl) ?_ | refine gi2 (by exact rfl) ?_))
      refine wl_v rfl rfl rfl (val_pre rfl rfl rfl (fun w hst => osl_reads (hst.at_ 4 rfl)) (el_of rfl) (sz_of rfl) (by omega) (by omega)) ?_
      (repeat (first | with_reducible refine thenQ_normal ?_ | with_reducible refine thenQ_exit ?_ | with_reducible refine thenQ_ret ?_ | with_reducible refine blkQ_normal ?_ | with_reducible refine blkQ_ret ?_ | with_reducible refine blkQ_hit ?_ | (with_reducible refine blkQ_miss ?_ ?_; · rfl) | refine wc_seq ?_ | refine wc_skip ?_ | refine wc_block ?_ | refine wc_true rfl ?_ | refine wc_false rfl ?_ | refine wc_exit ?_ | refine wc_ret ?_ | (refine wc_region ?_; repeat (first | refine gp1 (by exact rfl) ?_ | refine gl1 (by exact rfl) ?_ | refine gb1 (by exact rfl) ?_ | refine gi1 (by exact rfl) ?_ | refine gt1 (by exact rfl) ?_)) | refine wl_nil ?_ | refine wq_nil ?_ | refine gp1 (by exact rfl) ?_ | refine gl1 (by exact rfl) ?_ | refine gb1 (by exact rfl) ?_ | refine gi1 (by exact rfl) ?_ | refine gt1 (by exact rfl) ?_ | refine gp2 (by exact rfl) ?_ | refine gl2 (by exact rfl) ?_ | refine gb2 (by exact rfl) ?_ | refine gi2 (by exact rfl) ?_))
      refine ⟨(⟨I', i', J', j', es ++ [⟨A1, c1, some ⟨b3, 0, none⟩, (xs ++ gMarks).length + 3, xs ++ gMarks⟩]⟩, ⟨A1, c1, some ⟨b3, 0, none⟩, (xs ++ gMarks).length + 3, xs ++ gMarks⟩), [osl TIs sv (some ⟨b4, 0, none⟩) 1 [(some ⟨b3, 0, none⟩, (xs ++ gMarks).length, (xs ++ gMarks).length + 3)], osl TIs sv (some ⟨b2, 0, none⟩) 1 [(A1, (xs ++ gMarks).length, c1)], osl TI vi (some ⟨b1, 0, none⟩) 3 gMarks], .cons (rv_tmp (look_to rfl (by simp))) .nil, ⟨rfl, rfl⟩, ?_⟩
      dsimp only
      simp only [List.map_append, List.flatMap_append, List.map_cons, List.map_nil, List.flatMap_cons, List.flatMap_nil]
      exact permI _ _ _ _ _ _ _ _ _
    · refine ok_build1 sv (some ⟨b3, 0, none⟩, (xs ++ gMarks).length, (xs ++ gMarks).length + 3) rfl rfl rfl rfl rfl (el_of rfl) (ze_of rfl) rfl (sz_of rfl) rfl ?_
      intro b4
      refine ⟨any0, ?_⟩
      refine wa_one 4 rfl (by kernel_rfl) ?_
      refine ok_ld rfl rfl rfl rfl rfl (ag_of rfl) ?_
      refine ld_blk 5 rfl (ag_of rfl) rfl ?_
      refine ⟨any0, ?_⟩
      refine wa_one 8 rfl (by kernel_rfl) ?_
      refine ok_append 7 sv (ys := [(some ⟨b3, 0, none⟩, (xs ++ gMarks).length, (xs ++ gMarks).length + 3)]) rfl rfl rfl rfl rfl rfl rfl (el_of rfl) (ze_of rfl) rfl (sz_of rfl) (by_of rfl) ⟨_, rfl⟩ (fun w hst => osl_reads (hst.at_ 0 rfl)) (fun _ => rfl) (by simp; omega) (by simp; omega) ?_
      intro J' j'
      refine ⟨any0, ?_⟩
      (first | refine ga1 9 (by exact rfl) (by exact rfl) ?_ | refine ga2 9 (by exact rfl) (by exact rfl) ?_ | refine ga3 9 (by exact rfl) (by exact rfl) ?_ | refine ga4 9 (by exact rfl) (by exact rfl) ?_)
      (first | refine ga1 10 (by exact rfl) (by exact rfl) ?_ | refine ga2 10 (by exact rfl) (by exact rfl) ?_ | refine ga3 10 (by exact rfl) (by exact rfl) ?_ | refine ga4 10 (by exact rfl) (by exact rfl) ?_)
      refine wa_one 11 rfl (by kernel_rfl) ?_
      refine ok_store 5 rfl rfl rfl rfl rfl rfl rfl rfl (sz_of rfl) rfl ?_
      refine ⟨any0, ?_⟩
      refine wa_done (by kernel_rfl) ?_
      (repeat (first | with_reducible refine thenQ_normal ?_ | with_reducible refine thenQ_exit ?_ | with_reducible refine thenQ_ret ?_ | with_reducible refine blkQ_normal ?_ | with_reducible refine blkQ_ret ?_ | with_reducible refine blkQ_hit ?_ | (with_reducible refine blkQ_miss ?_ ?_; · rfl) | refine wc_seq ?_ | refine wc_skip ?_ | refine wc_block ?_ | refine wc_true rfl ?_ | refine wc_false rfl ?_ | refine wc_exit ?_ | refine wc_ret ?_ | (refine wc_region ?_; repeat (first | refine gp1 (by exact rfl) ?_ | refine gl1 (by exact rfl) ?_ | refine gb1 (by exact rfl) ?_ | refine gi1 (by exact rfl) ?_ | refine gt1 (by exact rfl) ?_)) | refine wl_nil ?_ | refine wq_nil ?_ | refine gp1 (by exact rfl) ?_ | refine gl1 (by exact rfl) ?_ | refine gb1 (by exact rfl) ?_ | refine gi1 (by exact rfl) ?_ | refine gt1 (by exact rfl) ?_ | refine gp2 (by exact rfl) ?_ | refine gl2 (by exact rfl) ?_ | refine gb2 (by exact rfl) ?_ | refine gi2 (by exact rfl) ?_))
      refine wl_v rfl rfl rfl (val_pre rfl rfl rfl (fun w hst => osl_reads (hst.at_ 4 rfl)) (el_of rfl) (sz_of rfl) (by omega) (by omega)) ?_
      (repeat (first | with_reducible refine thenQ_normal ?_ | with_reducible refine thenQ_exit ?_ | with_reducible refine thenQ_ret ?_ | with_reducible refine blkQ_normal ?_ | with_reducible refine blkQ_ret ?_ | with_reducible refine blkQ_hit ?_ | (with_reducible refine blkQ_miss ?_ ?_; · rfl) | refine wc_seq ?_ | refine wc_skip ?_ | refine wc_block ?_ | refine wc_true rfl ?_ | refine wc_false rfl ?_ | refine wc_exit ?_ | refine wc_ret ?_ | (refine wc_region ?_; repeat (first | refine gp1 (by exact rfl) ?_ | refine gl1 (by exact rfl) ?_ | refine gb1 (by exact rfl) ?_ | refine gi1 (by exact rfl) ?_ | refine gt1 (by exact rfl) ?_)) | refine wl_nil ?_ | refine wq_nil ?_ | refine gp1 (by exact rfl) ?_ | refine gl1 (by exact rfl) ?_ | refine gb1 (by exact rfl) ?_ | refine gi1 (by exact rfl) ?_ | refine gt1 (by exact rfl) ?_ | refine gp2 (by exact rfl) ?_ | refine gl2 (by exact rfl) ?_ | refine gb2 (by exact rfl) ?_ | refine gi2 (by exact rfl) ?_))
      refine ⟨(⟨I', i', J', j', es ++ [⟨A1, c1, some ⟨b3, 0, none⟩, (xs ++ gMarks).length + 3, xs ++ gMarks⟩]⟩, ⟨A1, c1, some ⟨b3, 0, none⟩, (xs ++ gMarks).length + 3, xs ++ gMarks⟩), [osl TIs sv (some ⟨b4, 0, none⟩) 1 [(some ⟨b3, 0, none⟩, (xs ++ gMarks).length, (xs ++ gMarks).length + 3)], osl TIs sv (some ⟨b2, 0, none⟩) 1 [(A1, (xs ++ gMarks).length, c1)], osl TI vi (some ⟨b1, 0, none⟩) 3 gMarks], .cons (rv_tmp (look_to rfl (by simp))) .nil, ⟨rfl, rfl⟩, ?_⟩
      dsimp only
      simp only [List.map_append, List.flatMap_append, List.map_cons, List.map_nil, List.flatMap_cons, List.flatMap_nil]
      exact permI _ _ _ _ _ _ _ _ _
theorem givenPattern2_c {p : Pat} {A B : Option Addr} {c d g : Nat} (x : GS) (w : World) (hA : RdO vi w ((Giv g x).flatMap Res.fp) A c p.start) (hB : RdO vi w ((Giv g x).flatMap Res.fp) B d p.cols) (hl : p.start.length ≤ 17592186043904) (hl2 : p.cols.length ≤ 17592186043904) (he : x.es.length ≤ 5864062013000) (hw : Own (Giv g x) w) :
    Calls Try.prog 14 [.pointer (some ⟨g, 0, none⟩), patV p A c B d].toArray w (Ret (Giv g x) (fun y : GS × GE × GE => patV p y.2.1.A y.2.1.c y.2.2.A y.2.2.c) (fun y => Giv g y.1) (fun y => y.1.es = x.es ++ [y.2.1, y.2.2] ∧ y.2.1.xs = p.start ++ gMarks ∧ y.2.2.xs = p.cols ++ gMarks) w) := by
  unfold patV
  refine calls_wc ((Giv g x).flatMap Res.fp) (Giv g x) [.cell 4 TP] (fun y : GS × GE × GE => [.agg (patC p y.2.1.A y.2.1.c y.2.2.A y.2.2.c).toArray]) Try.func14 rfl rfl (fun _ => rfl) Try.ntmps14 rfl hw rfl ?_
  (repeat (first | with_reducible refine thenQ_normal ?_ | with_reducible refine thenQ_exit ?_ | with_reducible refine thenQ_ret ?_ | with_reducible refine blkQ_normal ?_ | with_reducible refine blkQ_ret ?_ | with_reducible refine blkQ_hit ?_ | (with_reducible refine blkQ_miss ?_ ?_; · rfl) | refine wc_seq ?_ | refine wc_skip ?_ | refine wc_block ?_ | refine wc_true rfl ?_ | refine wc_false rfl ?_ | refine wc_exit ?_ | refine wc_ret ?_ | (refine wc_region ?_; repeat (first | refine gp1 (by exact rfl) ?_ | refine gl1 (by exact rfl) ?_ | refine gb1 (by exact rfl) ?_ | refine gi1 (by exact rfl) ?_ | refine gt1 (by exact rfl) ?_)) | refine wl_nil ?_ | refine wq_nil ?_ | refine gp1 (by exact rfl) ?_ | refine gl1 (by exact rfl) ?_ | refine gb1 (by exact rfl) ?_ | refine gi1 (by exact rfl) ?_ | refine gt1 (by exact rfl) ?_ | refine gp2 (by exact rfl) ?_ | refine gl2 (by exact rfl) ?_ | refine gb2 (by exact rfl) ?_ | refine gi2 (by exact rfl) ?_))
  refine wl_op (ok_box rfl rfl rfl rfl rfl ?_); intro bp
  refine wl_op (ok_alloc rfl rfl rfl rfl (ze_of rfl) ?_); intro rb
  (repeat (first | with_reducible refine thenQ_normal ?_ | with_reducible refine thenQ_exit ?_ | with_reducible refine thenQ_ret ?_ | with_reducible refine blkQ_normal ?_ | with_reducible refine blkQ_ret ?_ | with_reducible refine blkQ_hit ?_ | (with_reducible refine blkQ_miss ?_ ?_; · rfl) | refine wc_seq ?_ | refine wc_skip ?_ | refine wc_block ?_ | refine wc_true rfl ?_ | refine wc_false rfl ?_ | refine wc_exit ?_ | refine wc_ret ?_ | (refine wc_region ?_; repeat (first | refine gp1 (by exact rfl) ?_ | refine gl1 (by exact rfl) ?_ | refine gb1 (by exact rfl) ?_ | refine gi1 (by exact rfl) ?_ | refine gt1 (by exact rfl) ?_)) | refine wl_nil ?_ | refine wq_nil ?_ | refine gp1 (by exact rfl) ?_ | refine gl1 (by exact rfl) ?_ | refine gb1 (by exact rfl) ?_ | refine gi1 (by exact rfl) ?_ | refine gt1 (by exact rfl) ?_ | refine gp2 (by exact rfl) ?_ | refine gl2 (by exact rfl) ?_ | refine gb2 (by exact rfl) ?_ | refine gi2 (by exact rfl) ?_))
  refine wc_perm (σ' := (blk rb [vi 0, vi 0, nilS, nilS] TP :: Giv g x) ++ [blk bp (patC p A c B d) TP]) ?_ ?_
  · exact (List.Perm.cons _ (List.perm_append_singleton _ _))
  refine wa_beginS _ _ rfl mixed ?_
  (first | refine ga1 0 (by exact rfl) (by exact rfl) ?_ | refine ga2 0 (by exact rfl) (by exact rfl) ?_ | refine ga3 0 (by exact rfl) (by exact rfl) ?_ | refine ga4 0 (by exact rfl) (by exact rfl) ?_)
  (first | refine ga1 1 (by exact rfl) (by exact rfl) ?_ | refine ga2 1 (by exact rfl) (by exact rfl) ?_ | refine ga3 1 (by exact rfl) (by exact rfl) ?_ | refine ga4 1 (by exact rfl) (by exact rfl) ?_)
  (first | refine ga1 2 (by exact rfl) (by exact rfl) ?_ | refine ga2 2 (by exact rfl) (by exact rfl) ?_ | refine ga3 2 (by exact rfl) (by exact rfl) ?_ | refine ga4 2 (by exact rfl) (by exact rfl) ?_)
  (first | refine ga1 3 (by exact rfl) (by exact rfl) ?_ | refine ga2 3 (by exact rfl) (by exact rfl) ?_ | refine ga3 3 (by exact rfl) (by exact rfl) ?_ | refine ga4 3 (by exact rfl) (by exact rfl) ?_)
  (first | refine ga1 4 (by exact rfl) (by exact rfl) ?_ | refine ga2 4 (by exact rfl) (by exact rfl) ?_ | refine ga3 4 (by exact rfl) (by exact rfl) ?_ | refine ga4 4 (by exact rfl) (by exact rfl) ?_)
  (first | refine ga1 5 (by exact rfl) (by exact rfl) ?_ | refine ga2 5 (by exact rfl) (by exact rfl) ?_ | refine ga3 5 (by exact rfl) (by exact rfl) ?_ | refine ga4 5 (by exact rfl) (by exact rfl) ?_)
  (first | refine ga1 6 (by exact rfl) (by exact rfl) ?_ | refine ga2 6 (by exact rfl) (by exact rfl) ?_ | refine ga3 6 (by exact rfl) (by exact rfl) ?_ | refine ga4 6 (by exact rfl) (by exact rfl) ?_)
  (first | refine ga1 8 (by exact rfl) (by exact rfl) ?_ | refine ga2 8 (by exact rfl) (by exact rfl) ?_ | refine ga3 8 (by exact rfl) (by exact rfl) ?_ | refine ga4 8 (by exact rfl) (by exact rfl) ?_)
  (first | refine ga1 9 (by exact rfl) (by exact rfl) ?_ | refine ga2 9 (by exact rfl) (by exact rfl) ?_ | refine ga3 9 (by exact rfl) (by exact rfl) ?_ | refine ga4 9 (by exact rfl) (by exact rfl) ?_)
  (first | refine ga1 10 (by exact rfl) (by exact rfl) ?_ | refine ga2 10 (by exact rfl) (by exact rfl) ?_ | refine ga3 10 (by exact rfl) (by exact rfl) ?_ | refine ga4 10 (by exact rfl) (by exact rfl) ?_)
  refine wa_one 7 rfl (by kernel_rfl) ?_
  refine ok_call (Giv g x) [blk rb [vi 0, vi 0, nilS, nilS] TP, blk bp (patC p A c B d) TP] rfl (by rfl) (bod_of rfl) (by rfl) (by rfl) (by rfl) (permA _ _ _) (fun w hst => ints2_c x w (hA.later (St.keep (hst.perm (permA _ _ _)))) hl (by omega) (hst.perm (permA _ _ _)).ownl) ?_
  rintro ⟨y, e1⟩ ⟨hy1, hy2⟩
  dsimp only at hy1 hy2 ⊢
  refine ⟨⟨Giv g y ++ [blk rb [vi 0, vi 0, nilS, nilS] TP], by simp⟩, ?_⟩
  refine wa_perm (permA _ _ _).symm ?_
  refine wa_one 11 rfl (by kernel_rfl) ?_
  refine ok_call (Giv g y) [blk rb [vi 0, vi 0, nilS, nilS] TP, blk bp (patC p A c B d) TP] rfl (by rfl) (bod_of rfl) (by rfl) (by rfl) (by rfl) (permA _ _ _) (fun w hst => ints2_c y w (hB.later (St.keep (hst.perm (permA _ _ _)))) hl2 (by rw [hy1, List.length_append, List.length_singleton]; omega) (hst.perm (permA _ _ _)).ownl) ?_
  rintro ⟨z, e2⟩ ⟨hz1, hz2⟩
  dsimp only at hz1 hz2 ⊢
  refine ⟨⟨Giv g z ++ [blk rb [vi 0, vi 0, nilS, nilS] TP], by simp⟩, ?_⟩
  refine wa_perm (permA _ _ _).symm ?_
  refine wa_v 12 _ rfl (by kernel_rfl) rfl rfl rfl rfl (val_build (ps := [(0, vi p.rows), (1, vi p.width), (2, .slice e1.A p.start.length e1.c), (3, .slice e2.A p.cols.length e2.c)]) (cells := patC p e1.A e1.c e2.A e2.c) rfl rfl (by kernel_rfl)) ?_
  refine wa_one 13 rfl (by kernel_rfl) ?_
  refine ok_store 0 rfl rfl rfl rfl rfl rfl rfl rfl (sz_of rfl) rfl ?_
  refine ⟨⟨_ :: Giv g z, rfl⟩, ?_⟩
  refine wa_done (by kernel_rfl) ?_
  (repeat (first | with_reducible refine thenQ_normal ?_ | with_reducible refine thenQ_exit ?_ | with_reducible refine thenQ_ret ?_ | with_reducible refine blkQ_normal ?_ | with_reducible refine blkQ_ret ?_ | with_reducible refine blkQ_hit ?_ | (with_reducible refine blkQ_miss ?_ ?_; · rfl) | refine wc_seq ?_ | refine wc_skip ?_ | refine wc_block ?_ | refine wc_true rfl ?_ | refine wc_false rfl ?_ | refine wc_exit ?_ | refine wc_ret ?_ | (refine wc_region ?_; repeat (first | refine gp1 (by exact rfl) ?_ | refine gl1 (by exact rfl) ?_ | refine gb1 (by exact rfl) ?_ | refine gi1 (by exact rfl) ?_ | refine gt1 (by exact rfl) ?_)) | refine wl_nil ?_ | refine wq_nil ?_ | refine gp1 (by exact rfl) ?_ | refine gl1 (by exact rfl) ?_ | refine gb1 (by exact rfl) ?_ | refine gi1 (by exact rfl) ?_ | refine gt1 (by exact rfl) ?_ | refine gp2 (by exact rfl) ?_ | refine gl2 (by exact rfl) ?_ | refine gb2 (by exact rfl) ?_ | refine gi2 (by exact rfl) ?_))
  refine ⟨(z, e1, e2), [blk rb (patC p e1.A e1.c e2.A e2.c) TP, blk bp (patC p A c B d) TP], .cons (rv_agg 0 rfl rfl (ag_of rfl) (sz_of rfl) rfl rfl) .nil, ⟨?_, hy2, hz2⟩, permA _ _ _⟩
  dsimp only
  rw [hz1, hy1, List.append_assoc]
  rfl
theorem copyPattern_c {p : Pat} {x : PA} (w : World) (hp : RdP w x p) (hl : p.start.length ≤ 17592186043904) (hl2 : p.cols.length ≤ 17592186043904) :
    Calls Try.prog 81 [pvl x p].toArray w (Ret [] (fun y : PA => pvl y p) (fun y => PatR y p) (fun _ => True) w) := by
  have op := hp.old
  unfold pvl patV
  refine calls_wc [] [] [.cell 2 TP] (fun y : PA => [pvl y p]) Try.func81 rfl rfl (fun _ => rfl) Try.ntmps81 rfl (Own.nil w) rfl ?_
  (repeat (first | with_reducible refine thenQ_normal ?_ | with_reducible refine thenQ_exit ?_ | with_reducible refine thenQ_ret ?_ | with_reducible refine blkQ_normal ?_ | with_reducible refine blkQ_ret ?_ | with_reducible refine blkQ_hit ?_ | (with_reducible refine blkQ_miss ?_ ?_; · rfl) | refine wc_seq ?_ | refine wc_skip ?_ | refine wc_block ?_ | refine wc_true rfl ?_ | refine wc_false rfl ?_ | refine wc_exit ?_ | refine wc_ret ?_ | (refine wc_region ?_; repeat (first | refine gp1 (by exact rfl) ?_ | refine gl1 (by exact rfl) ?_ | refine gb1 (by exact rfl) ?_ | refine gi1 (by exact rfl) ?_ | refine gt1 (by exact rfl) ?_)) | refine wl_nil ?_ | refine wq_nil ?_ | refine gp1 (by exact rfl) ?_ | refine gl1 (by exact rfl) ?_ | refine gb1 (by exact rfl) ?_ | refine gi1 (by exact rfl) ?_ | refine gt1 (by exact rfl) ?_ | refine gp2 (by exact rfl) ?_ | refine gl2 (by exact rfl) ?_ | refine gb2 (by exact rfl) ?_ | refine gi2 (by exact rfl) ?_))
  refine wl_op (ok_box rfl rfl rfl rfl rfl ?_); intro bp
  refine wl_op (ok_alloc rfl rfl rfl rfl (ze_of rfl) ?_); intro rb
  (repeat (first | with_reducible refine thenQ_normal ?_ | with_reducible refine thenQ_exit ?_ | with_reducible refine thenQ_ret ?_ | with_reducible refine blkQ_normal ?_ | with_reducible refine blkQ_ret ?_ | with_reducible refine blkQ_hit ?_ | (with_reducible refine blkQ_miss ?_ ?_; · rfl) | refine wc_seq ?_ | refine wc_skip ?_ | refine wc_block ?_ | refine wc_true rfl ?_ | refine wc_false rfl ?_ | refine wc_exit ?_ | refine wc_ret ?_ | (refine wc_region ?_; repeat (first | refine gp1 (by exact rfl) ?_ | refine gl1 (by exact rfl) ?_ | refine gb1 (by exact rfl) ?_ | refine gi1 (by exact rfl) ?_ | refine gt1 (by exact rfl) ?_)) | refine wl_nil ?_ | refine wq_nil ?_ | refine gp1 (by exact rfl) ?_ | refine gl1 (by exact rfl) ?_ | refine gb1 (by exact rfl) ?_ | refine gi1 (by exact rfl) ?_ | refine gt1 (by exact rfl) ?_ | refine gp2 (by exact rfl) ?_ | refine gl2 (by exact rfl) ?_ | refine gb2 (by exact rfl) ?_ | refine gi2 (by exact rfl) ?_))
  refine gwa [blk rb pat0 TP] ?_
  (repeat (first | refine gk1 ?_ | refine gk2 ?_ | refine gk3 ?_ | refine gk0 ?_ | refine gk4 ?_))
  (first | refine ga1 0 (by exact rfl) (by exact rfl) ?_ | refine ga2 0 (by exact rfl) (by exact rfl) ?_ | refine ga3 0 (by exact rfl) (by exact rfl) ?_ | refine ga4 0 (by exact rfl) (by exact rfl) ?_)
  (first | refine ga1 1 (by exact rfl) (by exact rfl) ?_ | refine ga2 1 (by exact rfl) (by exact rfl) ?_ | refine ga3 1 (by exact rfl) (by exact rfl) ?_ | refine ga4 1 (by exact rfl) (by exact rfl) ?_)
  (first | refine ga1 2 (by exact rfl) (by exact rfl) ?_ | refine ga2 2 (by exact rfl) (by exact rfl) ?_ | refine ga3 2 (by exact rfl) (by exact rfl) ?_ | refine ga4 2 (by exact rfl) (by exact rfl) ?_)
  (first | refine ga1 3 (by exact rfl) (by exact rfl) ?_ | refine ga2 3 (by exact rfl) (by exact rfl) ?_ | refine ga3 3 (by exact rfl) (by exact rfl) ?_ | refine ga4 3 (by exact rfl) (by exact rfl) ?_)
  (first | refine ga1 4 (by exact rfl) (by exact rfl) ?_ | refine ga2 4 (by exact rfl) (by exact rfl) ?_ | refine ga3 4 (by exact rfl) (by exact rfl) ?_ | refine ga4 4 (by exact rfl) (by exact rfl) ?_)
  (first | refine ga1 5 (by exact rfl) (by exact rfl) ?_ | refine ga2 5 (by exact rfl) (by exact rfl) ?_ | refine ga3 5 (by exact rfl) (by exact rfl) ?_ | refine ga4 5 (by exact rfl) (by exact rfl) ?_)
  (first | refine ga1 7 (by exact rfl) (by exact rfl) ?_ | refine ga2 7 (by exact rfl) (by exact rfl) ?_ | refine ga3 7 (by exact rfl) (by exact rfl) ?_ | refine ga4 7 (by exact rfl) (by exact rfl) ?_)
  (first | refine ga1 8 (by exact rfl) (by exact rfl) ?_ | refine ga2 8 (by exact rfl) (by exact rfl) ?_ | refine ga3 8 (by exact rfl) (by exact rfl) ?_ | refine ga4 8 (by exact rfl) (by exact rfl) ?_)
  refine gaOne 6 rfl ?_
  refine gc0 [] (fun w hst hst1 => copyInts_c w (op.s.now hst) (by omega)) (by exact rfl) ?_
  (repeat (first | refine gk1 ?_ | refine gk2 ?_ | refine gk3 ?_ | refine gk0 ?_ | refine gk4 ?_))
  rintro b1 _
  dsimp only [List.cons_append, List.nil_append]
  refine ⟨by (repeat (first | exact Suf.refl | exact Suf.nil | exact Suf.app _ _ | apply Suf.cons)), ?_⟩
  refine gaOne 9 rfl ?_
  refine gc0 [] (fun w hst hst1 => copyInts_c w (op.c.now hst) (by omega)) (by exact rfl) ?_
  (repeat (first | refine gk1 ?_ | refine gk2 ?_ | refine gk3 ?_ | refine gk0 ?_ | refine gk4 ?_))
  rintro b2 _
  dsimp only [List.cons_append, List.nil_append]
  refine ⟨by (repeat (first | exact Suf.refl | exact Suf.nil | exact Suf.app _ _ | apply Suf.cons)), ?_⟩
  refine wa_v 10 [_, _, _] rfl (by kernel_rfl) rfl rfl rfl rfl (val_build (ps := [(0, vi p.rows), (1, vi p.width), (2, .slice (some ⟨b1, 0, none⟩) p.start.length (p.start.length + 3)), (3, .slice (some ⟨b2, 0, none⟩) p.cols.length (p.cols.length + 3))]) (cells := pcs ⟨some ⟨b1, 0, none⟩, p.start.length + 3, some ⟨b2, 0, none⟩, p.cols.length + 3⟩ p) rfl rfl (by kernel_rfl)) ?_
  refine gaOne 11 rfl ?_
  refine gt0 (by exact rfl) ?_
  refine ⟨by (repeat (first | exact Suf.refl | exact Suf.nil | exact Suf.app _ _ | apply Suf.cons)), ?_⟩
  refine gaDone ?_
  (repeat (first | with_reducible refine thenQ_normal ?_ | with_reducible refine thenQ_exit ?_ | with_reducible refine thenQ_ret ?_ | with_reducible refine blkQ_normal ?_ | with_reducible refine blkQ_ret ?_ | with_reducible refine blkQ_hit ?_ | (with_reducible refine blkQ_miss ?_ ?_; · rfl) | refine wc_seq ?_ | refine wc_skip ?_ | refine wc_block ?_ | refine wc_true rfl ?_ | refine wc_false rfl ?_ | refine wc_exit ?_ | refine wc_ret ?_ | (refine wc_region ?_; repeat (first | refine gp1 (by exact rfl) ?_ | refine gl1 (by exact rfl) ?_ | refine gb1 (by exact rfl) ?_ | refine gi1 (by exact rfl) ?_ | refine gt1 (by exact rfl) ?_)) | refine wl_nil ?_ | refine wq_nil ?_ | refine gp1 (by exact rfl) ?_ | refine gl1 (by exact rfl) ?_ | refine gb1 (by exact rfl) ?_ | refine gi1 (by exact rfl) ?_ | refine gt1 (by exact rfl) ?_ | refine gp2 (by exact rfl) ?_ | refine gl2 (by exact rfl) ?_ | refine gb2 (by exact rfl) ?_ | refine gi2 (by exact rfl) ?_))
  exact grt (⟨some ⟨b1, 0, none⟩, p.start.length + 3, some ⟨b2, 0, none⟩, p.cols.length + 3⟩ : PA) trivial
abbrev TPss : TypeId := 34
abbrev GS.nil : GS := ⟨none, 0, none, 0, []⟩
abbrev mkP (k : Int) : PA × Pat := (PA.nil, ⟨k, 0, [], []⟩)
def mks : LP := [mkP (-41), mkP (-42), mkP (-43)]
abbrev gvC2 (I : Option Addr) (n i : Nat) (J : Option Addr) (m j : Nat) (u v : Value) : List Value := [nilS, nilS, nilS, nilS, .slice I n i, .slice J m j, nilS, nilS, nilS, nilS, nilS, nilS, nilS, nilS, nilS, nilS, u, v, nilS, nilS]
structure GP where
  x : GS
  U : Option Addr
  u : Nat
  V : Option Addr
  v : Nat
  K : Option Addr
  k : Nat
  L : Option Addr
  m : Nat
  dl : LP
  dm : LP
def FP (l : LP) : List Res := l.flatMap fun z => PatR z.1 z.2
def GivP (g : Nat) (y : GP) : List Res :=
  blk g (gvC2 y.x.I (y.x.es.map GE.a).length y.x.i y.x.J (y.x.es.map GE.b).length y.x.j (.slice y.U 1 y.u) (.slice y.V 1 y.v)) TG :: osl TIs sv y.x.I y.x.i (y.x.es.map GE.a) :: osl TIs sv y.x.J y.x.j (y.x.es.map GE.b) :: osl TPs sv y.U y.u [(y.K, (y.dl ++ mks).length, y.k)] :: osl TPs sv y.V y.v [(y.L, y.dm.length, y.m)] :: oslP y.K y.k (y.dl ++ mks) :: oslP y.L y.m y.dm :: (y.x.es.flatMap GE.res ++ FP y.dm)
def From (es : List GE) (z : PA × Pat) : Prop := ∃ e1 ∈ es, ∃ e2 ∈ es, z.1 = ⟨e1.A, e1.c, e2.A, e2.c⟩ ∧ e1.xs = z.2.start ++ gMarks ∧ e2.xs = z.2.cols ++ gMarks
theorem From.more {es es' : List GE} {z : PA × Pat} (h : From es z) : From (es ++ es') z := by
  obtain ⟨e1, h1, e2, h2, h3⟩ := h
  exact ⟨e1, List.mem_append_left _ h1, e2, List.mem_append_left _ h2, h3⟩
structure GPS where
  i : Nat
  x : GS
  dl : LP
  dm : LP
structure PInv (l : LP) (s : GPS) : Prop where
  i : s.i ≤ l.length
  dl : s.dl.map Prod.snd = (l.take s.i).map Prod.snd
  dm : s.dm.map Prod.snd = (l.take s.i).map Prod.snd
  es : s.x.es.length = 2 * s.i
  from_ : ∀ z ∈ s.dl, From s.x.es z
theorem PInv.len1 {l : LP} {s : GPS} (h : PInv l s) : s.dl.length = s.i := by
  have := congrArg List.length h.dl
  have := h.i
  simp only [List.length_map, List.length_take] at *
  omega
theorem PInv.len2 {l : LP} {s : GPS} (h : PInv l s) : s.dm.length = s.i := by
  have := congrArg List.length h.dm
  have := h.i
  simp only [List.length_map, List.length_take] at *
  omega
theorem PInv.next {l : LP} {i : Nat} {x z : GS} {dl dm : LP} (h : PInv l ⟨i, x, dl, dm⟩) (hi : i < l.length) {e1 e2 : GE} (hz : z.es = x.es ++ [e1, e2]) (h1 : e1.xs = (gt l (i : Int)).2.start ++ gMarks) (h2 : e2.xs = (gt l (i : Int)).2.cols ++ gMarks) (y : PA) :
    PInv l ⟨i + 1, z, dl ++ [(⟨e1.A, e1.c, e2.A, e2.c⟩, (gt l (i : Int)).2)], dm ++ [(y, (gt l (i : Int)).2)]⟩ := by
  have hg : gt l (i : Int) = l[i] := by rw [gt_elem (by omega) (by omega)]; simp
  have ht : l.take (i + 1) = l.take i ++ [l[i]] := List.take_succ_eq_append_getElem hi
  have hdl := h.dl
  have hdm := h.dm
  have hes := h.es
  have hfr := h.from_
  dsimp only at hdl hdm hes hfr
  refine ⟨hi, ?_, ?_, ?_, ?_⟩
  · dsimp only
    rw [ht, List.map_append, List.map_append, hdl, hg]
    rfl
  · dsimp only
    rw [ht, List.map_append, List.map_append, hdm, hg]
    rfl
  · dsimp only
    rw [hz, List.length_append, hes]
    simp only [List.length_cons, List.length_nil]
    omega
  · intro w hw
    dsimp only at hw ⊢
    rw [hz]
    rcases List.mem_append.1 hw with hw | hw
    · exact (hfr w hw).more
    · obtain rfl := List.mem_singleton.1 hw
      exact ⟨e1, by simp, e2, by simp, rfl, h1, h2⟩
theorem set_app (d : LP) (i n : Nat) (hd : d.length = i) (hi : i < n) (v : PA × Pat) : (d ++ List.replicate (n - i) lp0).set i v = (d ++ [v]) ++ List.replicate (n - (i + 1)) lp0 := by
  obtain ⟨m, hm⟩ : ∃ m, n - i = m + 1 := ⟨n - i - 1, by omega⟩
  rw [List.set_append, if_neg (by omega), hd, Nat.sub_self, hm, List.replicate_succ, List.set_cons_zero, show n - (i + 1) = m by omega]
  simp
theorem permP {α : Type _} (a b : α) (G F : List α) : (G ++ (a :: b :: F)).Perm (a :: b :: (G ++ F)) := by
  classical
  refine List.perm_iff_count.2 fun x => ?_
  simp only [List.count_cons, List.count_append]
  ac_rfl
theorem permP2 {α : Type _} (a b c d : α) (G F : List α) : ((a :: b :: (G ++ (F ++ [c, d]))) ++ []).Perm (c :: d :: a :: b :: (G ++ F)) := by
  classical
  refine List.perm_iff_count.2 fun x => ?_
  simp only [List.count_cons, List.count_append, List.count_nil]
  ac_rfl
theorem permQ {α : Type _} (a b c d e f g h i j : α) (R : List α) : ((a :: b :: c :: d :: e :: f :: g :: R) ++ [h, i, j]).Perm (h :: e :: i :: d :: j :: f :: g :: a :: b :: c :: R) := by
  classical
  refine List.perm_iff_count.2 fun x => ?_
  simp only [List.count_cons, List.count_append, List.count_nil]
  ac_rfl
section
variable {P : Program} {n : Nat} {w0 : World} {D : List Nat} {ops : Array Oper} {os : List Oper} {Q : QQ} {Γ : Tm} {σ σ' : List Res}
theorem wl_perm (hp : σ'.Perm σ) (h : WL P n w0 D ops os Q Γ σ') : WL P n w0 D ops os Q Γ σ := .mk fun a w hs hst => h.run a w hs (hst.perm hp)
end
section
variable {A : Option Addr} {c g : Nat} {l : LP}
theorem patterns_c (w : World) (ol : RdPsO w ((Giv g GS.nil).flatMap Res.fp) A c l) (hlen : l.length ≤ 2199023255488) (hsm : ∀ x ∈ l, x.2.start.length ≤ 17592186043904 ∧ x.2.cols.length ≤ 17592186043904) (hw : Own (Giv g GS.nil) w) :
    Calls Try.prog 28 [.pointer (some ⟨g, 0, none⟩), .slice A l.length c].toArray w (Ret (Giv g GS.nil) (fun y : GP => .slice y.K l.length y.k) (fun y => GivP g y) (fun y => y.dl.map Prod.snd = l.map Prod.snd ∧ y.dm.map Prod.snd = l.map Prod.snd ∧ y.x.es.length = 2 * l.length ∧ ∀ z ∈ y.dl, From y.x.es z) w) := by
  have hl := ol w (Only.refl _ _)
  have hcap := hl.cap
  have hmx := hl.max
  refine calls_wc ((Giv g GS.nil).flatMap Res.fp) (Giv g GS.nil) [.tmp 4] (fun y : GP => [.slice y.K l.length y.k]) Try.func28 rfl rfl (fun _ => rfl) Try.ntmps28 rfl hw rfl ?_
  (repeat (first | with_reducible refine thenQ_normal ?_ | with_reducible refine thenQ_exit ?_ | with_reducible refine thenQ_ret ?_ | with_reducible refine blkQ_normal ?_ | with_reducible refine blkQ_ret ?_ | with_reducible refine blkQ_hit ?_ | (with_reducible refine blkQ_miss ?_ ?_; · rfl) | refine wc_seq ?_ | refine wc_skip ?_ | refine wc_block ?_ | refine wc_true rfl ?_ | refine wc_false rfl ?_ | refine wc_exit ?_ | refine wc_ret ?_ | (refine wc_region ?_; repeat (first | refine gp1 (by exact rfl) ?_ | refine gl1 (by exact rfl) ?_ | refine gb1 (by exact rfl) ?_ | refine gi1 (by exact rfl) ?_ | refine gt1 (by exact rfl) ?_)) | refine wl_nil ?_ | refine wq_nil ?_ | refine gp1 (by exact rfl) ?_ | refine gl1 (by exact rfl) ?_ | refine gb1 (by exact rfl) ?_ | refine gi1 (by exact rfl) ?_ | refine gt1 (by exact rfl) ?_ | refine gp2 (by exact rfl) ?_ | refine gl2 (by exact rfl) ?_ | refine gb2 (by exact rfl) ?_ | refine gi2 (by exact rfl) ?_))
  refine wl_op (ok_makeP rfl rfl rfl rfl rfl rfl (by omega) (by omega) (by omega) ?_)
  intro c0
  (repeat (first | with_reducible refine thenQ_normal ?_ | with_reducible refine thenQ_exit ?_ | with_reducible refine thenQ_ret ?_ | with_reducible refine blkQ_normal ?_ | with_reducible refine blkQ_ret ?_ | with_reducible refine blkQ_hit ?_ | (with_reducible refine blkQ_miss ?_ ?_; · rfl) | refine wc_seq ?_ | refine wc_skip ?_ | refine wc_block ?_ | refine wc_true rfl ?_ | refine wc_false rfl ?_ | refine wc_exit ?_ | refine wc_ret ?_ | (refine wc_region ?_; repeat (first | refine gp1 (by exact rfl) ?_ | refine gl1 (by exact rfl) ?_ | refine gb1 (by exact rfl) ?_ | refine gi1 (by exact rfl) ?_ | refine gt1 (by exact rfl) ?_)) | refine wl_nil ?_ | refine wq_nil ?_ | refine gp1 (by exact rfl) ?_ | refine gl1 (by exact rfl) ?_ | refine gb1 (by exact rfl) ?_ | refine gi1 (by exact rfl) ?_ | refine gt1 (by exact rfl) ?_ | refine gp2 (by exact rfl) ?_ | refine gl2 (by exact rfl) ?_ | refine gb2 (by exact rfl) ?_ | refine gi2 (by exact rfl) ?_))
  refine wl_op (ok_makeP rfl rfl rfl rfl rfl rfl (by omega) (by omega) (by omega) ?_)
  intro c1
  rw [show ((l.length : Int)).toNat = l.length by omega, show ((l.length : Int) + 3).toNat = l.length + 3 by omega]
  (repeat (first | with_reducible refine thenQ_normal ?_ | with_reducible refine thenQ_exit ?_ | with_reducible refine thenQ_ret ?_ | with_reducible refine blkQ_normal ?_ | with_reducible refine blkQ_ret ?_ | with_reducible refine blkQ_hit ?_ | (with_reducible refine blkQ_miss ?_ ?_; · rfl) | refine wc_seq ?_ | refine wc_skip ?_ | refine wc_block ?_ | refine wc_true rfl ?_ | refine wc_false rfl ?_ | refine wc_exit ?_ | refine wc_ret ?_ | (refine wc_region ?_; repeat (first | refine gp1 (by exact rfl) ?_ | refine gl1 (by exact rfl) ?_ | refine gb1 (by exact rfl) ?_ | refine gi1 (by exact rfl) ?_ | refine gt1 (by exact rfl) ?_)) | refine wl_nil ?_ | refine wq_nil ?_ | refine gp1 (by exact rfl) ?_ | refine gl1 (by exact rfl) ?_ | refine gb1 (by exact rfl) ?_ | refine gi1 (by exact rfl) ?_ | refine gt1 (by exact rfl) ?_ | refine gp2 (by exact rfl) ?_ | refine gl2 (by exact rfl) ?_ | refine gb2 (by exact rfl) ?_ | refine gi2 (by exact rfl) ?_))
  refine glp (PInv l) (fun s => [(0, .pointer (some ⟨g, 0, none⟩)), (1, .slice A l.length c), (5, .slice (some ⟨c0, 0, none⟩) l.length (l.length + 3)), (6, .slice (some ⟨c1, 0, none⟩) l.length l.length), (7, vi s.i)])
    (fun s => oslP (some ⟨c0, 0, none⟩) (l.length + 3) (s.dl ++ List.replicate (l.length - s.i) lp0) :: oslP (some ⟨c1, 0, none⟩) l.length (s.dm ++ List.replicate (l.length - s.i) lp0) :: (Giv g s.x ++ FP s.dm)) (fun s => l.length - s.i) ⟨0, GS.nil, [], []⟩ ⟨by simp, by simp, by simp, by simp, by simp⟩ ?_ (hM := ⟨[], by
      simp only [List.nil_append, FP, List.flatMap_nil, List.append_nil, Nat.sub_zero]
      exact List.Perm.swap _ _ _⟩)
  rintro ⟨i, x, dl, dm⟩ hI
  have hi0 := hI.i
  have hd1 := hI.len1
  have hd2 := hI.len2
  have hes := hI.es
  dsimp only at hi0 hd1 hd2 hes ⊢
  by_cases hi : i < l.length
  · have hpos : 0 < l.length := by omega
    obtain ⟨ad, rfl⟩ := hl.ad hpos
    have hmem := gt_mem (xs := l) (i := (i : Int)) (by omega) (by omega)
    have oP := ol.pat hmem
    obtain ⟨sm1, sm2⟩ := hsm _ hmem
    (repeat (first | with_reducible refine thenQ_normal ?_ | with_reducible refine thenQ_exit ?_ | with_reducible refine thenQ_ret ?_ | with_reducible refine blkQ_normal ?_ | with_reducible refine blkQ_ret ?_ | with_reducible refine blkQ_hit ?_ | (with_reducible refine blkQ_miss ?_ ?_; · rfl) | refine wc_seq ?_ | refine wc_skip ?_ | refine wc_block ?_ | refine wc_true rfl ?_ | refine wc_false rfl ?_ | refine wc_exit ?_ | refine wc_ret ?_ | (refine wc_region ?_; repeat (first | refine gp1 (by exact rfl) ?_ | refine gl1 (by exact rfl) ?_ | refine gb1 (by exact rfl) ?_ | refine gi1 (by exact rfl) ?_ | refine gt1 (by exact rfl) ?_)) | refine wl_nil ?_ | refine wq_nil ?_ | refine gp1 (by exact rfl) ?_ | refine gl1 (by exact rfl) ?_ | refine gb1 (by exact rfl) ?_ | refine gi1 (by exact rfl) ?_ | refine gt1 (by exact rfl) ?_ | refine gp2 (by exact rfl) ?_ | refine gl2 (by exact rfl) ?_ | refine gb2 (by exact rfl) ?_ | refine gi2 (by exact rfl) ?_))
    refine wl_v rfl rfl rfl (val_ldP ol (i := (i : Int)) (by omega) (by omega) rfl rfl) ?_
    refine gc3 (Giv g x) (fun w hst hst1 => givenPattern2_c (p := (gt l (i : Int)).2) (A := (gt l (i : Int)).1.A) (c := (gt l (i : Int)).1.c) (B := (gt l (i : Int)).1.B) (d := (gt l (i : Int)).1.d) x w (oP.s.later hst1) (oP.c.later hst1) sm1 sm2 (by omega) hst1.own) (by exact rfl) ⟨_, permP _ _ _ _, ?_⟩
    rintro ⟨z, e1, e2⟩ ⟨hz1, hz2, hz3⟩
    dsimp only at hz1 hz2 hz3 ⊢
    refine wl_perm (permP _ _ _ _).symm ?_
    have hI' := fun y => hI.next hi hz1 hz2 hz3 y
    (repeat (first | with_reducible refine thenQ_normal ?_ | with_reducible refine thenQ_exit ?_ | with_reducible refine thenQ_ret ?_ | with_reducible refine blkQ_normal ?_ | with_reducible refine blkQ_ret ?_ | with_reducible refine blkQ_hit ?_ | (with_reducible refine blkQ_miss ?_ ?_; · rfl) | refine wc_seq ?_ | refine wc_skip ?_ | refine wc_block ?_ | refine wc_true rfl ?_ | refine wc_false rfl ?_ | refine wc_exit ?_ | refine wc_ret ?_ | (refine wc_region ?_; repeat (first | refine gp1 (by exact rfl) ?_ | refine gl1 (by exact rfl) ?_ | refine gb1 (by exact rfl) ?_ | refine gi1 (by exact rfl) ?_ | refine gt1 (by exact rfl) ?_)) | refine wl_nil ?_ | refine wq_nil ?_ | refine gp1 (by exact rfl) ?_ | refine gl1 (by exact rfl) ?_ | refine gb1 (by exact rfl) ?_ | refine gi1 (by exact rfl) ?_ | refine gt1 (by exact rfl) ?_ | refine gp2 (by exact rfl) ?_ | refine gl2 (by exact rfl) ?_ | refine gb2 (by exact rfl) ?_ | refine gi2 (by exact rfl) ?_))
    refine wl_op (ok_storeP 0 (l := dl ++ List.replicate (l.length - i) lp0) (j := (i : Int)) (v := (⟨e1.A, e1.c, e2.A, e2.c⟩, (gt l (i : Int)).2)) rfl rfl rfl rfl rfl rfl (by omega) (by simp; omega) ?_)
    rw [show ((i : Int)).toNat = i by omega, set_app dl i l.length hd1 hi]
    dsimp only [List.set_cons_zero, List.set_cons_succ]
    (repeat (first | with_reducible refine thenQ_normal ?_ | with_reducible refine thenQ_exit ?_ | with_reducible refine thenQ_ret ?_ | with_reducible refine blkQ_normal ?_ | with_reducible refine blkQ_ret ?_ | with_reducible refine blkQ_hit ?_ | (with_reducible refine blkQ_miss ?_ ?_; · rfl) | refine wc_seq ?_ | refine wc_skip ?_ | refine wc_block ?_ | refine wc_true rfl ?_ | refine wc_false rfl ?_ | refine wc_exit ?_ | refine wc_ret ?_ | (refine wc_region ?_; repeat (first | refine gp1 (by exact rfl) ?_ | refine gl1 (by exact rfl) ?_ | refine gb1 (by exact rfl) ?_ | refine gi1 (by exact rfl) ?_ | refine gt1 (by exact rfl) ?_)) | refine wl_nil ?_ | refine wq_nil ?_ | refine gp1 (by exact rfl) ?_ | refine gl1 (by exact rfl) ?_ | refine gb1 (by exact rfl) ?_ | refine gi1 (by exact rfl) ?_ | refine gt1 (by exact rfl) ?_ | refine gp2 (by exact rfl) ?_ | refine gl2 (by exact rfl) ?_ | refine gb2 (by exact rfl) ?_ | refine gi2 (by exact rfl) ?_))
    refine wl_v rfl rfl rfl (val_ldP ol (i := (i : Int)) (by omega) (by omega) rfl rfl) ?_
    refine gc3 [] (fun w hst hst1 => copyPattern_c (p := (gt l (i : Int)).2) (x := (gt l (i : Int)).1) w (oP.now hst) sm1 sm2) (by exact rfl) ?_
    (repeat (first | refine gk1 ?_ | refine gk2 ?_ | refine gk3 ?_ | refine gk0 ?_ | refine gk4 ?_))
    rintro y _
    dsimp only [List.cons_append, List.nil_append]
    (repeat (first | with_reducible refine thenQ_normal ?_ | with_reducible refine thenQ_exit ?_ | with_reducible refine thenQ_ret ?_ | with_reducible refine blkQ_normal ?_ | with_reducible refine blkQ_ret ?_ | with_reducible refine blkQ_hit ?_ | (with_reducible refine blkQ_miss ?_ ?_; · rfl) | refine wc_seq ?_ | refine wc_skip ?_ | refine wc_block ?_ | refine wc_true rfl ?_ | refine wc_false rfl ?_ | refine wc_exit ?_ | refine wc_ret ?_ | (refine wc_region ?_; repeat (first | refine gp1 (by exact rfl) ?_ | refine gl1 (by exact rfl) ?_ | refine gb1 (by exact rfl) ?_ | refine gi1 (by exact rfl) ?_ | refine gt1 (by exact rfl) ?_)) | refine wl_nil ?_ | refine wq_nil ?_ | refine gp1 (by exact rfl) ?_ | refine gl1 (by exact rfl) ?_ | refine gb1 (by exact rfl) ?_ | refine gi1 (by exact rfl) ?_ | refine gt1 (by exact rfl) ?_ | refine gp2 (by exact rfl) ?_ | refine gl2 (by exact rfl) ?_ | refine gb2 (by exact rfl) ?_ | refine gi2 (by exact rfl) ?_))
    refine wl_op (ok_storeP 3 (l := dm ++ List.replicate (l.length - i) lp0) (j := (i : Int)) (v := (y, (gt l (i : Int)).2)) rfl rfl rfl rfl rfl rfl (by omega) (by simp; omega) ?_)
    rw [show ((i : Int)).toNat = i by omega, set_app dm i l.length hd2 hi]
    dsimp only [List.set_cons_zero, List.set_cons_succ]
    (repeat (first | with_reducible refine thenQ_normal ?_ | with_reducible refine thenQ_exit ?_ | with_reducible refine thenQ_ret ?_ | with_reducible refine blkQ_normal ?_ | with_reducible refine blkQ_ret ?_ | with_reducible refine blkQ_hit ?_ | (with_reducible refine blkQ_miss ?_ ?_; · rfl) | refine wc_seq ?_ | refine wc_skip ?_ | refine wc_block ?_ | refine wc_true rfl ?_ | refine wc_false rfl ?_ | refine wc_exit ?_ | refine wc_ret ?_ | (refine wc_region ?_; repeat (first | refine gp1 (by exact rfl) ?_ | refine gl1 (by exact rfl) ?_ | refine gb1 (by exact rfl) ?_ | refine gi1 (by exact rfl) ?_ | refine gt1 (by exact rfl) ?_)) | refine wl_nil ?_ | refine wq_nil ?_ | refine gp1 (by exact rfl) ?_ | refine gl1 (by exact rfl) ?_ | refine gb1 (by exact rfl) ?_ | refine gi1 (by exact rfl) ?_ | refine gt1 (by exact rfl) ?_ | refine gp2 (by exact rfl) ?_ | refine gl2 (by exact rfl) ?_ | refine gb2 (by exact rfl) ?_ | refine gi2 (by exact rfl) ?_))
    exact gnx (⟨i + 1, z, _, _⟩ : GPS) (hI' y) (by dsimp only; omega) (h2 := ⟨[], by
      dsimp only
      rw [show FP (dm ++ [(y, (gt l (i : Int)).2)]) = FP dm ++ PatR y (gt l (i : Int)).2 by simp [FP]]
      exact permP2 _ _ _ _ _ _⟩)
  · obtain rfl : i = l.length := by omega
    rw [Nat.sub_self, List.replicate_zero, List.append_nil, List.append_nil]
    have hG : Giv g x = blk g (gvC x.I (x.es.map GE.a).length x.i x.J (x.es.map GE.b).length x.j) TG :: osl TIs sv x.I x.i (x.es.map GE.a) :: osl TIs sv x.J x.j (x.es.map GE.b) :: x.es.flatMap GE.res := rfl
    rw [hG]
    simp only [List.cons_append]
    (repeat (first | with_reducible refine thenQ_normal ?_ | with_reducible refine thenQ_exit ?_ | with_reducible refine thenQ_ret ?_ | with_reducible refine blkQ_normal ?_ | with_reducible refine blkQ_ret ?_ | with_reducible refine blkQ_hit ?_ | (with_reducible refine blkQ_miss ?_ ?_; · rfl) | refine wc_seq ?_ | refine wc_skip ?_ | refine wc_block ?_ | refine wc_true rfl ?_ | refine wc_false rfl ?_ | refine wc_exit ?_ | refine wc_ret ?_ | (refine wc_region ?_; repeat (first | refine gp1 (by exact rfl) ?_ | refine gl1 (by exact rfl) ?_ | refine gb1 (by exact rfl) ?_ | refine gi1 (by exact rfl) ?_ | refine gt1 (by exact rfl) ?_)) | refine wl_nil ?_ | refine wq_nil ?_ | refine gp1 (by exact rfl) ?_ | refine gl1 (by exact rfl) ?_ | refine gb1 (by exact rfl) ?_ | refine gi1 (by exact rfl) ?_ | refine gt1 (by exact rfl) ?_ | refine gp2 (by exact rfl) ?_ | refine gl2 (by exact rfl) ?_ | refine gb2 (by exact rfl) ?_ | refine gi2 (by exact rfl) ?_))
    refine wl_v rfl rfl rfl (val_build (ps := [(0, vi (-41))]) (cells := pcs (mkP (-41)).1 (mkP (-41)).2) rfl rfl (by kernel_rfl)) ?_
    refine wl_v rfl rfl rfl (val_build (ps := [(0, vi (-42))]) (cells := pcs (mkP (-42)).1 (mkP (-42)).2) rfl rfl (by kernel_rfl)) ?_
    refine wl_v rfl rfl rfl (val_build (ps := [(0, vi (-43))]) (cells := pcs (mkP (-43)).1 (mkP (-43)).2) rfl rfl (by kernel_rfl)) ?_
    refine gbp mks (ps := [(0, .agg (pcs (mkP (-41)).1 (mkP (-41)).2).toArray), (1, .agg (pcs (mkP (-42)).1 (mkP (-42)).2).toArray), (2, .agg (pcs (mkP (-43)).1 (mkP (-43)).2).toArray)]) rfl rfl rfl rfl rfl rfl (by simp) (by simp) (by kernel_rfl) ?_
    intro mb
    refine wl_op (ok_appendP 1 (l := dl) (m := mks) rfl (by rw [hd1]; rfl) rfl rfl .here rfl rfl rfl (by rw [hd1]; simp [mks]; omega) ?_)
    intro K k
    dsimp only [List.set_cons_zero, List.set_cons_succ]
    refine wl_know (φ := (dl ++ mks).length ≤ k) (fun w hst => oslP_cap (hst.at_ 1 rfl)) ?_
    intro hk
    (repeat (first | with_reducible refine thenQ_normal ?_ | with_reducible refine thenQ_exit ?_ | with_reducible refine thenQ_ret ?_ | with_reducible refine blkQ_normal ?_ | with_reducible refine blkQ_ret ?_ | with_reducible refine blkQ_hit ?_ | (with_reducible refine blkQ_miss ?_ ?_; · rfl) | refine wc_seq ?_ | refine wc_skip ?_ | refine wc_block ?_ | refine wc_true rfl ?_ | refine wc_false rfl ?_ | refine wc_exit ?_ | refine wc_ret ?_ | (refine wc_region ?_; repeat (first | refine gp1 (by exact rfl) ?_ | refine gl1 (by exact rfl) ?_ | refine gb1 (by exact rfl) ?_ | refine gi1 (by exact rfl) ?_ | refine gt1 (by exact rfl) ?_)) | refine wl_nil ?_ | refine wq_nil ?_ | refine gp1 (by exact rfl) ?_ | refine gl1 (by exact rfl) ?_ | refine gb1 (by exact rfl) ?_ | refine gi1 (by exact rfl) ?_ | refine gt1 (by exact rfl) ?_ | refine gp2 (by exact rfl) ?_ | refine gl2 (by exact rfl) ?_ | refine gb2 (by exact rfl) ?_ | refine gi2 (by exact rfl) ?_))
    refine wl_none TPs sv ?_
    refine wl_op (ok_build1 sv (K, (dl ++ mks).length, k) rfl rfl rfl rfl rfl (el_of rfl) (ze_of rfl) rfl (sz_of rfl) rfl ?_)
    intro b2
    refine wl_op (ok_append 1 sv (ys := [(K, (dl ++ mks).length, k)]) rfl rfl rfl rfl rfl rfl rfl (el_of rfl) (ze_of rfl) rfl (sz_of rfl) (by_of rfl) ⟨_, rfl⟩ (fun w hst => osl_reads (hst.at_ 0 rfl)) (fun _ => rfl) (by simp) (by simp) ?_)
    intro U u
    dsimp only [List.set_cons_zero, List.set_cons_succ, List.nil_append]
    (repeat (first | with_reducible refine thenQ_normal ?_ | with_reducible refine thenQ_exit ?_ | with_reducible refine thenQ_ret ?_ | with_reducible refine blkQ_normal ?_ | with_reducible refine blkQ_ret ?_ | with_reducible refine blkQ_hit ?_ | (with_reducible refine blkQ_miss ?_ ?_; · rfl) | refine wc_seq ?_ | refine wc_skip ?_ | refine wc_block ?_ | refine wc_true rfl ?_ | refine wc_false rfl ?_ | refine wc_exit ?_ | refine wc_ret ?_ | (refine wc_region ?_; repeat (first | refine gp1 (by exact rfl) ?_ | refine gl1 (by exact rfl) ?_ | refine gb1 (by exact rfl) ?_ | refine gi1 (by exact rfl) ?_ | refine gt1 (by exact rfl) ?_)) | refine wl_nil ?_ | refine wq_nil ?_ | refine gp1 (by exact rfl) ?_ | refine gl1 (by exact rfl) ?_ | refine gb1 (by exact rfl) ?_ | refine gi1 (by exact rfl) ?_ | refine gt1 (by exact rfl) ?_ | refine gp2 (by exact rfl) ?_ | refine gl2 (by exact rfl) ?_ | refine gb2 (by exact rfl) ?_ | refine gi2 (by exact rfl) ?_))
    refine wl_none TPs sv ?_
    refine wl_op (ok_build1 sv (some ⟨c1, 0, none⟩, dm.length, l.length) rfl (by rw [hd2]; rfl) rfl rfl rfl (el_of rfl) (ze_of rfl) rfl (sz_of rfl) rfl ?_)
    intro b3
    refine wl_op (ok_append 1 sv (ys := [(some ⟨c1, 0, none⟩, dm.length, l.length)]) rfl rfl rfl rfl rfl rfl rfl (el_of rfl) (ze_of rfl) rfl (sz_of rfl) (by_of rfl) ⟨_, rfl⟩ (fun w hst => osl_reads (hst.at_ 0 rfl)) (fun _ => rfl) (by simp) (by simp) ?_)
    intro V v
    dsimp only [List.set_cons_zero, List.set_cons_succ, List.nil_append]
    (repeat (first | with_reducible refine thenQ_normal ?_ | with_reducible refine thenQ_exit ?_ | with_reducible refine thenQ_ret ?_ | with_reducible refine blkQ_normal ?_ | with_reducible refine blkQ_ret ?_ | with_reducible refine blkQ_hit ?_ | (with_reducible refine blkQ_miss ?_ ?_; · rfl) | refine wc_seq ?_ | refine wc_skip ?_ | refine wc_block ?_ | refine wc_true rfl ?_ | refine wc_false rfl ?_ | refine wc_exit ?_ | refine wc_ret ?_ | (refine wc_region ?_; repeat (first | refine gp1 (by exact rfl) ?_ | refine gl1 (by exact rfl) ?_ | refine gb1 (by exact rfl) ?_ | refine gi1 (by exact rfl) ?_ | refine gt1 (by exact rfl) ?_)) | refine wl_nil ?_ | refine wq_nil ?_ | refine gp1 (by exact rfl) ?_ | refine gl1 (by exact rfl) ?_ | refine gb1 (by exact rfl) ?_ | refine gi1 (by exact rfl) ?_ | refine gt1 (by exact rfl) ?_ | refine gp2 (by exact rfl) ?_ | refine gl2 (by exact rfl) ?_ | refine gb2 (by exact rfl) ?_ | refine gi2 (by exact rfl) ?_))
    refine wl_v rfl rfl rfl (val_preP (m := (dl ++ mks).length) rfl rfl rfl hk (by omega) (by rw [List.length_append, hd1]; omega)) ?_
    rw [show ((l.length : Int)).toNat = l.length by omega]
    (repeat (first | with_reducible refine thenQ_normal ?_ | with_reducible refine thenQ_exit ?_ | with_reducible refine thenQ_ret ?_ | with_reducible refine blkQ_normal ?_ | with_reducible refine blkQ_ret ?_ | with_reducible refine blkQ_hit ?_ | (with_reducible refine blkQ_miss ?_ ?_; · rfl) | refine wc_seq ?_ | refine wc_skip ?_ | refine wc_block ?_ | refine wc_true rfl ?_ | refine wc_false rfl ?_ | refine wc_exit ?_ | refine wc_ret ?_ | (refine wc_region ?_; repeat (first | refine gp1 (by exact rfl) ?_ | refine gl1 (by exact rfl) ?_ | refine gb1 (by exact rfl) ?_ | refine gi1 (by exact rfl) ?_ | refine gt1 (by exact rfl) ?_)) | refine wl_nil ?_ | refine wq_nil ?_ | refine gp1 (by exact rfl) ?_ | refine gl1 (by exact rfl) ?_ | refine gb1 (by exact rfl) ?_ | refine gi1 (by exact rfl) ?_ | refine gt1 (by exact rfl) ?_ | refine gp2 (by exact rfl) ?_ | refine gl2 (by exact rfl) ?_ | refine gb2 (by exact rfl) ?_ | refine gi2 (by exact rfl) ?_))
    exact grt (⟨x, U, u, V, v, K, k, some ⟨c1, 0, none⟩, l.length, dl, dm⟩ : GP) ⟨by simpa using hI.dl, by simpa using hI.dm, hes, hI.from_⟩ (h3 := ⟨_, permQ _ _ _ _ _ _ _ _ _ _ _⟩)
end
section
variable {n : Nat} {w0 : World} {D : List Nat} {Γ : Tm} {σ : List Res} {ops : Array Oper} {o : Oper} {A : Option Addr} {c : Nat} {l : LP} {i : Int} {x y : Operand}
theorem oslP_at {w : World} (h : (oslP A c l).ok w) {i : Int} (h0 : 0 ≤ i) (h1 : i < l.length) {f : Nat} {v : Value} (hv : (pcs (gt l i).1 (gt l i).2)[f]? = some v) : w.cell? ((elA A 4 i).add f) = some v := by
  have h0' : w.ownsRow 0 TP 4 (.slice A l.length c) l.length (lpC l) := h
  rcases h0'.2 with ⟨h2, h3⟩ | ⟨g, cap, cur, h2, _, h4, h5, h6, h7, h8⟩
  · omega
  · injection h2 with e1 e2 e3
    subst e1 e3
    have hlt : i.toNat < l.length := by omega
    have hf : f < 4 := (List.getElem?_eq_some_iff.1 hv).1
    have := lpC_get l i.toNat hlt f v (by rw [gt_elem h0 h1] at hv; exact hv)
    rw [← h8, List.getElem?_take, if_pos (by omega)] at this
    unfold elA
    simp only [Option.getD_some]
    rw [add_own, add_own]
    simp only [World.cell?, h4, Nat.zero_add]
    simpa using this
theorem val_ldQ (hr : HasR σ (oslP A c l)) (h0 : 0 ≤ i) (h1 : i < l.length) (hop : o.op = .load TP x) (hx : ev Γ x = some (.pointer (some (elA A 4 i)))) : ValOK Try.prog w0 D σ Γ o (.agg (pcs (gt l i).1 (gt l i).2).toArray) :=
  ⟨fun w hst g hg => by
    have hc : (loadCells (elA A 4 i) (pcs (gt l i).1 (gt l i).2).length).run Try.prog w = .ok (pcs (gt l i).1 (gt l i).2).toArray w := run_loadCells_list _ _ _ (fun j v hj => oslP_at (hr.st hst) h0 h1 hj)
    rw [show (pcs (gt l i).1 (gt l i).2).length = 4 by rfl] at hc
    simp [execOp, hop, hg _ _ hx, Instr.loadAt, Instr.sureAddr, loadVar, run_isAgg (ag_of (t := TP) (b := true) rfl), run_sizeOf' (sz_of (t := TP) (k := 4) rfl), hc, Result.andThen]⟩
theorem val_lfQ {f : Nat} {v : Value} {t : TypeId} (hr : HasR σ (oslP A c l)) (h0 : 0 ≤ i) (h1 : i < l.length) (hop : o.op = .load t x) (hx : ev Γ x = some (.pointer (some ((elA A 4 i).add f)))) (ht : lookN agT t = some false) (hv : (pcs (gt l i).1 (gt l i).2)[f]? = some v) : ValOK Try.prog w0 D σ Γ o v :=
  ⟨fun w hst g hg => by simp [execOp, hop, hg _ _ hx, Instr.loadAt, Instr.sureAddr, loadVar, run_isAgg (ag_of ht), oslP_at (hr.st hst) h0 h1 hv, Result.andThen]⟩
theorem oslP_ad {w : World} (h : (oslP A c l).ok w) (hl : 0 < l.length) : ∃ ad, A = some ad := by
  have h0' : w.ownsRow 0 TP 4 (.slice A l.length c) l.length (lpC l) := h
  rcases h0'.2 with ⟨h2, h3⟩ | ⟨g, cap, cur, h2, _⟩
  · omega
  · injection h2 with e1 e2 e3
    exact ⟨_, e1⟩
end
def GivQ (g : Nat) (y : GP) (us vs : List SV) : List Res :=
  blk g (gvC2 y.x.I (y.x.es.map GE.a).length y.x.i y.x.J (y.x.es.map GE.b).length y.x.j (.slice y.U 1 y.u) (.slice y.V 1 y.v)) TG :: osl TIs sv y.x.I y.x.i (y.x.es.map GE.a) :: osl TIs sv y.x.J y.x.j (y.x.es.map GE.b) :: osl TPs sv y.U y.u us :: osl TPs sv y.V y.v vs :: oslP y.K y.k (y.dl ++ mks) :: oslP y.L y.m y.dm :: (y.x.es.flatMap GE.res ++ FP y.dm)
theorem GivQ.mem {g : Nat} {y : GP} {us vs : List SV} {e : GE} (h : e ∈ y.x.es) : osl TI vi e.A e.c e.xs ∈ GivQ g y us vs ∧ osl TI vi e.B e.d e.xs ∈ GivQ g y us vs := by
  unfold GivQ
  constructor <;>
    exact List.mem_cons_of_mem _ (List.mem_cons_of_mem _ (List.mem_cons_of_mem _ (List.mem_cons_of_mem _ (List.mem_cons_of_mem _ (List.mem_cons_of_mem _ (List.mem_cons_of_mem _ (List.mem_append_left _ (List.mem_flatMap.2 ⟨e, h, by simp⟩))))))))
theorem GivQ.memP {g : Nat} {y : GP} {us vs : List SV} {z : PA × Pat} (h : z ∈ y.dm) {r : Res} (hr : r ∈ PatR z.1 z.2) : r ∈ GivQ g y us vs := by
  unfold GivQ
  exact List.mem_cons_of_mem _ (List.mem_cons_of_mem _ (List.mem_cons_of_mem _ (List.mem_cons_of_mem _ (List.mem_cons_of_mem _ (List.mem_cons_of_mem _ (List.mem_cons_of_mem _ (List.mem_append_right _ (List.mem_flatMap.2 ⟨z, h, hr⟩))))))))
section
variable {g : Nat} {y : GP} {us vs : List SV} {w0 w : World} {D : List Nat} {τ : List Res}
theorem GivQ.rd1 (hst : St w0 D (GivQ g y us vs ++ τ) w) {z : PA × Pat} (h : From y.x.es z) : RdP w z.1 z.2 := by
  obtain ⟨e1, h1, e2, h2, e, x1, x2⟩ := h
  have m1 := hst.ok _ (List.mem_append_left _ (GivQ.mem (g := g) h1).1)
  have m2 := hst.ok _ (List.mem_append_left _ (GivQ.mem (g := g) h2).1)
  rw [x1] at m1
  rw [x2] at m2
  rw [e]
  exact ⟨(osl_reads m1).pre, (osl_reads m2).pre⟩
theorem GivQ.rd2 (hst : St w0 D (GivQ g y us vs ++ τ) w) {z : PA × Pat} (h : z ∈ y.dm) : RdP w z.1 z.2 :=
  ⟨osl_reads (hst.ok _ (List.mem_append_left _ (GivQ.memP (g := g) h (r := osl TI vi z.1.A z.1.c z.2.start) (by simp)))), osl_reads (hst.ok _ (List.mem_append_left _ (GivQ.memP (g := g) h (r := osl TI vi z.1.B z.1.d z.2.cols) (by simp))))⟩
end
structure GPok (y : GP) : Prop where
  eq_ : y.dl.map Prod.snd = y.dm.map Prod.snd
  es : y.x.es.length ≤ 5864062014000
  len : y.dl.length ≤ 2199023255488
  from_ : ∀ z ∈ y.dl, From y.x.es z
theorem GPok.len2 {y : GP} (h : GPok y) : y.dl.length = y.dm.length := by
  have := congrArg List.length h.eq_
  simpa using this
theorem gt_appL {α : Type} [Inhabited α] {l m : List α} {i : Int} (h0 : 0 ≤ i) (h1 : i < l.length) : gt (l ++ m) i = gt l i := by
  rw [gt_elem h0 (by rw [List.length_append]; omega), gt_elem h0 h1, List.getElem_append_left]
theorem mks_at {l : LP} {i : Int} (h0 : (l.length : Int) ≤ i) (h1 : i < l.length + 3) : (gt (l ++ mks) i).2.rows = -41 - (i - l.length) := by
  have hlen : (l ++ mks).length = l.length + 3 := by simp [mks]
  rw [gt_elem (by omega) (by omega), List.getElem_append_right (by omega)]
  have : i = l.length ∨ i = l.length + 1 ∨ i = l.length + 2 := by omega
  rcases this with rfl | rfl | rfl
  · have e : ((l.length : Int)).toNat - l.length = 0 := by omega
    simp only [e]; show (-41 : Int) = _; omega
  · have e : ((l.length : Int) + 1).toNat - l.length = 1 := by omega
    simp only [e]; show (-42 : Int) = _; omega
  · have e : ((l.length : Int) + 2).toNat - l.length = 2 := by omega
    simp only [e]; show (-43 : Int) = _; omega
theorem whole3_c {g : Nat} (y : GP) (us vs : List SV) (hus : us = [(y.K, (y.dl ++ mks).length, y.k)]) (hvs : vs = [(y.L, y.dm.length, y.m)]) (w : World) (hy : GPok y) (hw : Own (GivQ g y us vs) w) :
    Calls Try.prog 55 [.pointer (some ⟨g, 0, none⟩)].toArray w (Ret (GivQ g y us vs) (fun _ : Unit => .bool true) (fun _ => GivQ g y us vs) (fun _ => True) w) := by
  have hn := hy.len2
  have hln := hy.len
  have hml : (y.dl ++ mks).length = y.dl.length + 3 := by simp [mks]
  have hul : us.length = 1 := by rw [hus]; rfl
  have hvl : vs.length = 1 := by rw [hvs]; rfl
  have hu0 : ∀ k : Nat, k = 0 → gt us (k : Int) = (y.K, (y.dl ++ mks).length, y.k) := fun k hk => by subst hk; rw [hus]; rfl
  have hv0 : ∀ k : Nat, k = 0 → gt vs (k : Int) = (y.L, y.dm.length, y.m) := fun k hk => by subst hk; rw [hvs]; rfl
  refine calls_wc ((GivQ g y us vs).flatMap Res.fp) (GivQ g y us vs) [.tmp 2] (fun _ : Unit => [.bool true]) Try.func55 rfl rfl (fun _ => rfl) Try.ntmps55 rfl hw rfl ?_
  refine wc_know (φ := ∃ ad, y.K = some ad) (fun w hst => oslP_ad (hst.at_ 5 rfl) (by rw [hml]; omega)) ?_
  rintro ⟨ka, hka⟩
  refine wc_know (φ := 0 < y.dm.length → ∃ ad, y.L = some ad) (fun w hst => oslP_ad (hst.at_ 6 rfl)) ?_
  intro hla
  have hr1 : HasR (GivQ g y us vs) (oslP y.K y.k (y.dl ++ mks)) := .there (.there (.there (.there (.there .here))))
  have hr2 : HasR (GivQ g y us vs) (oslP y.L y.m y.dm) := .there (.there (.there (.there (.there (.there .here)))))
  rw [hka] at hr1
  (repeat (first | with_reducible refine thenQ_normal ?_ | with_reducible refine thenQ_exit ?_ | with_reducible refine thenQ_ret ?_ | with_reducible refine blkQ_normal ?_ | with_reducible refine blkQ_ret ?_ | with_reducible refine blkQ_hit ?_ | (with_reducible refine blkQ_miss ?_ ?_; · rfl) | refine wc_seq ?_ | refine wc_skip ?_ | refine wc_block ?_ | refine wc_true rfl ?_ | refine wc_false rfl ?_ | refine wc_exit ?_ | refine wc_ret ?_ | (refine wc_region ?_; repeat (first | refine gp1 (by exact rfl) ?_ | refine gl1 (by exact rfl) ?_ | refine gb1 (by exact rfl) ?_ | refine gi1 (by exact rfl) ?_ | refine gt1 (by exact rfl) ?_)) | refine wl_nil ?_ | refine wq_nil ?_ | refine gp1 (by exact rfl) ?_ | refine gl1 (by exact rfl) ?_ | refine gb1 (by exact rfl) ?_ | refine gi1 (by exact rfl) ?_ | refine gt1 (by exact rfl) ?_ | refine gp2 (by exact rfl) ?_ | refine gl2 (by exact rfl) ?_ | refine gb2 (by exact rfl) ?_ | refine gi2 (by exact rfl) ?_))
  refine wc_loop (fun _ : Unit => True) (fun _ => [(0, .pointer (some ⟨g, 0, none⟩)), (3, vi 0)]) (fun _ => GivQ g y us vs) (fun _ => 0) () trivial (.cons rfl (.cons rfl .nil)) rfl ?_
  intro _ _
  (repeat (first | with_reducible refine thenQ_normal ?_ | with_reducible refine thenQ_exit ?_ | with_reducible refine thenQ_ret ?_ | with_reducible refine blkQ_normal ?_ | with_reducible refine blkQ_ret ?_ | with_reducible refine blkQ_hit ?_ | (with_reducible refine blkQ_miss ?_ ?_; · rfl) | refine wc_seq ?_ | refine wc_skip ?_ | refine wc_block ?_ | refine wc_true rfl ?_ | refine wc_false rfl ?_ | refine wc_exit ?_ | refine wc_ret ?_ | (refine wc_region ?_; repeat (first | refine gp1 (by exact rfl) ?_ | refine gl1 (by exact rfl) ?_ | refine gb1 (by exact rfl) ?_ | refine gi1 (by exact rfl) ?_ | refine gt1 (by exact rfl) ?_)) | refine wl_nil ?_ | refine wq_nil ?_ | refine gp1 (by exact rfl) ?_ | refine gl1 (by exact rfl) ?_ | refine gb1 (by exact rfl) ?_ | refine gi1 (by exact rfl) ?_ | refine gt1 (by exact rfl) ?_ | refine gp2 (by exact rfl) ?_ | refine gl2 (by exact rfl) ?_ | refine gb2 (by exact rfl) ?_ | refine gi2 (by exact rfl) ?_))
  refine wc_loop (fun _ : Unit => True) (fun _ => [(0, .pointer (some ⟨g, 0, none⟩)), (4, vi 0)]) (fun _ => GivQ g y us vs) (fun _ => 0) () trivial (.cons rfl (.cons rfl .nil)) rfl ?_
  intro _ _
  (repeat (first | with_reducible refine thenQ_normal ?_ | with_reducible refine thenQ_exit ?_ | with_reducible refine thenQ_ret ?_ | with_reducible refine blkQ_normal ?_ | with_reducible refine blkQ_ret ?_ | with_reducible refine blkQ_hit ?_ | (with_reducible refine blkQ_miss ?_ ?_; · rfl) | refine wc_seq ?_ | refine wc_skip ?_ | refine wc_block ?_ | refine wc_true rfl ?_ | refine wc_false rfl ?_ | refine wc_exit ?_ | refine wc_ret ?_ | (refine wc_region ?_; repeat (first | refine gp1 (by exact rfl) ?_ | refine gl1 (by exact rfl) ?_ | refine gb1 (by exact rfl) ?_ | refine gi1 (by exact rfl) ?_ | refine gt1 (by exact rfl) ?_)) | refine wl_nil ?_ | refine wq_nil ?_ | refine gp1 (by exact rfl) ?_ | refine gl1 (by exact rfl) ?_ | refine gb1 (by exact rfl) ?_ | refine gi1 (by exact rfl) ?_ | refine gt1 (by exact rfl) ?_ | refine gp2 (by exact rfl) ?_ | refine gl2 (by exact rfl) ?_ | refine gb2 (by exact rfl) ?_ | refine gi2 (by exact rfl) ?_))
  refine wc_loop (fun k : Nat => k ≤ 1) (fun k => [(0, .pointer (some ⟨g, 0, none⟩)), (5, vi k)]) (fun _ => GivQ g y us vs) (fun k => 1 - k) 0 (by omega) (.cons rfl (.cons rfl .nil)) rfl ?_
  intro k hk
  by_cases hk0 : k = 0
  · (repeat (first | with_reducible refine thenQ_normal ?_ | with_reducible refine thenQ_exit ?_ | with_reducible refine thenQ_ret ?_ | with_reducible refine blkQ_normal ?_ | with_reducible refine blkQ_ret ?_ | with_reducible refine blkQ_hit ?_ | (with_reducible refine blkQ_miss ?_ ?_; · rfl) | refine wc_seq ?_ | refine wc_skip ?_ | refine wc_block ?_ | refine wc_true rfl ?_ | refine wc_false rfl ?_ | refine wc_exit ?_ | refine wc_ret ?_ | (refine wc_region ?_; repeat (first | refine gp1 (by exact rfl) ?_ | refine gl1 (by exact rfl) ?_ | refine gb1 (by exact rfl) ?_ | refine gi1 (by exact rfl) ?_ | refine gt1 (by exact rfl) ?_)) | refine wl_nil ?_ | refine wq_nil ?_ | refine gp1 (by exact rfl) ?_ | refine gl1 (by exact rfl) ?_ | refine gb1 (by exact rfl) ?_ | refine gi1 (by exact rfl) ?_ | refine gt1 (by exact rfl) ?_ | refine gp2 (by exact rfl) ?_ | refine gl2 (by exact rfl) ?_ | refine gb2 (by exact rfl) ?_ | refine gi2 (by exact rfl) ?_))
    rw [hv0 k hk0]
    refine wc_loop (fun j : Int => 0 ≤ j ∧ j ≤ y.dm.length) (fun j => [(0, .pointer (some ⟨g, 0, none⟩)), (5, vi k), (6, vi y.dm.length), (7, vi j)]) (fun _ => GivQ g y us vs) (fun j => (y.dm.length - j).toNat) 0 ⟨by omega, by omega⟩ (.cons rfl (.cons rfl (.cons rfl (.cons rfl .nil)))) rfl ?_
    rintro j ⟨hj0, hj1⟩
    by_cases hj : j < y.dm.length
    · obtain ⟨la, hla⟩ := hla (by omega)
      (repeat (first | with_reducible refine thenQ_normal ?_ | with_reducible refine thenQ_exit ?_ | with_reducible refine thenQ_ret ?_ | with_reducible refine blkQ_normal ?_ | with_reducible refine blkQ_ret ?_ | with_reducible refine blkQ_hit ?_ | (with_reducible refine blkQ_miss ?_ ?_; · rfl) | refine wc_seq ?_ | refine wc_skip ?_ | refine wc_block ?_ | refine wc_true rfl ?_ | refine wc_false rfl ?_ | refine wc_exit ?_ | refine wc_ret ?_ | (refine wc_region ?_; repeat (first | refine gp1 (by exact rfl) ?_ | refine gl1 (by exact rfl) ?_ | refine gb1 (by exact rfl) ?_ | refine gi1 (by exact rfl) ?_ | refine gt1 (by exact rfl) ?_)) | refine wl_nil ?_ | refine wq_nil ?_ | refine gp1 (by exact rfl) ?_ | refine gl1 (by exact rfl) ?_ | refine gb1 (by exact rfl) ?_ | refine gi1 (by exact rfl) ?_ | refine gt1 (by exact rfl) ?_ | refine gp2 (by exact rfl) ?_ | refine gl2 (by exact rfl) ?_ | refine gb2 (by exact rfl) ?_ | refine gi2 (by exact rfl) ?_))
      refine wc_quiet mixed (by kernel_rfl) ?_
      (repeat (first | with_reducible refine thenQ_normal ?_ | with_reducible refine thenQ_exit ?_ | with_reducible refine thenQ_ret ?_ | with_reducible refine blkQ_normal ?_ | with_reducible refine blkQ_ret ?_ | with_reducible refine blkQ_hit ?_ | (with_reducible refine blkQ_miss ?_ ?_; · rfl) | refine wc_seq ?_ | refine wc_skip ?_ | refine wc_block ?_ | refine wc_true rfl ?_ | refine wc_false rfl ?_ | refine wc_exit ?_ | refine wc_ret ?_ | (refine wc_region ?_; repeat (first | refine gp1 (by exact rfl) ?_ | refine gl1 (by exact rfl) ?_ | refine gb1 (by exact rfl) ?_ | refine gi1 (by exact rfl) ?_ | refine gt1 (by exact rfl) ?_)) | refine wl_nil ?_ | refine wq_nil ?_ | refine gp1 (by exact rfl) ?_ | refine gl1 (by exact rfl) ?_ | refine gb1 (by exact rfl) ?_ | refine gi1 (by exact rfl) ?_ | refine gt1 (by exact rfl) ?_ | refine gp2 (by exact rfl) ?_ | refine gl2 (by exact rfl) ?_ | refine gb2 (by exact rfl) ?_ | refine gi2 (by exact rfl) ?_))
      rw [hu0 k hk0]
      dsimp only [sv]
      rw [hka]
      (repeat (first | with_reducible refine thenQ_normal ?_ | with_reducible refine thenQ_exit ?_ | with_reducible refine thenQ_ret ?_ | with_reducible refine blkQ_normal ?_ | with_reducible refine blkQ_ret ?_ | with_reducible refine blkQ_hit ?_ | (with_reducible refine blkQ_miss ?_ ?_; · rfl) | refine wc_seq ?_ | refine wc_skip ?_ | refine wc_block ?_ | refine wc_true rfl ?_ | refine wc_false rfl ?_ | refine wc_exit ?_ | refine wc_ret ?_ | (refine wc_region ?_; repeat (first | refine gp1 (by exact rfl) ?_ | refine gl1 (by exact rfl) ?_ | refine gb1 (by exact rfl) ?_ | refine gi1 (by exact rfl) ?_ | refine gt1 (by exact rfl) ?_)) | refine wl_nil ?_ | refine wq_nil ?_ | refine gp1 (by exact rfl) ?_ | refine gl1 (by exact rfl) ?_ | refine gb1 (by exact rfl) ?_ | refine gi1 (by exact rfl) ?_ | refine gt1 (by exact rfl) ?_ | refine gp2 (by exact rfl) ?_ | refine gl2 (by exact rfl) ?_ | refine gb2 (by exact rfl) ?_ | refine gi2 (by exact rfl) ?_))
      refine wq_val rfl rfl rfl (val_ldQ (l := y.dl ++ mks) (i := j) hr1 (by omega) (by omega) rfl rfl) ?_
      rw [gt_appL hj0 (by omega)]
      (repeat (first | with_reducible refine thenQ_normal ?_ | with_reducible refine thenQ_exit ?_ | with_reducible refine thenQ_ret ?_ | with_reducible refine blkQ_normal ?_ | with_reducible refine blkQ_ret ?_ | with_reducible refine blkQ_hit ?_ | (with_reducible refine blkQ_miss ?_ ?_; · rfl) | refine wc_seq ?_ | refine wc_skip ?_ | refine wc_block ?_ | refine wc_true rfl ?_ | refine wc_false rfl ?_ | refine wc_exit ?_ | refine wc_ret ?_ | (refine wc_region ?_; repeat (first | refine gp1 (by exact rfl) ?_ | refine gl1 (by exact rfl) ?_ | refine gb1 (by exact rfl) ?_ | refine gi1 (by exact rfl) ?_ | refine gt1 (by exact rfl) ?_)) | refine wl_nil ?_ | refine wq_nil ?_ | refine gp1 (by exact rfl) ?_ | refine gl1 (by exact rfl) ?_ | refine gb1 (by exact rfl) ?_ | refine gi1 (by exact rfl) ?_ | refine gt1 (by exact rfl) ?_ | refine gp2 (by exact rfl) ?_ | refine gl2 (by exact rfl) ?_ | refine gb2 (by exact rfl) ?_ | refine gi2 (by exact rfl) ?_))
      rw [hv0 k hk0]
      dsimp only [sv]
      rw [hla]
      (repeat (first | with_reducible refine thenQ_normal ?_ | with_reducible refine thenQ_exit ?_ | with_reducible refine thenQ_ret ?_ | with_reducible refine blkQ_normal ?_ | with_reducible refine blkQ_ret ?_ | with_reducible refine blkQ_hit ?_ | (with_reducible refine blkQ_miss ?_ ?_; · rfl) | refine wc_seq ?_ | refine wc_skip ?_ | refine wc_block ?_ | refine wc_true rfl ?_ | refine wc_false rfl ?_ | refine wc_exit ?_ | refine wc_ret ?_ | (refine wc_region ?_; repeat (first | refine gp1 (by exact rfl) ?_ | refine gl1 (by exact rfl) ?_ | refine gb1 (by exact rfl) ?_ | refine gi1 (by exact rfl) ?_ | refine gt1 (by exact rfl) ?_)) | refine wl_nil ?_ | refine wq_nil ?_ | refine gp1 (by exact rfl) ?_ | refine gl1 (by exact rfl) ?_ | refine gb1 (by exact rfl) ?_ | refine gi1 (by exact rfl) ?_ | refine gt1 (by exact rfl) ?_ | refine gp2 (by exact rfl) ?_ | refine gl2 (by exact rfl) ?_ | refine gb2 (by exact rfl) ?_ | refine gi2 (by exact rfl) ?_))
      refine wq_val rfl rfl rfl (val_ldQ (l := y.dm) (i := j) (by rw [← hla]; exact hr2) (by omega) (by omega) rfl rfl) ?_
      have hm1 := gt_mem (xs := y.dl) hj0 (by omega)
      have hm2 := gt_mem (xs := y.dm) hj0 hj
      have he : (gt y.dl j).2 = (gt y.dm j).2 := by
        have h1 := snd_gt (l := y.dl) hj0 (by omega)
        have h2 := snd_gt (l := y.dm) hj0 hj
        rw [← h1, ← h2, hy.eq_]
      refine gc2 (fun w hst => samePattern_c (p := (gt y.dl j).2) (q := (gt y.dm j).2) (x := (gt y.dl j).1) (y := (gt y.dm j).1) w (GivQ.rd1 (τ := []) (by rw [List.append_nil]; exact hst) (hy.from_ _ hm1)) (GivQ.rd2 (τ := []) (by rw [List.append_nil]; exact hst) hm2) true (by simp [he])) (by exact rfl) ?_
      (repeat (first | with_reducible refine thenQ_normal ?_ | with_reducible refine thenQ_exit ?_ | with_reducible refine thenQ_ret ?_ | with_reducible refine blkQ_normal ?_ | with_reducible refine blkQ_ret ?_ | with_reducible refine blkQ_hit ?_ | (with_reducible refine blkQ_miss ?_ ?_; · rfl) | refine wc_seq ?_ | refine wc_skip ?_ | refine wc_block ?_ | refine wc_true rfl ?_ | refine wc_false rfl ?_ | refine wc_exit ?_ | refine wc_ret ?_ | (refine wc_region ?_; repeat (first | refine gp1 (by exact rfl) ?_ | refine gl1 (by exact rfl) ?_ | refine gb1 (by exact rfl) ?_ | refine gi1 (by exact rfl) ?_ | refine gt1 (by exact rfl) ?_)) | refine wl_nil ?_ | refine wq_nil ?_ | refine gp1 (by exact rfl) ?_ | refine gl1 (by exact rfl) ?_ | refine gb1 (by exact rfl) ?_ | refine gi1 (by exact rfl) ?_ | refine gt1 (by exact rfl) ?_ | refine gp2 (by exact rfl) ?_ | refine gl2 (by exact rfl) ?_ | refine gb2 (by exact rfl) ?_ | refine gi2 (by exact rfl) ?_))
      exact ⟨j + 1, ⟨by omega, by omega⟩, .cons rfl (.cons rfl (.cons rfl (.cons rfl .nil))), rfl, by omega⟩
    · obtain rfl : j = y.dm.length := by omega
      (repeat (first | with_reducible refine thenQ_normal ?_ | with_reducible refine thenQ_exit ?_ | with_reducible refine thenQ_ret ?_ | with_reducible refine blkQ_normal ?_ | with_reducible refine blkQ_ret ?_ | with_reducible refine blkQ_hit ?_ | (with_reducible refine blkQ_miss ?_ ?_; · rfl) | refine wc_seq ?_ | refine wc_skip ?_ | refine wc_block ?_ | refine wc_true rfl ?_ | refine wc_false rfl ?_ | refine wc_exit ?_ | refine wc_ret ?_ | (refine wc_region ?_; repeat (first | refine gp1 (by exact rfl) ?_ | refine gl1 (by exact rfl) ?_ | refine gb1 (by exact rfl) ?_ | refine gi1 (by exact rfl) ?_ | refine gt1 (by exact rfl) ?_)) | refine wl_nil ?_ | refine wq_nil ?_ | refine gp1 (by exact rfl) ?_ | refine gl1 (by exact rfl) ?_ | refine gb1 (by exact rfl) ?_ | refine gi1 (by exact rfl) ?_ | refine gt1 (by exact rfl) ?_ | refine gp2 (by exact rfl) ?_ | refine gl2 (by exact rfl) ?_ | refine gb2 (by exact rfl) ?_ | refine gi2 (by exact rfl) ?_))
      refine wc_loop (fun j : Int => y.dm.length ≤ j ∧ j ≤ y.dm.length + 3) (fun j => [(0, .pointer (some ⟨g, 0, none⟩)), (5, vi k), (6, vi y.dm.length), (8, vi j)]) (fun _ => GivQ g y us vs) (fun j => (y.dm.length + 3 - j).toNat) y.dm.length ⟨by omega, by omega⟩ (.cons rfl (.cons rfl (.cons rfl (.cons rfl .nil)))) rfl ?_
      rintro j ⟨hj0, hj1⟩
      by_cases hj : j < y.dm.length + 3
      · (repeat (first | with_reducible refine thenQ_normal ?_ | with_reducible refine thenQ_exit ?_ | with_reducible refine thenQ_ret ?_ | with_reducible refine blkQ_normal ?_ | with_reducible refine blkQ_ret ?_ | with_reducible refine blkQ_hit ?_ | (with_reducible refine blkQ_miss ?_ ?_; · rfl) | refine wc_seq ?_ | refine wc_skip ?_ | refine wc_block ?_ | refine wc_true rfl ?_ | refine wc_false rfl ?_ | refine wc_exit ?_ | refine wc_ret ?_ | (refine wc_region ?_; repeat (first | refine gp1 (by exact rfl) ?_ | refine gl1 (by exact rfl) ?_ | refine gb1 (by exact rfl) ?_ | refine gi1 (by exact rfl) ?_ | refine gt1 (by exact rfl) ?_)) | refine wl_nil ?_ | refine wq_nil ?_ | refine gp1 (by exact rfl) ?_ | refine gl1 (by exact rfl) ?_ | refine gb1 (by exact rfl) ?_ | refine gi1 (by exact rfl) ?_ | refine gt1 (by exact rfl) ?_ | refine gp2 (by exact rfl) ?_ | refine gl2 (by exact rfl) ?_ | refine gb2 (by exact rfl) ?_ | refine gi2 (by exact rfl) ?_))
        rw [hu0 k hk0]
        dsimp only [sv]
        rw [hka]
        (repeat (first | with_reducible refine thenQ_normal ?_ | with_reducible refine thenQ_exit ?_ | with_reducible refine thenQ_ret ?_ | with_reducible refine blkQ_normal ?_ | with_reducible refine blkQ_ret ?_ | with_reducible refine blkQ_hit ?_ | (with_reducible refine blkQ_miss ?_ ?_; · rfl) | refine wc_seq ?_ | refine wc_skip ?_ | refine wc_block ?_ | refine wc_true rfl ?_ | refine wc_false rfl ?_ | refine wc_exit ?_ | refine wc_ret ?_ | (refine wc_region ?_; repeat (first | refine gp1 (by exact rfl) ?_ | refine gl1 (by exact rfl) ?_ | refine gb1 (by exact rfl) ?_ | refine gi1 (by exact rfl) ?_ | refine gt1 (by exact rfl) ?_)) | refine wl_nil ?_ | refine wq_nil ?_ | refine gp1 (by exact rfl) ?_ | refine gl1 (by exact rfl) ?_ | refine gb1 (by exact rfl) ?_ | refine gi1 (by exact rfl) ?_ | refine gt1 (by exact rfl) ?_ | refine gp2 (by exact rfl) ?_ | refine gl2 (by exact rfl) ?_ | refine gb2 (by exact rfl) ?_ | refine gi2 (by exact rfl) ?_))
        have hrow := mks_at (l := y.dl) (i := j) (by omega) (by omega)
        refine wl_v rfl rfl rfl (val_flP (i := j) rfl rfl rfl rfl) ?_
        refine wl_v rfl rfl rfl (val_lfQ (l := y.dl ++ mks) (i := j) hr1 (by omega) (by omega) rfl rfl rfl rfl) ?_
        rw [hrow, hn]
        (repeat (first | with_reducible refine thenQ_normal ?_ | with_reducible refine thenQ_exit ?_ | with_reducible refine thenQ_ret ?_ | with_reducible refine blkQ_normal ?_ | with_reducible refine blkQ_ret ?_ | with_reducible refine blkQ_hit ?_ | (with_reducible refine blkQ_miss ?_ ?_; · rfl) | refine wc_seq ?_ | refine wc_skip ?_ | refine wc_block ?_ | refine wc_true rfl ?_ | refine wc_false rfl ?_ | refine wc_exit ?_ | refine wc_ret ?_ | (refine wc_region ?_; repeat (first | refine gp1 (by exact rfl) ?_ | refine gl1 (by exact rfl) ?_ | refine gb1 (by exact rfl) ?_ | refine gi1 (by exact rfl) ?_ | refine gt1 (by exact rfl) ?_)) | refine wl_nil ?_ | refine wq_nil ?_ | refine gp1 (by exact rfl) ?_ | refine gl1 (by exact rfl) ?_ | refine gb1 (by exact rfl) ?_ | refine gi1 (by exact rfl) ?_ | refine gt1 (by exact rfl) ?_ | refine gp2 (by exact rfl) ?_ | refine gl2 (by exact rfl) ?_ | refine gb2 (by exact rfl) ?_ | refine gi2 (by exact rfl) ?_))
        exact ⟨j + 1, ⟨by omega, by omega⟩, .cons rfl (.cons rfl (.cons rfl (.cons rfl .nil))), rfl, by omega⟩
      · obtain rfl : j = y.dm.length + 3 := by omega
        (repeat (first | with_reducible refine thenQ_normal ?_ | with_reducible refine thenQ_exit ?_ | with_reducible refine thenQ_ret ?_ | with_reducible refine blkQ_normal ?_ | with_reducible refine blkQ_ret ?_ | with_reducible refine blkQ_hit ?_ | (with_reducible refine blkQ_miss ?_ ?_; · rfl) | refine wc_seq ?_ | refine wc_skip ?_ | refine wc_block ?_ | refine wc_true rfl ?_ | refine wc_false rfl ?_ | refine wc_exit ?_ | refine wc_ret ?_ | (refine wc_region ?_; repeat (first | refine gp1 (by exact rfl) ?_ | refine gl1 (by exact rfl) ?_ | refine gb1 (by exact rfl) ?_ | refine gi1 (by exact rfl) ?_ | refine gt1 (by exact rfl) ?_)) | refine wl_nil ?_ | refine wq_nil ?_ | refine gp1 (by exact rfl) ?_ | refine gl1 (by exact rfl) ?_ | refine gb1 (by exact rfl) ?_ | refine gi1 (by exact rfl) ?_ | refine gt1 (by exact rfl) ?_ | refine gp2 (by exact rfl) ?_ | refine gl2 (by exact rfl) ?_ | refine gb2 (by exact rfl) ?_ | refine gi2 (by exact rfl) ?_))
        exact ⟨k + 1, by omega, .cons rfl (.cons (look_to rfl (by simp [vi])) .nil), rfl, by omega⟩
  · obtain rfl : k = 1 := by omega
    (repeat (first | with_reducible refine thenQ_normal ?_ | with_reducible refine thenQ_exit ?_ | with_reducible refine thenQ_ret ?_ | with_reducible refine blkQ_normal ?_ | with_reducible refine blkQ_ret ?_ | with_reducible refine blkQ_hit ?_ | (with_reducible refine blkQ_miss ?_ ?_; · rfl) | refine wc_seq ?_ | refine wc_skip ?_ | refine wc_block ?_ | refine wc_true rfl ?_ | refine wc_false rfl ?_ | refine wc_exit ?_ | refine wc_ret ?_ | (refine wc_region ?_; repeat (first | refine gp1 (by exact rfl) ?_ | refine gl1 (by exact rfl) ?_ | refine gb1 (by exact rfl) ?_ | refine gi1 (by exact rfl) ?_ | refine gt1 (by exact rfl) ?_)) | refine wl_nil ?_ | refine wq_nil ?_ | refine gp1 (by exact rfl) ?_ | refine gl1 (by exact rfl) ?_ | refine gb1 (by exact rfl) ?_ | refine gi1 (by exact rfl) ?_ | refine gt1 (by exact rfl) ?_ | refine gp2 (by exact rfl) ?_ | refine gl2 (by exact rfl) ?_ | refine gb2 (by exact rfl) ?_ | refine gi2 (by exact rfl) ?_))
    refine wc_loop (fun _ : Unit => True) (fun _ => [(0, .pointer (some ⟨g, 0, none⟩)), (9, vi 0)]) (fun _ => GivQ g y us vs) (fun _ => 0) () trivial (.cons rfl (.cons rfl .nil)) rfl ?_
    intro _ _
    (repeat (first | with_reducible refine thenQ_normal ?_ | with_reducible refine thenQ_exit ?_ | with_reducible refine thenQ_ret ?_ | with_reducible refine blkQ_normal ?_ | with_reducible refine blkQ_ret ?_ | with_reducible refine blkQ_hit ?_ | (with_reducible refine blkQ_miss ?_ ?_; · rfl) | refine wc_seq ?_ | refine wc_skip ?_ | refine wc_block ?_ | refine wc_true rfl ?_ | refine wc_false rfl ?_ | refine wc_exit ?_ | refine wc_ret ?_ | (refine wc_region ?_; repeat (first | refine gp1 (by exact rfl) ?_ | refine gl1 (by exact rfl) ?_ | refine gb1 (by exact rfl) ?_ | refine gi1 (by exact rfl) ?_ | refine gt1 (by exact rfl) ?_)) | refine wl_nil ?_ | refine wq_nil ?_ | refine gp1 (by exact rfl) ?_ | refine gl1 (by exact rfl) ?_ | refine gb1 (by exact rfl) ?_ | refine gi1 (by exact rfl) ?_ | refine gt1 (by exact rfl) ?_ | refine gp2 (by exact rfl) ?_ | refine gl2 (by exact rfl) ?_ | refine gb2 (by exact rfl) ?_ | refine gi2 (by exact rfl) ?_))
    exact ⟨(), [], .cons (rv_tmp rfl) .nil, trivial, by simp [cat]⟩
theorem intact3_c {g : Nat} (y : GP) (us vs : List SV) (hus : us = [(y.K, (y.dl ++ mks).length, y.k)]) (hvs : vs = [(y.L, y.dm.length, y.m)]) (w : World) (hy : GPok y) (hw : Own (GivQ g y us vs) w) :
    Calls Try.prog 15 [.pointer (some ⟨g, 0, none⟩)].toArray w (Ret (GivQ g y us vs) (fun _ : Unit => .bool true) (fun _ => GivQ g y us vs) (fun _ => True) w) := by
  have l1 : (y.x.es.map GE.a).length = y.x.es.length := List.length_map _
  have l2 : (y.x.es.map GE.b).length = y.x.es.length := List.length_map _
  have he := hy.es
  refine calls_wc ((GivQ g y us vs).flatMap Res.fp) (GivQ g y us vs) [.tmp 2] (fun _ : Unit => [.bool true]) Try.func15 rfl rfl (fun _ => rfl) Try.ntmps15 rfl hw rfl ?_
  (repeat (first | with_reducible refine thenQ_normal ?_ | with_reducible refine thenQ_exit ?_ | with_reducible refine thenQ_ret ?_ | with_reducible refine blkQ_normal ?_ | with_reducible refine blkQ_ret ?_ | with_reducible refine blkQ_hit ?_ | (with_reducible refine blkQ_miss ?_ ?_; · rfl) | refine wc_seq ?_ | refine wc_skip ?_ | refine wc_block ?_ | refine wc_true rfl ?_ | refine wc_false rfl ?_ | refine wc_exit ?_ | refine wc_ret ?_ | (refine wc_region ?_; repeat (first | refine gp1 (by exact rfl) ?_ | refine gl1 (by exact rfl) ?_ | refine gb1 (by exact rfl) ?_ | refine gi1 (by exact rfl) ?_ | refine gt1 (by exact rfl) ?_)) | refine wl_nil ?_ | refine wq_nil ?_ | refine gp1 (by exact rfl) ?_ | refine gl1 (by exact rfl) ?_ | refine gb1 (by exact rfl) ?_ | refine gi1 (by exact rfl) ?_ | refine gt1 (by exact rfl) ?_ | refine gp2 (by exact rfl) ?_ | refine gl2 (by exact rfl) ?_ | refine gb2 (by exact rfl) ?_ | refine gi2 (by exact rfl) ?_))
  refine wc_loop (fun _ : Unit => True) (fun _ => [(0, .pointer (some ⟨g, 0, none⟩)), (3, vi 0)]) (fun _ => GivQ g y us vs) (fun _ => 0) () trivial (.cons rfl (.cons rfl .nil)) rfl ?_
  intro _ _
  (repeat (first | with_reducible refine thenQ_normal ?_ | with_reducible refine thenQ_exit ?_ | with_reducible refine thenQ_ret ?_ | with_reducible refine blkQ_normal ?_ | with_reducible refine blkQ_ret ?_ | with_reducible refine blkQ_hit ?_ | (with_reducible refine blkQ_miss ?_ ?_; · rfl) | refine wc_seq ?_ | refine wc_skip ?_ | refine wc_block ?_ | refine wc_true rfl ?_ | refine wc_false rfl ?_ | refine wc_exit ?_ | refine wc_ret ?_ | (refine wc_region ?_; repeat (first | refine gp1 (by exact rfl) ?_ | refine gl1 (by exact rfl) ?_ | refine gb1 (by exact rfl) ?_ | refine gi1 (by exact rfl) ?_ | refine gt1 (by exact rfl) ?_)) | refine wl_nil ?_ | refine wq_nil ?_ | refine gp1 (by exact rfl) ?_ | refine gl1 (by exact rfl) ?_ | refine gb1 (by exact rfl) ?_ | refine gi1 (by exact rfl) ?_ | refine gt1 (by exact rfl) ?_ | refine gp2 (by exact rfl) ?_ | refine gl2 (by exact rfl) ?_ | refine gb2 (by exact rfl) ?_ | refine gi2 (by exact rfl) ?_))
  refine wc_loop (fun _ : Unit => True) (fun _ => [(0, .pointer (some ⟨g, 0, none⟩)), (4, vi 0)]) (fun _ => GivQ g y us vs) (fun _ => 0) () trivial (.cons rfl (.cons rfl .nil)) rfl ?_
  intro _ _
  (repeat (first | with_reducible refine thenQ_normal ?_ | with_reducible refine thenQ_exit ?_ | with_reducible refine thenQ_ret ?_ | with_reducible refine blkQ_normal ?_ | with_reducible refine blkQ_ret ?_ | with_reducible refine blkQ_hit ?_ | (with_reducible refine blkQ_miss ?_ ?_; · rfl) | refine wc_seq ?_ | refine wc_skip ?_ | refine wc_block ?_ | refine wc_true rfl ?_ | refine wc_false rfl ?_ | refine wc_exit ?_ | refine wc_ret ?_ | (refine wc_region ?_; repeat (first | refine gp1 (by exact rfl) ?_ | refine gl1 (by exact rfl) ?_ | refine gb1 (by exact rfl) ?_ | refine gi1 (by exact rfl) ?_ | refine gt1 (by exact rfl) ?_)) | refine wl_nil ?_ | refine wq_nil ?_ | refine gp1 (by exact rfl) ?_ | refine gl1 (by exact rfl) ?_ | refine gb1 (by exact rfl) ?_ | refine gi1 (by exact rfl) ?_ | refine gt1 (by exact rfl) ?_ | refine gp2 (by exact rfl) ?_ | refine gl2 (by exact rfl) ?_ | refine gb2 (by exact rfl) ?_ | refine gi2 (by exact rfl) ?_))
  refine wc_loop (fun k : Nat => k ≤ y.x.es.length) (fun k => [(0, .pointer (some ⟨g, 0, none⟩)), (5, vi k)]) (fun _ => GivQ g y us vs) (fun k => y.x.es.length - k) 0 (by omega) (.cons rfl (.cons rfl .nil)) rfl ?_
  intro k hk
  by_cases hkl : k < y.x.es.length
  · obtain ⟨ga, gb⟩ := gt_map_a hkl
    have hm := GivQ.mem (g := g) (us := us) (vs := vs) (List.getElem_mem hkl)
    have hc : ∀ w', St w ((GivQ g y us vs).flatMap Res.fp) (GivQ g y us vs) w' → Calls Try.prog 46 [sv (gt (y.x.es.map GE.a) (k : Int)), sv (gt (y.x.es.map GE.b) (k : Int))].toArray w' (one (.bool true) w') := fun w' hst => by
      rw [ga, gb]
      exact sameInts_c w' (osl_reads (hst.ok _ hm.1)) (osl_reads (hst.ok _ hm.2)) true (by simp)
    (repeat (first | with_reducible refine thenQ_normal ?_ | with_reducible refine thenQ_exit ?_ | with_reducible refine thenQ_ret ?_ | with_reducible refine blkQ_normal ?_ | with_reducible refine blkQ_ret ?_ | with_reducible refine blkQ_hit ?_ | (with_reducible refine blkQ_miss ?_ ?_; · rfl) | refine wc_seq ?_ | refine wc_skip ?_ | refine wc_block ?_ | refine wc_true rfl ?_ | refine wc_false rfl ?_ | refine wc_exit ?_ | refine wc_ret ?_ | (refine wc_region ?_; repeat (first | refine gp1 (by exact rfl) ?_ | refine gl1 (by exact rfl) ?_ | refine gb1 (by exact rfl) ?_ | refine gi1 (by exact rfl) ?_ | refine gt1 (by exact rfl) ?_)) | refine wl_nil ?_ | refine wq_nil ?_ | refine gp1 (by exact rfl) ?_ | refine gl1 (by exact rfl) ?_ | refine gb1 (by exact rfl) ?_ | refine gi1 (by exact rfl) ?_ | refine gt1 (by exact rfl) ?_ | refine gp2 (by exact rfl) ?_ | refine gl2 (by exact rfl) ?_ | refine gb2 (by exact rfl) ?_ | refine gi2 (by exact rfl) ?_))
    refine wc_quiet mixed (by kernel_rfl) ?_
    (repeat (first | with_reducible refine thenQ_normal ?_ | with_reducible refine thenQ_exit ?_ | with_reducible refine thenQ_ret ?_ | with_reducible refine blkQ_normal ?_ | with_reducible refine blkQ_ret ?_ | with_reducible refine blkQ_hit ?_ | (with_reducible refine blkQ_miss ?_ ?_; · rfl) | refine wc_seq ?_ | refine wc_skip ?_ | refine wc_block ?_ | refine wc_true rfl ?_ | refine wc_false rfl ?_ | refine wc_exit ?_ | refine wc_ret ?_ | (refine wc_region ?_; repeat (first | refine gp1 (by exact rfl) ?_ | refine gl1 (by exact rfl) ?_ | refine gb1 (by exact rfl) ?_ | refine gi1 (by exact rfl) ?_ | refine gt1 (by exact rfl) ?_)) | refine wl_nil ?_ | refine wq_nil ?_ | refine gp1 (by exact rfl) ?_ | refine gl1 (by exact rfl) ?_ | refine gb1 (by exact rfl) ?_ | refine gi1 (by exact rfl) ?_ | refine gt1 (by exact rfl) ?_ | refine gp2 (by exact rfl) ?_ | refine gl2 (by exact rfl) ?_ | refine gb2 (by exact rfl) ?_ | refine gi2 (by exact rfl) ?_))
    refine gc2 (hc) (by exact rfl) ?_
    (repeat (first | with_reducible refine thenQ_normal ?_ | with_reducible refine thenQ_exit ?_ | with_reducible refine thenQ_ret ?_ | with_reducible refine blkQ_normal ?_ | with_reducible refine blkQ_ret ?_ | with_reducible refine blkQ_hit ?_ | (with_reducible refine blkQ_miss ?_ ?_; · rfl) | refine wc_seq ?_ | refine wc_skip ?_ | refine wc_block ?_ | refine wc_true rfl ?_ | refine wc_false rfl ?_ | refine wc_exit ?_ | refine wc_ret ?_ | (refine wc_region ?_; repeat (first | refine gp1 (by exact rfl) ?_ | refine gl1 (by exact rfl) ?_ | refine gb1 (by exact rfl) ?_ | refine gi1 (by exact rfl) ?_ | refine gt1 (by exact rfl) ?_)) | refine wl_nil ?_ | refine wq_nil ?_ | refine gp1 (by exact rfl) ?_ | refine gl1 (by exact rfl) ?_ | refine gb1 (by exact rfl) ?_ | refine gi1 (by exact rfl) ?_ | refine gt1 (by exact rfl) ?_ | refine gp2 (by exact rfl) ?_ | refine gl2 (by exact rfl) ?_ | refine gb2 (by exact rfl) ?_ | refine gi2 (by exact rfl) ?_))
    exact ⟨k + 1, by omega, .cons rfl (.cons (look_to rfl (by simp [vi])) .nil), rfl, by omega⟩
  obtain rfl : k = y.x.es.length := by omega
  (repeat (first | with_reducible refine thenQ_normal ?_ | with_reducible refine thenQ_exit ?_ | with_reducible refine thenQ_ret ?_ | with_reducible refine blkQ_normal ?_ | with_reducible refine blkQ_ret ?_ | with_reducible refine blkQ_hit ?_ | (with_reducible refine blkQ_miss ?_ ?_; · rfl) | refine wc_seq ?_ | refine wc_skip ?_ | refine wc_block ?_ | refine wc_true rfl ?_ | refine wc_false rfl ?_ | refine wc_exit ?_ | refine wc_ret ?_ | (refine wc_region ?_; repeat (first | refine gp1 (by exact rfl) ?_ | refine gl1 (by exact rfl) ?_ | refine gb1 (by exact rfl) ?_ | refine gi1 (by exact rfl) ?_ | refine gt1 (by exact rfl) ?_)) | refine wl_nil ?_ | refine wq_nil ?_ | refine gp1 (by exact rfl) ?_ | refine gl1 (by exact rfl) ?_ | refine gb1 (by exact rfl) ?_ | refine gi1 (by exact rfl) ?_ | refine gt1 (by exact rfl) ?_ | refine gp2 (by exact rfl) ?_ | refine gl2 (by exact rfl) ?_ | refine gb2 (by exact rfl) ?_ | refine gi2 (by exact rfl) ?_))
  refine wc_loop (fun _ : Unit => True) (fun _ => [(0, .pointer (some ⟨g, 0, none⟩)), (6, vi 0)]) (fun _ => GivQ g y us vs) (fun _ => 0) () trivial (.cons rfl (.cons rfl .nil)) rfl ?_
  intro _ _
  (repeat (first | with_reducible refine thenQ_normal ?_ | with_reducible refine thenQ_exit ?_ | with_reducible refine thenQ_ret ?_ | with_reducible refine blkQ_normal ?_ | with_reducible refine blkQ_ret ?_ | with_reducible refine blkQ_hit ?_ | (with_reducible refine blkQ_miss ?_ ?_; · rfl) | refine wc_seq ?_ | refine wc_skip ?_ | refine wc_block ?_ | refine wc_true rfl ?_ | refine wc_false rfl ?_ | refine wc_exit ?_ | refine wc_ret ?_ | (refine wc_region ?_; repeat (first | refine gp1 (by exact rfl) ?_ | refine gl1 (by exact rfl) ?_ | refine gb1 (by exact rfl) ?_ | refine gi1 (by exact rfl) ?_ | refine gt1 (by exact rfl) ?_)) | refine wl_nil ?_ | refine wq_nil ?_ | refine gp1 (by exact rfl) ?_ | refine gl1 (by exact rfl) ?_ | refine gb1 (by exact rfl) ?_ | refine gi1 (by exact rfl) ?_ | refine gt1 (by exact rfl) ?_ | refine gp2 (by exact rfl) ?_ | refine gl2 (by exact rfl) ?_ | refine gb2 (by exact rfl) ?_ | refine gi2 (by exact rfl) ?_))
  refine wc_loop (fun _ : Unit => True) (fun _ => [(0, .pointer (some ⟨g, 0, none⟩)), (7, vi 0)]) (fun _ => GivQ g y us vs) (fun _ => 0) () trivial (.cons rfl (.cons rfl .nil)) rfl ?_
  intro _ _
  (repeat (first | with_reducible refine thenQ_normal ?_ | with_reducible refine thenQ_exit ?_ | with_reducible refine thenQ_ret ?_ | with_reducible refine blkQ_normal ?_ | with_reducible refine blkQ_ret ?_ | with_reducible refine blkQ_hit ?_ | (with_reducible refine blkQ_miss ?_ ?_; · rfl) | refine wc_seq ?_ | refine wc_skip ?_ | refine wc_block ?_ | refine wc_true rfl ?_ | refine wc_false rfl ?_ | refine wc_exit ?_ | refine wc_ret ?_ | (refine wc_region ?_; repeat (first | refine gp1 (by exact rfl) ?_ | refine gl1 (by exact rfl) ?_ | refine gb1 (by exact rfl) ?_ | refine gi1 (by exact rfl) ?_ | refine gt1 (by exact rfl) ?_)) | refine wl_nil ?_ | refine wq_nil ?_ | refine gp1 (by exact rfl) ?_ | refine gl1 (by exact rfl) ?_ | refine gb1 (by exact rfl) ?_ | refine gi1 (by exact rfl) ?_ | refine gt1 (by exact rfl) ?_ | refine gp2 (by exact rfl) ?_ | refine gl2 (by exact rfl) ?_ | refine gb2 (by exact rfl) ?_ | refine gi2 (by exact rfl) ?_))
  refine wc_loop (fun _ : Unit => True) (fun _ => [(0, .pointer (some ⟨g, 0, none⟩)), (8, vi 0)]) (fun _ => GivQ g y us vs) (fun _ => 0) () trivial (.cons rfl (.cons rfl .nil)) rfl ?_
  intro _ _
  (repeat (first | with_reducible refine thenQ_normal ?_ | with_reducible refine thenQ_exit ?_ | with_reducible refine thenQ_ret ?_ | with_reducible refine blkQ_normal ?_ | with_reducible refine blkQ_ret ?_ | with_reducible refine blkQ_hit ?_ | (with_reducible refine blkQ_miss ?_ ?_; · rfl) | refine wc_seq ?_ | refine wc_skip ?_ | refine wc_block ?_ | refine wc_true rfl ?_ | refine wc_false rfl ?_ | refine wc_exit ?_ | refine wc_ret ?_ | (refine wc_region ?_; repeat (first | refine gp1 (by exact rfl) ?_ | refine gl1 (by exact rfl) ?_ | refine gb1 (by exact rfl) ?_ | refine gi1 (by exact rfl) ?_ | refine gt1 (by exact rfl) ?_)) | refine wl_nil ?_ | refine wq_nil ?_ | refine gp1 (by exact rfl) ?_ | refine gl1 (by exact rfl) ?_ | refine gb1 (by exact rfl) ?_ | refine gi1 (by exact rfl) ?_ | refine gt1 (by exact rfl) ?_ | refine gp2 (by exact rfl) ?_ | refine gl2 (by exact rfl) ?_ | refine gb2 (by exact rfl) ?_ | refine gi2 (by exact rfl) ?_))
  refine wl_callr (GivQ g y us vs) [] (fun w hst => whole3_c y us vs hus hvs w hy hst.own) (by rfl) (by rfl) (bod_of rfl) (by rfl) (by rfl) (by rfl) (by simp) ?_
  intro _ _
  (repeat (first | with_reducible refine thenQ_normal ?_ | with_reducible refine thenQ_exit ?_ | with_reducible refine thenQ_ret ?_ | with_reducible refine blkQ_normal ?_ | with_reducible refine blkQ_ret ?_ | with_reducible refine blkQ_hit ?_ | (with_reducible refine blkQ_miss ?_ ?_; · rfl) | refine wc_seq ?_ | refine wc_skip ?_ | refine wc_block ?_ | refine wc_true rfl ?_ | refine wc_false rfl ?_ | refine wc_exit ?_ | refine wc_ret ?_ | (refine wc_region ?_; repeat (first | refine gp1 (by exact rfl) ?_ | refine gl1 (by exact rfl) ?_ | refine gb1 (by exact rfl) ?_ | refine gi1 (by exact rfl) ?_ | refine gt1 (by exact rfl) ?_)) | refine wl_nil ?_ | refine wq_nil ?_ | refine gp1 (by exact rfl) ?_ | refine gl1 (by exact rfl) ?_ | refine gb1 (by exact rfl) ?_ | refine gi1 (by exact rfl) ?_ | refine gt1 (by exact rfl) ?_ | refine gp2 (by exact rfl) ?_ | refine gl2 (by exact rfl) ?_ | refine gb2 (by exact rfl) ?_ | refine gi2 (by exact rfl) ?_))
  exact ⟨(), [], .cons (rv_tmp rfl) .nil, trivial, by simp [cat]⟩
theorem intact2_c {g : Nat} (y : GP) (w : World) (hy : GPok y) (hw : Own (GivP g y) w) :
    Calls Try.prog 15 [.pointer (some ⟨g, 0, none⟩)].toArray w (Ret (GivP g y) (fun _ : Unit => .bool true) (fun _ => GivP g y) (fun _ => True) w) :=
  intact3_c y _ _ rfl rfl w hy hw
section
variable {A : Option Addr} {c : Nat} {l : LP}
theorem lawSparseJoins_c (w : World) (hl : RdPs w A c l) (hlen : l.length ≤ 2199023255488) (hsm : ∀ x ∈ l, x.2.start.length ≤ 17592186043904 ∧ x.2.cols.length ≤ 17592186043904) :
    Calls Try.prog 8 [.slice A l.length c].toArray w (one (.bool true) w) := by
  have ol := hl.old
  refine calls_wc [] [] [.tmp 2] (fun _ => [.bool true]) Try.func8 rfl rfl (fun _ => rfl) Try.ntmps8 rfl (Own.nil w) rfl ?_
  (repeat (first | with_reducible refine thenQ_normal ?_ | with_reducible refine thenQ_exit ?_ | with_reducible refine thenQ_ret ?_ | with_reducible refine blkQ_normal ?_ | with_reducible refine blkQ_ret ?_ | with_reducible refine blkQ_hit ?_ | (with_reducible refine blkQ_miss ?_ ?_; · rfl) | refine wc_seq ?_ | refine wc_skip ?_ | refine wc_block ?_ | refine wc_true rfl ?_ | refine wc_false rfl ?_ | refine wc_exit ?_ | refine wc_ret ?_ | (refine wc_region ?_; repeat (first | refine gp1 (by exact rfl) ?_ | refine gl1 (by exact rfl) ?_ | refine gb1 (by exact rfl) ?_ | refine gi1 (by exact rfl) ?_ | refine gt1 (by exact rfl) ?_)) | refine wl_nil ?_ | refine wq_nil ?_ | refine gp1 (by exact rfl) ?_ | refine gl1 (by exact rfl) ?_ | refine gb1 (by exact rfl) ?_ | refine gi1 (by exact rfl) ?_ | refine gt1 (by exact rfl) ?_ | refine gp2 (by exact rfl) ?_ | refine gl2 (by exact rfl) ?_ | refine gb2 (by exact rfl) ?_ | refine gi2 (by exact rfl) ?_))
  refine wl_none TIs sv ?_
  refine wl_none TIs sv ?_
  refine wl_op (ok_box rfl rfl rfl rfl rfl ?_); intro g
  (repeat (first | with_reducible refine thenQ_normal ?_ | with_reducible refine thenQ_exit ?_ | with_reducible refine thenQ_ret ?_ | with_reducible refine blkQ_normal ?_ | with_reducible refine blkQ_ret ?_ | with_reducible refine blkQ_hit ?_ | (with_reducible refine blkQ_miss ?_ ?_; · rfl) | refine wc_seq ?_ | refine wc_skip ?_ | refine wc_block ?_ | refine wc_true rfl ?_ | refine wc_false rfl ?_ | refine wc_exit ?_ | refine wc_ret ?_ | (refine wc_region ?_; repeat (first | refine gp1 (by exact rfl) ?_ | refine gl1 (by exact rfl) ?_ | refine gb1 (by exact rfl) ?_ | refine gi1 (by exact rfl) ?_ | refine gt1 (by exact rfl) ?_)) | refine wl_nil ?_ | refine wq_nil ?_ | refine gp1 (by exact rfl) ?_ | refine gl1 (by exact rfl) ?_ | refine gb1 (by exact rfl) ?_ | refine gi1 (by exact rfl) ?_ | refine gt1 (by exact rfl) ?_ | refine gp2 (by exact rfl) ?_ | refine gl2 (by exact rfl) ?_ | refine gb2 (by exact rfl) ?_ | refine gi2 (by exact rfl) ?_))
  refine gc3 (Giv g GS.nil) (fun w hst hst1 => patterns_c (l := l) w (ol.later hst1) hlen hsm hst1.own) (by exact rfl) ⟨[], List.Perm.refl _, ?_⟩
  rintro y ⟨h1, h2, h3, h4⟩
  have hy : GPok y := ⟨by rw [h1, h2], by omega, by have := congrArg List.length h1; simp only [List.length_map] at this; omega, h4⟩
  have hyl : y.dl.length = l.length := by have := congrArg List.length h1; simpa using this
  have jc : ∀ w, RdPs w y.K y.k y.dl → RdPs w A c l → Calls Try.prog 27 [.slice y.K l.length y.k, .slice A l.length c].toArray w (one (.bool true) w) := fun w a b => by
    have := joins_c w a b h1
    rwa [hyl] at this
  (repeat (first | with_reducible refine thenQ_normal ?_ | with_reducible refine thenQ_exit ?_ | with_reducible refine thenQ_ret ?_ | with_reducible refine blkQ_normal ?_ | with_reducible refine blkQ_ret ?_ | with_reducible refine blkQ_hit ?_ | (with_reducible refine blkQ_miss ?_ ?_; · rfl) | refine wc_seq ?_ | refine wc_skip ?_ | refine wc_block ?_ | refine wc_true rfl ?_ | refine wc_false rfl ?_ | refine wc_exit ?_ | refine wc_ret ?_ | (refine wc_region ?_; repeat (first | refine gp1 (by exact rfl) ?_ | refine gl1 (by exact rfl) ?_ | refine gb1 (by exact rfl) ?_ | refine gi1 (by exact rfl) ?_ | refine gt1 (by exact rfl) ?_)) | refine wl_nil ?_ | refine wq_nil ?_ | refine gp1 (by exact rfl) ?_ | refine gl1 (by exact rfl) ?_ | refine gb1 (by exact rfl) ?_ | refine gi1 (by exact rfl) ?_ | refine gt1 (by exact rfl) ?_ | refine gp2 (by exact rfl) ?_ | refine gl2 (by exact rfl) ?_ | refine gb2 (by exact rfl) ?_ | refine gi2 (by exact rfl) ?_))
  refine gc1 (fun w hst => jc w (oslP_reads (l := y.dl) (m := mks) (hst.at_ 5 rfl) (fun z hz => GivQ.rd1 hst (h4 z hz))) (ol.now hst)) (by exact rfl) ?_
  (repeat (first | with_reducible refine thenQ_normal ?_ | with_reducible refine thenQ_exit ?_ | with_reducible refine thenQ_ret ?_ | with_reducible refine blkQ_normal ?_ | with_reducible refine blkQ_ret ?_ | with_reducible refine blkQ_hit ?_ | (with_reducible refine blkQ_miss ?_ ?_; · rfl) | refine wc_seq ?_ | refine wc_skip ?_ | refine wc_block ?_ | refine wc_true rfl ?_ | refine wc_false rfl ?_ | refine wc_exit ?_ | refine wc_ret ?_ | (refine wc_region ?_; repeat (first | refine gp1 (by exact rfl) ?_ | refine gl1 (by exact rfl) ?_ | refine gb1 (by exact rfl) ?_ | refine gi1 (by exact rfl) ?_ | refine gt1 (by exact rfl) ?_)) | refine wl_nil ?_ | refine wq_nil ?_ | refine gp1 (by exact rfl) ?_ | refine gl1 (by exact rfl) ?_ | refine gb1 (by exact rfl) ?_ | refine gi1 (by exact rfl) ?_ | refine gt1 (by exact rfl) ?_ | refine gp2 (by exact rfl) ?_ | refine gl2 (by exact rfl) ?_ | refine gb2 (by exact rfl) ?_ | refine gi2 (by exact rfl) ?_))
  refine gc3 (GivP g y) (fun w hst hst1 => intact2_c y w hy hst1.own) (by exact rfl) ⟨[], List.Perm.refl _, ?_⟩
  intro _ _
  (repeat (first | with_reducible refine thenQ_normal ?_ | with_reducible refine thenQ_exit ?_ | with_reducible refine thenQ_ret ?_ | with_reducible refine blkQ_normal ?_ | with_reducible refine blkQ_ret ?_ | with_reducible refine blkQ_hit ?_ | (with_reducible refine blkQ_miss ?_ ?_; · rfl) | refine wc_seq ?_ | refine wc_skip ?_ | refine wc_block ?_ | refine wc_true rfl ?_ | refine wc_false rfl ?_ | refine wc_exit ?_ | refine wc_ret ?_ | (refine wc_region ?_; repeat (first | refine gp1 (by exact rfl) ?_ | refine gl1 (by exact rfl) ?_ | refine gb1 (by exact rfl) ?_ | refine gi1 (by exact rfl) ?_ | refine gt1 (by exact rfl) ?_)) | refine wl_nil ?_ | refine wq_nil ?_ | refine gp1 (by exact rfl) ?_ | refine gl1 (by exact rfl) ?_ | refine gb1 (by exact rfl) ?_ | refine gi1 (by exact rfl) ?_ | refine gt1 (by exact rfl) ?_ | refine gp2 (by exact rfl) ?_ | refine gl2 (by exact rfl) ?_ | refine gb2 (by exact rfl) ?_ | refine gi2 (by exact rfl) ?_))
  exact grt () trivial
end
end Go.Proofs.Ytofngbaefbbeiaa
