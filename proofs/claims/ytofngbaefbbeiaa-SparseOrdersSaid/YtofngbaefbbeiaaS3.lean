/- A small logic for the walks: new memory, stores, append, calls, results. -/
import Derived.Test.YtofngbaefbbeiaaS2
set_option linter.unusedVariables false
set_option linter.unusedSimpArgs false
namespace Go.Proofs.Ytofngbaefbbeiaa
open Go.RowKit

section
variable {P : Program} {n : Nat} {w0 : World} {D : List Nat} {Γ : Tm} {σ : List Res} {ops : Array Oper} {o : Oper} {K : Tm → List Res → Prop}

/-- an operation by its run -/
theorem ok_run (hg : gd Γ ops o = some true) {dd : Nat} (hd : o.dst = some dd) (hdn : Nat.blt dd n = true)
    (h : ∀ w, St w0 D σ w → ∀ f : Operand → Value, (∀ x u, ev Γ x = some u → f x = u) →
      ∃ v w' σ', (execOp f o).run P w = .ok (.value v) w' ∧ St w0 D σ' w' ∧ K ((dd, v) :: Γ) σ') : OpOK P n w0 D ops o K Γ σ := by
  refine ⟨fun a w hs hst Q K' hK => ?_⟩
  rw [if_pos (gd_spec hs hg)]
  unfold Oper.wp
  obtain ⟨v, w', σ', hr, hst', hk⟩ := h w hst a.eval (fun x u hx => hs.eval hx)
  rw [hr]
  exact hK _ _ _ _ (hs.put hd hdn v) hst' hk
theorem ok_skip (hg : gd Γ ops o = some true) (hd : o.dst = none)
    (h : ∀ w, St w0 D σ w → ∀ f : Operand → Value, (∀ x u, ev Γ x = some u → f x = u) →
      ∃ w' σ', (execOp f o).run P w = .ok .skip w' ∧ St w0 D σ' w' ∧ K Γ σ') : OpOK P n w0 D ops o K Γ σ := by
  refine ⟨fun a w hs hst Q K' hK => ?_⟩
  rw [if_pos (gd_spec hs hg)]
  unfold Oper.wp
  obtain ⟨w', σ', hr, hst', hk⟩ := h w hst a.eval (fun x u hx => hs.eval hx)
  rw [hr]
  simp only [Oper.upon, hd]
  exact hK _ _ _ _ hs hst' hk

theorem St.alloc {w : World} (h : St w0 D σ w) (cs : Array Value) (t : TypeId) : St w0 D (blk w.heap.size cs.toList t :: σ) (w.alloc (.cells cs t)) :=
  h.push (Only.alloc _ _ _) (blk w.heap.size cs.toList t) (by simpa [blk] using heap_alloc_new w _) (by simp [blk]) (by simp [blk])

theorem ok_alloc {t : TypeId} {z : Value} (hop : o.op = .alloc t) (hg : gd Γ ops o = some true) {dd : Nat} (hd : o.dst = some dd) (hdn : Nat.blt dd n = true) (hz : zero? P t = some z)
    (h : ∀ b, K ((dd, .pointer (some ⟨b, 0, none⟩)) :: Γ) (blk b z.cells.toList t :: σ)) : OpOK P n w0 D ops o K Γ σ :=
  ok_run hg hd hdn fun w hst f hf => ⟨_, w.alloc (.cells z.cells t), _, by simp [execOp, hop, Instr.alloc, run_zeroValue' hz, newVar, newRow, Result.andThen, newObj]; rfl, hst.alloc _ _, h _⟩
theorem ok_box {t : TypeId} {x : Operand} {v : Value} (hop : o.op = .box t x) (hx : ev Γ x = some v) (hg : gd Γ ops o = some true) {dd : Nat} (hd : o.dst = some dd) (hdn : Nat.blt dd n = true)
    (h : ∀ b, K ((dd, .pointer (some ⟨b, 0, none⟩)) :: Γ) (blk b v.cells.toList t :: σ)) : OpOK P n w0 D ops o K Γ σ :=
  ok_run hg hd hdn fun w hst f hf => ⟨_, w.alloc (.cells v.cells t), _, by simp [execOp, hop, hf _ _ hx, Instr.box, newVar, newRow, Result.andThen, newObj]; rfl, hst.alloc _ _, h _⟩
theorem ok_makeMap0 {t : TypeId} (hop : o.op = .makeMap t none) (hg : gd Γ ops o = some true) {dd : Nat} (hd : o.dst = some dd) (hdn : Nat.blt dd n = true) (r : Nat → Res) (hr : ∀ b, (r b).fp = [b]) (hok : ∀ w : World, (r w.heap.size).ok (w.alloc (.map #[] 0)))
    (h : ∀ b, K ((dd, .map (some b)) :: Γ) (r b :: σ)) : OpOK P n w0 D ops o K Γ σ :=
  ok_run hg hd hdn fun w hst f hf => ⟨_, w.alloc (.map #[] 0), _, by simp [execOp, hop, run_makeMap], hst.push (Only.alloc _ _ _) (r w.heap.size) (hok w) (by rw [hr]; simp) (by rw [hr]; simp), h _⟩

theorem Only.setRow {D : List Nat} (w : World) {b : Nat} (hb : b ∈ D) (cs : Array Value) : Only D w (w.setRow b cs) :=
  ⟨rfl, rfl, rfl, by simp [World.setRow], fun c hc hD => by
    have hne : b ≠ c := fun e => hD (e ▸ hb)
    simp [World.setRow, Array.getElem?_modify, hne]⟩
theorem St.setBlk {w : World} (hst : St w0 D σ w) (i : Nat) {b : Nat} {cs cs' : List Value} {t : TypeId} (hi : σ[i]? = some (blk b cs t)) : St w0 D (σ.set i (blk b cs' t)) (w.setRow b cs'.toArray) := by
  have hb : w.heap[b]? = some (.cells cs.toArray t (0, 0)) := hst.at_ i hi
  refine hst.set_ i hi (Only.setRow w (by simp [blk]) _) ?_ ?_ (by simp [blk])
  · show (w.setRow b cs'.toArray).heap[b]? = _
    simp [World.setRow, Array.getElem?_modify, hb]
  · intro c hc'
    simp [blk] at hc'
    subst hc'
    refine ⟨.inl (by simp [blk]), ?_⟩
    have := hst.lt _ (List.mem_of_getElem? hi) c (by simp [blk])
    simpa [World.setRow] using this
/-- what a block holds behind a store -/
def splice (cs : List Value) (k : Nat) (vs : List Value) : List Value := cs.take k ++ vs ++ cs.drop (k + vs.length)
/-- a store into a block that we know -/
theorem ok_store (i : Nat) {t t' : TypeId} {x y : Operand} {b k : Nat} {cs : List Value} {v : Value} {vs : List Value} (hop : o.op = .store t x y) (hx : ev Γ x = some (.pointer (some ⟨b, k, none⟩))) (hy : ev Γ y = some v) (hi : σ[i]? = some (blk b cs t'))
    (hg : gd Γ ops o = some true) (hd : o.dst = none) (hvs : v.cells.toList = vs) (hv : vs.all (·.oneCell') = true) (hs : size? P t = some vs.length) (hk : Nat.ble (k + vs.length) cs.length = true) (h : K Γ (σ.set i (blk b (splice cs k vs) t'))) : OpOK P n w0 D ops o K Γ σ :=
  ok_skip hg hd fun w hst f hf => by
    have hk := Nat.le_of_ble_eq_true hk
    have hb : w.heap[b]? = some (.cells cs.toArray t' (0, 0)) := hst.at_ i hi
    refine ⟨w.setRow b (splice cs k vs).toArray, _, ?_, hst.setBlk i hi, h⟩
    have hr := run_storeCells_at (P := P) b k t' vs 0 cs.toArray w hb (by simpa using hk) (by simpa using hv)
    have hn : v.cells.size = vs.length := by rw [← hvs]; simp
    simp [execOp, hop, hf _ _ hx, hf _ _ hy, Instr.storeAt, Instr.sureAddr, storeVar, run_sizeOf' hs, Result.andThen, hn, hvs, hr, splice]

/-! ### rows of the call's own -/
theorem St.pushRow {w : World} (h : St w0 D σ w) {α : Type} (e : TypeId) (f : α → Value) (xs : List α) (cs : Array Value) (hc : cs.size ≤ maxLen) (hl : xs.length ≤ cs.size) (hcs : cs.toList.take xs.length = xs.map f) :
    St w0 D (osl e f (some ⟨w.heap.size, 0, none⟩) cs.size xs :: σ) (w.alloc (.cells cs e)) := by
  refine h.push (Only.alloc _ _ _) _ ?_ (by simp [osl, ownB]) (by simp [osl, ownB])
  exact ⟨by simp, .inr ⟨w.heap.size, cs.size, cs, rfl, Nat.zero_le _, heap_alloc_new w _, hl, hc, by simp, by simpa using hcs⟩⟩
theorem ok_buildSlice {α : Type} (f : α → Value) (xs : List α) {t e : TypeId} {len : Nat} {parts : Array (Nat × Operand)} {ps : List (Nat × Value)} {z : Value} (hop : o.op = .buildSlice t len parts) (hp : parts.toList.map (fun p => (p.1, ev Γ p.2)) = ps.map (fun p => (p.1, some p.2)))
    (hg : gd Γ ops o = some true) {dd : Nat} (hd : o.dst = some dd) (hdn : Nat.blt dd n = true) (ht : elem? P t = some e) (hz : zero? P e = some z) (hs : size? P e = some 1) (hlen : xs.length = len) (hpos : 0 < len) (hsmall : len ≤ 1024)
    (hf : Instr.fill (fun i => some (i * 1, 1)) ((Array.range (len * 1)).map (z.cells[· % z.cells.size]!)) ps = some (xs.map f).toArray)
    (h : ∀ b, K ((dd, .slice (some ⟨b, 0, none⟩) xs.length xs.length) :: Γ) (osl e f (some ⟨b, 0, none⟩) xs.length xs :: σ)) : OpOK P n w0 D ops o K Γ σ :=
  ok_run hg hd hdn fun w hst g hgf => by
    have key : ∀ (xs : List (Nat × Operand)) (vs : List (Nat × Value)), xs.map (fun p => (p.1, ev Γ p.2)) = vs.map (fun p => (p.1, some p.2)) → xs.map (fun p => (p.1, g p.2)) = vs := by
      intro xs
      induction xs with
      | nil => intro vs h; cases vs with | nil => rfl | cons _ _ => simp at h
      | cons x xs ih =>
        intro vs h
        cases vs with
        | nil => simp at h
        | cons v vs =>
          simp only [List.map_cons, List.cons.injEq, Prod.mk.injEq] at h ⊢
          exact ⟨Prod.ext h.1.1 (hgf _ _ h.1.2), ih vs h.2⟩
    have e1 : parts.map (fun p => (p.1, g p.2)) = ps.toArray := Array.toList_inj.1 (by rw [Array.toList_map]; exact key _ _ hp)
    unfold zero? at hz
    unfold size? at hs
    cases hi : P.info? e with
    | none => rw [hi] at hz; cases hz
    | some ie =>
      rw [hi] at hz hs
      simp only [Option.bind_some, Option.map_some, Option.some.injEq] at hz hs
      have hr := run_buildSlice (P := P) w t e len ps.toArray (xs.map f).toArray ie z (elem?_spec ht) hi hz (by rw [hs]; simp; omega) (by rw [hs]; omega) (by rw [hs]; simpa using hf)
      have hp := hst.pushRow e f xs (xs.map f).toArray (by simp [maxLen]; omega) (by simp) (by simp [List.take_of_length_le])
      simp only [List.size_toArray, List.length_map] at hp
      refine ⟨_, w.alloc (.cells (xs.map f).toArray e), _, ?_, hp, h _⟩
      simp only [execOp, hop]
      rw [e1]
      simp [hr, hlen]
theorem madeCells_one (z : Value) (m : Nat) : madeCells #[z] m = (List.replicate m z).toArray := by
  apply Array.ext
  · simp [madeCells]
  · intro i h1 h2
    simp [madeCells, Nat.mod_one]
theorem ok_makeSlice {α : Type} (f : α → Value) (z : α) {t e : TypeId} {x y : Operand} {l c : Int} {bytes : Nat} (hop : o.op = .makeSlice t x y) (hx : ev Γ x = some (.int .i64 l)) (hy : ev Γ y = some (.int .i64 c))
    (hg : gd Γ ops o = some true) {dd : Nat} (hd : o.dst = some dd) (hdn : Nat.blt dd n = true) (ht : elem? P t = some e) (hz : zero? P e = some (f z)) (hz1 : (f z).cells = #[f z]) (hs : size? P e = some 1) (hb : bytes? P e = some bytes)
    (h0 : 0 ≤ l) (hlc : l ≤ c) (hcb : (bytes : Int) * c ≤ 281474976710656) (hc : c ≤ 281474976710656)
    (h : ∀ b, K ((dd, .slice (some ⟨b, 0, none⟩) (List.replicate l.toNat z).length c.toNat) :: Γ) (osl e f (some ⟨b, 0, none⟩) c.toNat (List.replicate l.toNat z) :: σ)) : OpOK P n w0 D ops o K Γ σ :=
  ok_run hg hd hdn fun w hst g hgf => by
    unfold zero? at hz
    unfold size? at hs
    unfold bytes? at hb
    cases hi : P.info? e with
    | none => rw [hi] at hz; cases hz
    | some ie =>
      rw [hi] at hz hs hb
      simp only [Option.bind_some, Option.map_some, Option.some.injEq] at hz hs hb
      have hr := run_make (P := P) w t e ie (f z) (elem?_spec ht) hi hz .i64 .i64 l c h0 hlc (by rw [hb]; exact hcb) (by omega)
      rw [hs, hz1, Nat.mul_one] at hr
      have hp := hst.pushRow e f (List.replicate l.toNat z) (madeCells #[f z] c.toNat) (by simp [size_madeCells, maxLen]; omega) (by simp [size_madeCells]; omega) (by rw [madeCells_one]; simp; omega)
      rw [size_madeCells] at hp
      refine ⟨.slice (some ⟨w.heap.size, 0, none⟩) l.toNat c.toNat, w.alloc (.cells (madeCells #[f z] c.toNat) e), _, ?_, hp, by have := h w.heap.size; rwa [List.length_replicate] at this⟩
      simp [execOp, hop, hgf _ _ hx, hgf _ _ hy, hr]

/-- append(s, x): s a row of the call's own, x a slice that reads so -/
theorem ok_append (i : Nat) {α : Type} (f : α → Value) {t e : TypeId} {x y : Operand} {A B : Option Addr} {c d : Nat} {xs ys : List α} {z : Value} {bytes : Nat} (hop : o.op = .call { callee := .builtin .append, args := #[x, y], argTypes := #[t, t] })
    (hx : ev Γ x = some (.slice A xs.length c)) (hy : ev Γ y = some (.slice B ys.length d)) (hi : σ[i]? = some (osl e f A c xs)) (hg : gd Γ ops o = some true) {dd : Nat} (hd : o.dst = some dd) (hdn : Nat.blt dd n = true)
    (ht : elem? P t = some e) (hz : zero? P e = some z) (hz1 : z.cells.size = 1) (hs : size? P e = some 1) (hb : bytes? P e = some bytes) (hB : ∃ ad, B = some ad) (hys : ∀ w, St w0 D σ w → Rds f w B d ys) (h1 : ∀ v, (f v).oneCell' = true)
    (hl : xs.length + ys.length ≤ 9223372036854775807) (hbytes : (xs.length + ys.length) * bytes ≤ 140737488355328)
    (h : ∀ A' c', K ((dd, .slice A' (xs ++ ys).length c') :: Γ) (σ.set i (osl e f A' c' (xs ++ ys)))) : OpOK P n w0 D ops o K Γ σ :=
  ok_run hg hd hdn fun w hst g hgf => by
    unfold zero? at hz
    unfold size? at hs
    unfold bytes? at hb
    obtain ⟨ad, rfl⟩ := hB
    cases hie : P.info? e with
    | none => rw [hie] at hz; cases hz
    | some ie =>
      rw [hie] at hz hs hb
      simp only [Option.bind_some, Option.map_some, Option.some.injEq] at hz hs hb
      have hown : w.ownsRow 0 e 1 (.slice A xs.length c) xs.length (xs.map f) := hst.at_ i hi
      have hrd := hys w hst
      have hcells : ∀ j u, (ys.map f)[j]? = some u → w.cell? (ad.add j) = some u := by
        intro j u hu
        have hj : j < ys.length := by have := (List.getElem?_eq_some_iff.1 hu).1; simpa using this
        obtain ⟨ad', e1, hc⟩ := hrd.2.2 (by omega)
        obtain rfl : ad = ad' := by simpa using e1
        rw [hc j hj]
        simpa [List.getElem?_eq_getElem hj] using hu
      obtain ⟨v', w', hr, hown', hgrow, hnil, hat⟩ := run_append_own_at (P := P) w 0 t o.type e ie z 1 bytes (elem?_spec ht) hie hz hs hb hz1 (by omega) (.slice A xs.length c) xs.length (xs.map f) hown ad ys.length d (ys.map f) (by simp) hcells (by simpa using fun a _ => h1 a) (by simpa [maxLen] using hl) hbytes (Nat.zero_le _)
      have hv : ∃ A' c', v' = .slice A' (xs ++ ys).length c' := by
        rcases hown'.2 with ⟨h2, h3⟩ | ⟨g', cap, cur, h2, _⟩
        · exact ⟨none, 0, by rw [h2, List.length_append, h3]⟩
        · exact ⟨_, cap, by rw [h2, List.length_append]⟩
      obtain ⟨A', c', rfl⟩ := hv
      refine ⟨.slice A' (xs ++ ys).length c', w', _, ?_, hst.set_ i hi (Only.grown hgrow ?_) (by show w'.ownsRow _ _ _ _ _ _; rw [List.map_append, List.length_append]; rw [List.length_append] at hown'; exact hown') ?_ ?_, h A' c'⟩
      · simp [execOp, hop, resolve, invoke, builtin, hgf _ _ hx, hgf _ _ hy, hr, Result.andThen]
      · intro b hb'
        cases A with
        | none => simp [Value.ownBlock] at hb'
        | some a => simp [Value.ownBlock] at hb'; simp [osl, ownB, hb']
      · intro b hb'
        cases A' with
        | none => simp [osl, ownB] at hb'
        | some a' =>
          simp [osl, ownB] at hb'
          subst hb'
          have hlt := (hown'.lt a'.block rfl).2
          refine ⟨?_, hlt⟩
          rcases hat with hat | hat
          · cases A with
            | none => simp [Value.ownBlock] at hat
            | some a => simp [Value.ownBlock] at hat; exact .inl (by simp [osl, ownB, hat])
          · simp [Value.ownBlock] at hat; exact .inr (by omega)
      · cases A' <;> simp [osl, ownB]

def spliceA (cs : Array Value) (k : Nat) (vs : List Value) : Array Value := (cs.toList.take k ++ vs ++ cs.toList.drop (k + vs.length)).toArray
/-- s[i] = v in a row of the call's own: the pointer is &s[i] -/
theorem ok_storeRow (i : Nat) {α : Type} (f : α → Value) {t e : TypeId} {x y : Operand} {A : Option Addr} {c : Nat} {xs : List α} {j : Int} {v : α} (hop : o.op = .store t x y)
    (hx : ev Γ x = some (.pointer (some (elA A 1 j)))) (hy : ev Γ y = some (f v)) (hi : σ[i]? = some (osl e f A c xs)) (hg : gd Γ ops o = some true) (hd : o.dst = none) (hv : (f v).oneCell' = true) (hs : size? P t = some 1)
    (h0 : 0 ≤ j) (h1 : j < xs.length) (h : K Γ (σ.set i (osl e f A c (xs.set j.toNat v)))) : OpOK P n w0 D ops o K Γ σ :=
  ok_skip hg hd fun w hst g hgf => by
    have hown : w.ownsRow 0 e 1 (.slice A xs.length c) xs.length (xs.map f) := hst.at_ i hi
    rcases hown.2 with ⟨h2, h3⟩ | ⟨gb, cap, cur, h2, h3, hb, h5, h6, h7, h8⟩
    · omega
    · injection h2 with e1 e2 e3
      subst e1 e3
      have hj : j.toNat < cur.size := by omega
      have hc : w.cell? ⟨gb, j.toNat, none⟩ = some cur[j.toNat] := by simp [World.cell?, hb, hj]
      have hfz : w.frozen? ⟨gb, j.toNat, none⟩ = false := by simp [World.frozen?, hb]
      have hcells : (f v).cells = #[f v] := by
        generalize f v = u at hv
        cases u <;> simp [Value.oneCell'] at hv <;> rfl
      have hr := run_storeCells_at (P := P) gb j.toNat e [f v] 0 cur w hb (by simp; omega) (by simpa using hv)
      refine ⟨w.setRow gb (spliceA cur j.toNat [f v]), _, ?_, hst.set_ i hi (Only.setRow w (by simp [osl, ownB]) _) ?_ ?_ (by simp [osl, ownB]), h⟩
      · simp [elA, add_own] at hx
        simp [execOp, hop, hgf _ _ hx, hgf _ _ hy, Instr.storeAt, Instr.sureAddr, storeVar, run_sizeOf' hs, Result.andThen, hcells, hr, spliceA]
      · refine ⟨by simp, .inr ⟨gb, c, spliceA cur j.toNat [f v], by simp, Nat.zero_le _, by simp [World.setRow, Array.getElem?_modify, hb], by simpa using h5, h6, ?_, ?_⟩⟩
        · simp [spliceA]; omega
        · simp only [spliceA, Nat.mul_one, List.length_set, List.length_singleton]
          rw [Nat.mul_one] at h8
          have hsp : cur.toList.take j.toNat ++ [f v] ++ cur.toList.drop (j.toNat + 1) = cur.toList.set j.toNat (f v) := by
            rw [List.set_eq_take_append_cons_drop]; simp [hj]
          rw [hsp, List.take_set, h8, List.map_set]
      · intro b hb'
        simp [osl, ownB] at hb'
        subst hb'
        refine ⟨.inl (by simp [osl, ownB]), ?_⟩
        have := hst.lt _ (List.mem_of_getElem? hi) b (by simp [osl, ownB])
        simpa [World.setRow] using this
end
end Go.Proofs.Ytofngbaefbbeiaa
