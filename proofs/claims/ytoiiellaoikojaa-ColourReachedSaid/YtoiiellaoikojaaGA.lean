/- Marks set in tables; patterns that are handed out. append(s, x): rows that grow. Two places marked at once: mapEntry, entryStore on sets. A loop over a set of columns, from which some are struck: range, next, entry, delete. -/
import Derived.Test.YtoiiellaoikojaaTB
import Derived.WideKeyEntry
import Derived.Maps.RangeWalk
import Derived.Maps.Views
set_option linter.unusedVariables false
set_option linter.unusedSimpArgs false
set_option maxHeartbeats 8000000
namespace Go.Proofs.Ytoiiellaoikojaa
open Go.RowKit Go.Maps Go.MapKept Go.ChangeMaps
open Go.WideElems (Fit rd rg rd_val elemAt findIdx_born findIdx_arr modify_last set_self)
/-! ### t.rows[r][c] = mark{} -/
inductive MKv : List Res → Value → Int → List Res → Prop
  | h {σ : List Res} {R : Nat} {ms : List Nat} {S : Int → Int → Bool} {i c : Int} : 0 ≤ i → i < ms.length → 0 ≤ c → c < 128 → MKv (Tab R ms S :: σ) (.map (some (gt ms i))) c (Tab R ms (fun a b => S a b || (a == i && b == c)) :: σ)
  | there {q : Res} {σ σ' : List Res} {p : Value} {c : Int} : MKv σ p c σ' → MKv (q :: σ) p c (q :: σ')
section
variable {n : Nat} {w0 : World} {D : List Nat} {Γ : Tm} {σ σ' : List Res} {ops : Array Oper} {o : Oper} {os : List Oper} {Q : QQ} {K : Tm → List Res → Prop}
theorem MKv.ok {p : Value} {c : Int} {x y v : Operand} (h : MKv σ p c σ') (hop : o.op = .mapUpdate TM x y v) (hg : gd Γ ops o = some true) (hd : o.dst = none) (hx : ev Γ x = some p) (hy : ev Γ y = some (.int .i64 c)) (hv : ev Γ v = some (.agg #[])) : ∀ {τ : List Res} {K : Tm → List Res → Prop}, K Γ (τ ++ σ') → OpOK Try.prog n w0 D ops o K Γ (τ ++ σ) := by
  induction h with
  | @h σ R ms S i c h1 h2 h3 h4 =>
    intro τ K hk
    refine ok_mark τ.length (mid_at _ _ _) hop hx hy hv hg hd h1 h2 h3 h4 ?_
    simpa using hk
  | @there q σ σ' p c _ ih =>
    intro τ K hk
    have := ih hx hy (τ := τ ++ [q]) (K := K) (by simpa using hk)
    simpa using this
def mkS (ops : Array Oper) (Γ : Tm) (o : Oper) : Option (Value × Int × Value) := match o.op with
  | .mapUpdate t x y v => match gd Γ ops o with
    | some true => match o.dst with
      | none => cond (Nat.beq t TM) (match ev Γ x with
        | some p => match ev Γ y with
          | some (.int .i64 c) => match ev Γ v with | some u => some (p, c, u) | none => none
          | _ => none
        | none => none) none
      | some _ => none
    | _ => none
  | _ => none
theorem mkS_spec {p : Value} {c : Int} {u : Value} (h : mkS ops Γ o = some (p, c, u)) : ∃ x y v, o.op = .mapUpdate TM x y v ∧ gd Γ ops o = some true ∧ o.dst = none ∧ ev Γ x = some p ∧ ev Γ y = some (.int .i64 c) ∧ ev Γ v = some u := by
  unfold mkS at h
  split at h
  · rename_i t x y v hop
    split at h
    · rename_i hg
      split at h
      · rename_i hd
        cases hb : Nat.beq t TM with
        | false => rw [hb] at h; cases h
        | true =>
          rw [hb] at h
          simp only [cond_true] at h
          have ht := Nat.eq_of_beq_eq_true hb
          subst ht
          split at h
          · rename_i hx
            split at h
            · rename_i hy
              split at h
              · rename_i hv
                simp only [Option.some.injEq, Prod.mk.injEq] at h
                obtain ⟨rfl, rfl, rfl⟩ := h
                exact ⟨x, y, v, hop, hg, hd, hx, hy, hv⟩
              · cases h
            · cases h
          · cases h
      · cases h
    · cases h
  · cases h
theorem gm1 {p : Value} {c : Int} (h : mkS ops Γ o = some (p, c, .agg #[])) (k : WL Try.prog n w0 D ops os Q Γ σ')
    (hv : MKv σ p c σ' := by (repeat (first | exact .h (by omega) (by omega) (by omega) (by omega) | apply MKv.there)) <;> fail) : WL Try.prog n w0 D ops (o :: os) Q Γ σ := by
  obtain ⟨x, y, v, hop, hg, hd, hx, hy, hu⟩ := mkS_spec h
  exact wl_op (hv.ok (τ := []) hop hg hd hx hy hu k)
theorem gm0 {p : Value} {c : Int} (h : mkS ops Γ o = some (p, c, .agg #[])) (k : K Γ σ')
    (hv : MKv σ p c σ' := by (repeat (first | exact .h (by omega) (by omega) (by omega) (by omega) | apply MKv.there)) <;> fail) : OpOK Try.prog n w0 D ops o K Γ σ := by
  obtain ⟨x, y, v, hop, hg, hd, hx, hy, hu⟩ := mkS_spec h
  exact hv.ok (τ := []) hop hg hd hx hy hu k
/-- an empty row, wherever a row is asked -/
theorem pk_nil {α : Type} {e : TypeId} {f : α → Value} {D : List Nat} {w : World} (h : St w0 D σ w) : St w0 D (osl e f none 0 [] :: σ) w :=
  h.push (Only.refl _ _) _ ⟨by simp, .inl ⟨rfl, rfl⟩⟩ (by simp [osl, ownB]) (by simp [osl, ownB])
/-- a truth told in another way -/
theorem wc_tab {c : Code} {Q : QQ} {R : Nat} {ms : List Nat} {S S' : Int → Int → Bool} (h : WC Try.prog n w0 D c Q Γ (Tab R ms S' :: σ)) (e : S = S') : WC Try.prog n w0 D c Q Γ (Tab R ms S :: σ) := e ▸ h
end
/-! ### a table in two: the row of its maps, and the maps -/
def RowM (R : Nat) (ms : List Nat) : Res where
  fp := [R]
  ok := fun w => w.heap[R]? = some (.cells (ms.map fun b => Value.map (some b)).toArray TM (0, 0))
  st := fun w w' h hw => (h R (by simp)).trans hw
def SetsM (ms : List Nat) (S : Int → Int → Bool) : Res where
  fp := ms
  ok := fun w => ∀ r (h : r < ms.length), IsSet w ms[r] (S r)
  st := fun w w' h hw r hr => (hw r hr).st (h _ (List.getElem_mem hr))
section
variable {n : Nat} {w0 : World} {D : List Nat} {Γ : Tm} {σ : List Res} {ops : Array Oper} {o : Oper} {os : List Oper} {Q : QQ} {K : Tm → List Res → Prop} {R : Nat} {ms : List Nat} {S : Int → Int → Bool}
theorem St.split {w : World} : St w0 D (RowM R ms :: SetsM ms S :: σ) w ↔ St w0 D (Tab R ms S :: σ) w := by
  constructor
  · intro h
    refine ⟨h.only, ?_, ?_, ?_, by simpa [Tab, RowM, SetsM] using h.nd⟩
    · intro r hr
      rcases List.mem_cons.1 hr with rfl | hr
      · exact ⟨h.ok (RowM R ms) (by simp), h.ok (SetsM ms S) (by simp)⟩
      · exact h.ok r (by simp [hr])
    · intro r hr b hb
      rcases List.mem_cons.1 hr with rfl | hr
      · simp only [Tab, List.mem_cons] at hb
        rcases hb with rfl | hb
        · exact h.lt (RowM b ms) (by simp) b (by simp [RowM])
        · exact h.lt (SetsM ms S) (by simp) b hb
      · exact h.lt r (by simp [hr]) b hb
    · intro r hr b hb
      rcases List.mem_cons.1 hr with rfl | hr
      · simp only [Tab, List.mem_cons] at hb
        rcases hb with rfl | hb
        · exact h.new (RowM b ms) (by simp) b (by simp [RowM])
        · exact h.new (SetsM ms S) (by simp) b hb
      · exact h.new r (by simp [hr]) b hb
  · intro h
    have h0 : (Tab R ms S).ok w := h.ok _ (by simp)
    refine ⟨h.only, ?_, ?_, ?_, by simpa [Tab, RowM, SetsM] using h.nd⟩
    · intro r hr
      simp only [List.mem_cons] at hr
      rcases hr with rfl | rfl | hr
      · exact h0.1
      · exact h0.2
      · exact h.ok r (by simp [hr])
    · intro r hr b hb
      simp only [List.mem_cons] at hr
      rcases hr with rfl | rfl | hr
      · simp only [RowM, List.mem_singleton] at hb
        subst hb
        exact h.lt (Tab b ms S) (by simp) b (by simp [Tab])
      · exact h.lt (Tab R ms S) (by simp) b (List.mem_cons_of_mem _ hb)
      · exact h.lt r (by simp [hr]) b hb
    · intro r hr b hb
      simp only [List.mem_cons] at hr
      rcases hr with rfl | rfl | hr
      · simp only [RowM, List.mem_singleton] at hb
        subst hb
        exact h.new (Tab b ms S) (by simp) b (by simp [Tab])
      · exact h.new (Tab R ms S) (by simp) b (List.mem_cons_of_mem _ hb)
      · exact h.new r (by simp [hr]) b hb
theorem wc_split {c : Code} (h : WC Try.prog n w0 D c Q Γ (RowM R ms :: SetsM ms S :: σ)) : WC Try.prog n w0 D c Q Γ (Tab R ms S :: σ) := .mk fun a w hs hst => h.run a w hs (St.split.2 hst)
theorem wc_join {c : Code} (h : WC Try.prog n w0 D c Q Γ (Tab R ms S :: σ)) : WC Try.prog n w0 D c Q Γ (RowM R ms :: SetsM ms S :: σ) := .mk fun a w hs hst => h.run a w hs (St.split.1 hst)
theorem wc_splitK {c : Code} (R : Nat) (ms : List Nat) (S : Int → Int → Bool) (h : PickK (Tab R ms S) σ (fun σ' => WC Try.prog n w0 D c Q Γ (RowM R ms :: SetsM ms S :: σ'))) : WC Try.prog n w0 D c Q Γ σ := by
  obtain ⟨σ', hp, h⟩ := h
  exact wc_perm hp (wc_split h)
theorem wc_joinK {c : Code} (R : Nat) (ms : List Nat) (S : Int → Int → Bool) (h : SubK [RowM R ms, SetsM ms S] σ (fun σ' => WC Try.prog n w0 D c Q Γ (Tab R ms S :: σ'))) : WC Try.prog n w0 D c Q Γ σ := by
  obtain ⟨σ', hp, h⟩ := h
  exact wc_perm hp (wc_join h)
theorem gmS {i c : Int} (h : mkS ops Γ o = some (.map (some (gt ms i)), c, .agg #[])) (k : K Γ (SetsM ms (fun a b => S a b || (a == i && b == c)) :: σ)) (h0 : 0 ≤ i) (h1 : i < ms.length) (hc0 : 0 ≤ c) (hc1 : c < 128) : OpOK Try.prog n w0 D ops o K Γ (SetsM ms S :: σ) := by
  obtain ⟨x, y, v, hop, hg, hd, hx, hy, hv⟩ := mkS_spec h
  refine ok_skip hg hd fun w hst f hf => ?_
  have hlt : i.toNat < ms.length := by omega
  have hok : ∀ r (h : r < ms.length), IsSet w ms[r] (S r) := hst.at_ 0 (r := SetsM ms S) rfl
  have hms : gt ms i = ms[i.toNat] := by simp [gt, List.getD_eq_getElem?_getD, List.getElem?_eq_getElem hlt]
  obtain ⟨w', hr, hset, ho⟩ := (hok i.toNat hlt).put hc0 hc1
  have hnd : ms.Nodup := by
    have h5 := hst.nd
    rw [List.flatMap_cons, List.nodup_append] at h5
    exact h5.1
  have hlm : ∀ b ∈ ms, b < w.heap.size := fun b hb => hst.lt (SetsM ms S) (by simp) b hb
  refine ⟨w', _, ?_, hst.set_ 0 (r := SetsM ms S) (r' := SetsM ms (fun a b => S a b || (a == i && b == c))) rfl (ho.mono (by simp [SetsM])) ?_ ?_ hnd, k⟩
  · simp [execOp, hop, hf _ _ hx, hf _ _ hy, hf _ _ hv, hms, hr, Result.andThen]
  · intro r hr
    by_cases e : r = i.toNat
    · subst e
      have e2 : ((i.toNat : Nat) : Int) = i := by omega
      simpa only [e2, beq_self_eq_true, Bool.true_and] using hset
    · have e2 : ((r : Int) == i) = false := by simp; omega
      have := (hok r hr).st (w' := w') (ho.block _ (hlm _ (List.getElem_mem hr)) (by
        simp only [List.mem_singleton]
        exact fun e3 => e ((List.getElem_inj hnd).1 e3)))
      simpa [e2] using this
  · intro b hb
    exact ⟨.inl hb, Nat.lt_of_lt_of_le (hlm b hb) ho.size⟩
theorem ga6 {fuel : Nat} {listed : Array Bool} {σS : List Res} (i : Nat) {oi : Oper} (hi : ops[i]? = some oi) {dd : Nat} {j : Int} (h : ldS n ops Γ oi = some (dd, TM, false, .pointer (some (elA (some ⟨R, 0, none⟩) 1 j)))) (k : WA Try.prog n w0 D σS ops Q fuel (listed.setIfInBounds i true) ((dd, .map (some (gt ms j))) :: Γ) σ)
    (hm : HasR σS (RowM R ms) := by (repeat (first | exact .here | refine .there ?_)) <;> fail) (h0 : 0 ≤ j := by omega) (h1 : j < ms.length := by omega) (hσ : Suf σS σ := by (repeat (first | exact Suf.refl | exact Suf.nil | exact Suf.app _ _ | apply Suf.cons)) <;> fail) (hk : takeOK ops listed i = true := by kernel_rfl) : WA Try.prog n w0 D σS ops Q (fuel + 1) listed Γ σ := by
  obtain ⟨τ, hτ⟩ := hσ.ex
  obtain ⟨x, hop, hg, hd, hb, hx, ht⟩ := ldS_spec h
  obtain ⟨m, hm⟩ := hm.idx
  refine wa_v i τ hi hk hτ hg hd hb (val_of_ld hop hx (v := .map (some (gt ms j))) ?_) k
  intro w hst
  have hb : w.heap[R]? = some (.cells (ms.map fun b => Value.map (some b)).toArray TM (0, 0)) := hst.at_ m hm
  have hlt : j.toNat < ms.length := by omega
  have hc : w.cell? (elA (some ⟨R, 0, none⟩) 1 j) = some (.map (some (gt ms j))) := by
    simp [elA, add_own, World.cell?, hb, gt, hlt, List.getD_eq_getElem?_getD, List.getElem?_eq_getElem hlt]
  simp [Instr.loadAt, Instr.sureAddr, loadVar, run_isAgg ht, hc, Result.andThen]
end
/-! ### patterns that are handed out -/
structure PA where
  A : Option Addr
  c : Nat
  B : Option Addr
  d : Nat
abbrev PA.nil : PA := ⟨none, 0, none, 0⟩
abbrev pvl (x : PA) (p : Pat) : Value := patV p x.A x.c x.B x.d
abbrev pcs (x : PA) (p : Pat) : List Value := [vi p.rows, vi p.width, .slice x.A p.start.length x.c, .slice x.B p.cols.length x.d]
abbrev PatR (x : PA) (p : Pat) : List Res := [osl TI vi x.A x.c p.start, osl TI vi x.B x.d p.cols]
abbrev zP : Pat := ⟨0, 0, [], []⟩
structure RdP (w : World) (x : PA) (p : Pat) : Prop where
  s : Rds vi w x.A x.c p.start
  c : Rds vi w x.B x.d p.cols
structure RdPO (w0 : World) (D : List Nat) (x : PA) (p : Pat) : Prop where
  s : RdO vi w0 D x.A x.c p.start
  c : RdO vi w0 D x.B x.d p.cols
theorem RdPO.now {w0 w : World} {D : List Nat} {σ : List Res} {x : PA} {p : Pat} (h : RdPO w0 D x p) (hst : St w0 D σ w) : RdP w x p := ⟨h.s.now hst, h.c.now hst⟩
theorem RdPO.later {w0 w : World} {D : List Nat} {σ : List Res} {x : PA} {p : Pat} (h : RdPO w0 D x p) (hst : St w0 D σ w) : RdPO w (σ.flatMap Res.fp) x p := ⟨h.s.later hst, h.c.later hst⟩
theorem RdP.old {w : World} {x : PA} {p : Pat} (h : RdP w x p) : RdPO w [] x p := ⟨h.s.old, h.c.old⟩
theorem rdP_nil (w : World) : RdP w .nil zP := ⟨osl_reads (e := TI) (f := vi) ⟨by simp, .inl ⟨rfl, rfl⟩⟩, osl_reads (e := TI) (f := vi) ⟨by simp, .inl ⟨rfl, rfl⟩⟩⟩
theorem grdP {w0 w : World} {D : List Nat} {σ : List Res} {x : PA} {p : Pat} (hst : St w0 D σ w) (h1 : HasR σ (osl TI vi x.A x.c p.start) := by (repeat (first | exact .here | refine .there ?_)) <;> fail) (h2 : HasR σ (osl TI vi x.B x.d p.cols) := by (repeat (first | exact .here | refine .there ?_)) <;> fail) : RdP w x p := ⟨osl_reads (h1.st hst), osl_reads (h2.st hst)⟩
theorem nat_cast_toNat {m : Nat} {x : Int} (h : (m : Int) = x) : m = x.toNat := by omega
/-- a pattern that is ours, given a pattern elsewhere that is still to be read: apart -/
theorem RdP.mk' {w : World} {p : Pat} {A B : Option Addr} {c d : Nat} (hA : Rds vi w A c p.start) (hB : Rds vi w B d p.cols) : RdP w ⟨A, c, B, d⟩ p := ⟨hA, hB⟩
theorem samePattern_c {p q : Pat} {x y : PA} (w : World) (hp : RdP w x p) (hq : RdP w y q) (b : Bool) (hb : b = true ↔ p = q) :
    Calls Try.prog 19 [pvl x p, pvl y q].toArray w (one (.bool b) w) := by
  have os := hp.s.old
  have oc := hp.c.old
  have os' := hq.s.old
  have oc' := hq.c.old
  have hno : p ≠ q → b = false := fun h => by cases b with | false => rfl | true => exact absurd (hb.1 rfl) h
  unfold pvl patV
  by_cases h1 : p.rows = q.rows
  · by_cases h2 : p.width = q.width
    · by_cases h3 : p.start = q.start
      · obtain ⟨b', hb'⟩ : ∃ b' : Bool, b' = true ↔ p.cols = q.cols := by classical exact ⟨decide (p.cols = q.cols), by simp⟩
        obtain rfl : b' = b := by
          rw [Bool.eq_iff_iff, hb, hb']
          exact ⟨fun h => by cases p; cases q; simp_all, fun h => by rw [h]⟩
        refine calls_wc [] [] [.tmp 4] (fun _ => [.bool b']) Try.func19 rfl rfl (fun _ => rfl) Try.ntmps19 rfl (Own.nil w) rfl ?_
        refine gg ?_
        refine wl_op (ok_box rfl rfl rfl rfl rfl ?_); intro b1
        refine wl_op (ok_box rfl rfl rfl rfl rfl ?_); intro b2
        refine gg ?_
        refine gc1 (fun w hst => sameInts_c w (os.now hst) (os'.now hst) true (by simp [h3])) (by exact rfl) ?_
        refine gg ?_
        refine gc1 (fun w hst => sameInts_c w (oc.now hst) (oc'.now hst) b' hb') (by exact rfl) ?_
        refine gg ?_
        exact grt () trivial
      · obtain rfl := hno fun h => h3 (by rw [h])
        refine calls_wc [] [] [.tmp 4] (fun _ => [.bool false]) Try.func19 rfl rfl (fun _ => rfl) Try.ntmps19 rfl (Own.nil w) rfl ?_
        refine gg ?_
        refine wl_op (ok_box rfl rfl rfl rfl rfl ?_); intro b1
        refine wl_op (ok_box rfl rfl rfl rfl rfl ?_); intro b2
        refine gg ?_
        refine gc1 (fun w hst => sameInts_c w (os.now hst) (os'.now hst) false (by simp [h3])) (by exact rfl) ?_
        refine gg ?_
        exact grt () trivial
    · obtain rfl := hno fun h => h2 (by rw [h])
      refine calls_wc [] [] [.tmp 4] (fun _ => [.bool false]) Try.func19 rfl rfl (fun _ => rfl) Try.ntmps19 rfl (Own.nil w) rfl ?_
      refine gg ?_
      refine wl_op (ok_box rfl rfl rfl rfl rfl ?_); intro b1
      refine wl_op (ok_box rfl rfl rfl rfl rfl ?_); intro b2
      refine gg ?_
      exact grt () trivial
  · obtain rfl := hno fun h => h1 (by rw [h])
    refine calls_wc [] [] [.tmp 4] (fun _ => [.bool false]) Try.func19 rfl rfl (fun _ => rfl) Try.ntmps19 rfl (Own.nil w) rfl ?_
    refine gg ?_
    refine wl_op (ok_box rfl rfl rfl rfl rfl ?_); intro b1
    refine wl_op (ok_box rfl rfl rfl rfl rfl ?_); intro b2
    refine gg ?_
    exact grt () trivial
section
variable {n : Nat} {w0 : World} {D : List Nat} {Γ : Tm} {σ : List Res} {ops : Array Oper} {o : Oper} {os : List Oper} {Q : QQ} {K : Tm → List Res → Prop}
/-- '[]int{x}' -/
def bsS (n : Nat) (ops : Array Oper) (Γ : Tm) (o : Oper) : Option (Nat × Int) := match o.op with
  | .buildSlice t 1 ⟨[(0, x)]⟩ => match gd Γ ops o with
    | some true => match o.dst with
      | some dd => cond (Nat.blt dd n) (cond (Nat.beq t TIs) (match ev Γ x with | some (.int .i64 v) => some (dd, v) | _ => none) none) none
      | none => none
    | _ => none
  | _ => none
theorem bsS_spec {dd : Nat} {v : Int} (h : bsS n ops Γ o = some (dd, v)) : ∃ x, o.op = .buildSlice TIs 1 #[(0, x)] ∧ gd Γ ops o = some true ∧ o.dst = some dd ∧ Nat.blt dd n = true ∧ ev Γ x = some (vi v) := by
  unfold bsS at h
  split at h
  · rename_i t x hop
    split at h
    · rename_i hg
      split at h
      · rename_i dd' hd
        cases hb : Nat.blt dd' n with
        | false => rw [hb] at h; cases h
        | true =>
          cases hc : Nat.beq t TIs with
          | false => rw [hb, hc] at h; cases h
          | true =>
            rw [hb, hc] at h
            simp only [cond_true] at h
            have ht := Nat.eq_of_beq_eq_true hc
            subst ht
            split at h
            · rename_i hx
              simp only [Option.some.injEq, Prod.mk.injEq] at h
              obtain ⟨rfl, rfl⟩ := h
              exact ⟨x, hop, hg, hd, hb, hx⟩
            · cases h
      · cases h
    · cases h
  · cases h
theorem gbi0 {dd : Nat} {v : Int} (h : bsS n ops Γ o = some (dd, v)) (k : ∀ b, K ((dd, .slice (some ⟨b, 0, none⟩) 1 1) :: Γ) (osl TI vi (some ⟨b, 0, none⟩) 1 [v] :: σ)) : OpOK Try.prog n w0 D ops o K Γ σ := by
  obtain ⟨x, hop, hg, hd, hb, hx⟩ := bsS_spec h
  exact ok_build1 vi v hop hx hg hd hb (el_of rfl) (ze_of rfl) rfl (sz_of rfl) rfl k
theorem gbi {dd : Nat} {v : Int} (h : bsS n ops Γ o = some (dd, v)) (k : ∀ b, WL Try.prog n w0 D ops os Q ((dd, .slice (some ⟨b, 0, none⟩) 1 1) :: Γ) (osl TI vi (some ⟨b, 0, none⟩) 1 [v] :: σ)) : WL Try.prog n w0 D ops (o :: os) Q Γ σ :=
  wl_op (gbi0 h k)
inductive APv : List Res → Option Addr → Nat → List Int → List Int → (Option Addr → Nat → List Res) → Prop
  | h {σ : List Res} {A : Option Addr} {c : Nat} {xs ys : List Int} : APv (osl TI vi A c xs :: σ) A c xs ys (fun A' c' => osl TI vi A' c' (xs ++ ys) :: σ)
  | there {q : Res} {σ : List Res} {A : Option Addr} {c : Nat} {xs ys : List Int} {σ' : Option Addr → Nat → List Res} : APv σ A c xs ys σ' → APv (q :: σ) A c xs ys (fun A' c' => q :: σ' A' c')
theorem APv.idx {A : Option Addr} {c : Nat} {xs ys : List Int} {σ' : Option Addr → Nat → List Res} (h : APv σ A c xs ys σ') : ∃ i, σ[i]? = some (osl TI vi A c xs) ∧ ∀ A' c', σ.set i (osl TI vi A' c' (xs ++ ys)) = σ' A' c' := by
  induction h with
  | h => exact ⟨0, rfl, fun _ _ => rfl⟩
  | there _ ih =>
    obtain ⟨i, h1, h2⟩ := ih
    exact ⟨i + 1, by simpa using h1, fun A' c' => by simp [h2]⟩
/-- 'append(s, y...)' on ints -/
def apS (n : Nat) (ops : Array Oper) (Γ : Tm) (o : Oper) : Option (Nat × Option Addr × Nat × Nat × Option Addr × Nat × Nat) := match o.op with
  | .call ⟨.builtin .append, ⟨[x, y]⟩, ⟨[t, t']⟩⟩ => match gd Γ ops o with
    | some true => match o.dst with
      | some dd => cond (Nat.blt dd n) (cond (Nat.beq t TIs) (cond (Nat.beq t' TIs) (match ev Γ x with
        | some (.slice A a c) => match ev Γ y with | some (.slice B b d) => some (dd, A, a, c, B, b, d) | _ => none
        | _ => none) none) none) none
      | none => none
    | _ => none
  | _ => none
theorem apS_spec {dd : Nat} {A B : Option Addr} {a b c d : Nat} (h : apS n ops Γ o = some (dd, A, a, c, B, b, d)) : ∃ x y, o.op = .call { callee := .builtin .append, args := #[x, y], argTypes := #[TIs, TIs] } ∧ gd Γ ops o = some true ∧ o.dst = some dd ∧ Nat.blt dd n = true ∧ ev Γ x = some (.slice A a c) ∧ ev Γ y = some (.slice B b d) := by
  unfold apS at h
  split at h
  · rename_i x y t t' hop
    split at h
    · rename_i hg
      split at h
      · rename_i dd' hd
        cases hb : Nat.blt dd' n with
        | false => rw [hb] at h; cases h
        | true =>
          cases hc : Nat.beq t TIs with
          | false => rw [hb, hc] at h; cases h
          | true =>
            cases hc' : Nat.beq t' TIs with
            | false => rw [hb, hc, hc'] at h; cases h
            | true =>
              rw [hb, hc, hc'] at h
              simp only [cond_true] at h
              have ht := Nat.eq_of_beq_eq_true hc
              have ht' := Nat.eq_of_beq_eq_true hc'
              subst ht ht'
              split at h
              · rename_i hx
                split at h
                · rename_i hy
                  simp only [Option.some.injEq, Prod.mk.injEq] at h
                  obtain ⟨rfl, rfl, rfl, rfl, rfl, rfl, rfl⟩ := h
                  exact ⟨x, y, hop, hg, hd, hb, hx, hy⟩
                · cases h
              · cases h
      · cases h
    · cases h
  · cases h
theorem gap0 {dd : Nat} {A : Option Addr} {bd : Addr} {c d : Nat} {xs ys : List Int} {σ' : Option Addr → Nat → List Res} (h : apS n ops Γ o = some (dd, A, xs.length, c, some bd, ys.length, d)) (hl : xs.length + ys.length ≤ 17592186044416)
    (k : ∀ A' c', K ((dd, .slice A' (xs ++ ys).length c') :: Γ) (σ' A' c'))
    (hA : APv σ A c xs ys σ' := by (repeat (first | exact .h | apply APv.there)) <;> fail) (hy : HasR σ (osl TI vi (some bd) d ys) := by (repeat (first | exact .here | refine .there ?_)) <;> fail) : OpOK Try.prog n w0 D ops o K Γ σ := by
  obtain ⟨x, y, hop, hg, hd, hb, hx, hy'⟩ := apS_spec h
  obtain ⟨i, h1, h2⟩ := hA.idx
  exact ok_append i vi hop hx hy' h1 hg hd hb (el_of rfl) (ze_of rfl) rfl (sz_of rfl) (by_of rfl) ⟨_, rfl⟩ (fun w hst => osl_reads (hy.st hst)) (fun _ => rfl) (by omega) (by omega) (fun A' c' => by rw [h2]; exact k A' c')
theorem gap {dd : Nat} {A : Option Addr} {bd : Addr} {c d : Nat} {xs ys : List Int} {σ' : Option Addr → Nat → List Res} (h : apS n ops Γ o = some (dd, A, xs.length, c, some bd, ys.length, d)) (hl : xs.length + ys.length ≤ 17592186044416)
    (k : ∀ A' c', WL Try.prog n w0 D ops os Q ((dd, .slice A' (xs ++ ys).length c') :: Γ) (σ' A' c'))
    (hA : APv σ A c xs ys σ' := by (repeat (first | exact .h | apply APv.there)) <;> fail) (hy : HasR σ (osl TI vi (some bd) d ys) := by (repeat (first | exact .here | refine .there ?_)) <;> fail) : WL Try.prog n w0 D ops (o :: os) Q Γ σ :=
  wl_op (gap0 h hl k hA hy)
/-- append of one int just built -/
theorem gpush {dd d1 : Nat} {A : Option Addr} {c : Nat} {xs : List Int} {v : Int} {o2 : Oper} {σ' : Option Addr → Nat → List Res} (h1 : bsS n ops Γ o = some (d1, v)) (h : ∀ b : Nat, apS n ops ((d1, .slice (some ⟨b, 0, none⟩) 1 1) :: Γ) o2 = some (dd, A, xs.length, c, some ⟨b, 0, none⟩, 1, 1))
    (k : ∀ b A' c', WL Try.prog n w0 D ops os Q ((dd, .slice A' (xs ++ [v]).length c') :: (d1, .slice (some ⟨b, 0, none⟩) 1 1) :: Γ) (σ' A' c'))
    (hA : APv σ A c xs [v] σ' := by (repeat (first | exact .h | apply APv.there)) <;> fail) (hl : xs.length + 1 ≤ 17592186044416 := by omega) : WL Try.prog n w0 D ops (o :: o2 :: os) Q Γ σ := by
  refine gbi h1 fun b => ?_
  obtain ⟨x, y, hop, hg, hd, hb, hx, hy'⟩ := apS_spec (h b)
  obtain ⟨i, h1, h2⟩ := hA.idx
  refine wl_op (ok_append (i + 1) vi (ys := [v]) hop hx hy' (by simpa using h1) hg hd hb (el_of rfl) (ze_of rfl) rfl (sz_of rfl) (by_of rfl) ⟨_, rfl⟩ (fun w hst => osl_reads (hst.at_ 0 rfl)) (fun _ => rfl) (by simp only [List.length_singleton]; omega) (by simp only [List.length_singleton]; omega) (fun A' c' => ?_))
  rw [List.set_cons_succ, h2]
  exact ⟨fun a w hs hst => (k b A' c').run a w hs hst.drop⟩
/-- truths compared -/
theorem run_eqb {P : Program} {t : TypeId} {a b : Bool} (hu : P.underlying t = some .bool) (w : World) : (Op.equal t (.bool a) (.bool b)).run P w = .ok (a == b) w := by
  unfold Op.equal
  show (Op.equalIn (9999 + 1) t (.bool a) (.bool b)).run P w = _
  unfold Op.equalIn
  simp [run_underlying hu, Result.andThen]
theorem val_eqb {P : Program} {t t2 : TypeId} {x y : Operand} {a b : Bool} (hu : P.underlying t = some .bool) (hop : o.op = .binOp .eql t x y t2) (hx : ev Γ x = some (.bool a)) (hy : ev Γ y = some (.bool b)) : ValOK P w0 D σ Γ o (.bool (a == b)) :=
  ⟨fun w hst g hg => by simp [execOp, hop, hg _ _ hx, hg _ _ hy, eqGuard, binOp, Result.andThen, run_eqb hu w]⟩
theorem val_neb {P : Program} {t t2 : TypeId} {x y : Operand} {a b : Bool} (hu : P.underlying t = some .bool) (hop : o.op = .binOp .neq t x y t2) (hx : ev Γ x = some (.bool a)) (hy : ev Γ y = some (.bool b)) : ValOK P w0 D σ Γ o (.bool (!(a == b))) :=
  ⟨fun w hst g hg => by simp [execOp, hop, hg _ _ hx, hg _ _ hy, eqGuard, binOp, Result.andThen, run_eqb hu w]⟩
theorem uB : Try.prog.underlying TB = some .bool := by kernel_rfl
/-- a call of one value, in a region that draws -/
theorem gc10 {dd : Nat} {f : FuncId} {vs : List Value} {v : Value} (hc : ∀ w, St w0 D σ w → Calls Try.prog f vs.toArray w (one v w)) (h : caS n ops Γ o = some (dd, f, vs)) (k : K ((dd, v) :: Γ) σ) : OpOK Try.prog n w0 D ops o K Γ σ := by
  obtain ⟨args, tys, hop, hg, hd, hb, ha, hbod⟩ := caS_spec h
  exact ok_call1 hc hop ha hbod hg hd hb k
/-- a new row, empty, that needs no memory -/
theorem gnil {c : Code} {P : Program} (h : WC P n w0 D c Q Γ (osl TI vi none 0 [] :: σ)) : WC P n w0 D c Q Γ σ := .mk fun a w hs hst => h.run a w hs (pk_nil hst)
/-- 'make([]T, l, c)' of one-cell elements -/
theorem gmk {α : Type} (f : α → Value) (z : α) {t e : TypeId} {x y : Operand} {l c : Int} {bytes dd : Nat} (hop : o.op = .makeSlice t x y) (hx : ev Γ x = some (.int .i64 l)) (hy : ev Γ y = some (.int .i64 c))
    (hg : gd Γ ops o = some true) (hd : o.dst = some dd) (hdn : Nat.blt dd n = true) (ht : lookN elT t = some e) (hz : lookN zeT e = some (f z)) (hz1 : (f z).cells = #[f z]) (hs : lookN szT e = some 1) (hb : lookN byT e = some bytes)
    (h0 : 0 ≤ l) (hlc : l ≤ c) (hcb : (bytes : Int) * c ≤ 281474976710656) (hc : c ≤ 281474976710656)
    (h : ∀ b, WL Try.prog n w0 D ops os Q ((dd, .slice (some ⟨b, 0, none⟩) l.toNat c.toNat) :: Γ) (osl e f (some ⟨b, 0, none⟩) c.toNat (List.replicate l.toNat z) :: σ)) : WL Try.prog n w0 D ops (o :: os) Q Γ σ :=
  wl_op (ok_makeSlice f z hop hx hy hg hd hdn (el_of ht) (ze_of hz) hz1 (sz_of hs) (by_of hb) h0 hlc hcb hc (fun b => by rw [List.length_replicate]; exact h b))
end
/-- block b is a map, each of whose elements is the mark; an entry is there that was born at s -/
def Born (w : World) (b : Nat) (s : Int) : Prop := ∃ (es : Array MapEntry) (clock j : Nat) (e0 : MapEntry), w.heap[b]? = some (.map es clock) ∧ es[j]? = some e0 ∧ (e0.born : Int) = s
theorem Born.st {w w' : World} {b : Nat} {s : Int} (h : Born w b s) (hb : w'.heap[b]? = w.heap[b]?) : Born w' b s := by
  obtain ⟨es, clock, j, e0, h1, h2, h3⟩ := h
  exact ⟨es, clock, j, e0, hb.trans h1, h2, h3⟩
theorem IsSet.fit {w : World} {b : Nat} {f : Int → Bool} (h : IsSet w b f) : ∃ es clock, w.heap[b]? = some (.map es clock) ∧ Fit Try.prog TI (unitElem (H := Unit)) es clock ∧ ∀ e ∈ es.toList, e.val = .agg #[] := by
  obtain ⟨D, ⟨es, clock, h1, F, h3, h4⟩, _⟩ := h
  refine ⟨es, clock, h1, F, fun e he => ?_⟩
  obtain ⟨y, hy⟩ := F.reads e he
  obtain ⟨z, hz, _⟩ := rd_val hy
  exact (unitElem_inv hz).1
theorem Fit_keys {es : Array MapEntry} {clock : Nat} (F : Fit Try.prog TI (unitElem (H := Unit)) es clock) : ∀ e ∈ es.toList, ∃ l, keyOf Try.prog TI e.key = some l := fun e he => by
  obtain ⟨y, hy⟩ := F.reads e he
  exact ⟨_, Go.WideElems.rd_key hy⟩
/-- '&m[c]' of a set: the place is marked -/
theorem IsSet.entry {w : World} {b : Nat} {f : Int → Bool} (h : IsSet w b f) {c : Int} (h0 : 0 ≤ c) (h1 : c < 128) :
    ∃ (w' : World) (s : Int), (Instr.mapEntry TM (.map (some b)) (.int .i64 c)).run Try.prog w = .ok (.tuple #[.agg #[], .int .i64 s]) w' ∧ IsSet w' b (fun x => f x || x == c) ∧ Only [b] w w' ∧ Born w' b s ∧ ∀ s', Born w b s' → Born w' b s' := by
  obtain ⟨es, clock, hb, F, hu⟩ := h.fit
  obtain ⟨s1, s2, _⟩ := F.stamped
  have hkey : keyOf Try.prog TI (.int .i64 c) = some (.int .i64 c) := keyOf_int_mk Try.underlying3 (wf64 h0 h1)
  obtain ⟨w', hr, hset, ho⟩ := h.put h0 h1
  have hz : ∀ u : World, (zeroValue 122).run Try.prog u = .ok (.agg #[]) u := fun u => run_zeroValue' (ze_of rfl)
  rcases keyedI.find w hkey es.toList (Fit_keys F) with ⟨e1, e2⟩ | ⟨j, e0, e1, e2, e3⟩
  · have hup : w' = setBlock w b (.map (es.push ⟨.int .i64 c, .agg #[], clock⟩) (clock + 1)) := by
      have : (Instr.mapUpdate TM (.map (some b)) (.int .i64 c) (.agg #[])).run Try.prog w = .ok () (setBlock w b (.map (es.push ⟨.int .i64 c, .agg #[], clock⟩) (clock + 1))) := by
        simp [Instr.mapUpdate, run_underlying underM, MapKept.run_getObj_map hb, keyedI.check w false hkey, e1, MapKept.run_setObj_map _ hb, Result.andThen, setBlock]
      rw [this] at hr
      exact (Result.ok.inj hr).2.symm
    have hb' : w'.heap[b]? = some (.map (es.push ⟨.int .i64 c, .agg #[], clock⟩) (clock + 1)) := by rw [hup]; exact heap_setBlock_same hb _
    refine ⟨w', clock, ?_, hset, ho, ⟨_, _, es.size, ⟨.int .i64 c, .agg #[], clock⟩, hb', by simp, rfl⟩, ?_⟩
    · rw [hup]
      simp [Instr.mapEntry, run_underlying underM, MapKept.run_getObj_map hb, keyedI.check w false hkey, e1, hz, MapKept.run_setObj_map _ hb, Result.andThen, setBlock, goInt]
    · rintro s' ⟨es2, clock2, j, e0, g1, g2, g3⟩
      rw [hb] at g1
      simp only [Option.some.injEq, Obj.map.injEq] at g1
      obtain ⟨rfl, rfl⟩ := g1
      have hj : j < es.size := (Array.getElem?_eq_some_iff.1 g2).1
      exact ⟨_, _, j, e0, hb', by rw [Array.getElem?_push, if_neg (by omega)]; exact g2, g3⟩
  · have hj : es[j]? = some e0 := by simpa using e2
    have hv : e0.val = .agg #[] := hu e0 (List.mem_of_getElem? e2)
    have hsame : es.modify j (fun e => { e with key := .int .i64 c }) = es := by
      apply Array.ext'
      rw [Array.toList_modify, modify_eq_set _ _ _ _ e2]
      have : ({ e0 with key := .int .i64 c } : MapEntry) = e0 := by rw [← e3]
      rw [this]
      exact set_self _ _ _ e2
    have hsame2 : es.modify j (fun e => { e with key := .int .i64 c, val := .agg #[] }) = es := by
      apply Array.ext'
      rw [Array.toList_modify, modify_eq_set _ _ _ _ e2]
      have : ({ e0 with key := .int .i64 c, val := .agg #[] } : MapEntry) = e0 := by rw [← e3, ← hv]
      rw [this]
      exact set_self _ _ _ e2
    have hup : w' = setBlock w b (.map es clock) := by
      have : (Instr.mapUpdate TM (.map (some b)) (.int .i64 c) (.agg #[])).run Try.prog w = .ok () (setBlock w b (.map es clock)) := by
        simp [Instr.mapUpdate, run_underlying underM, MapKept.run_getObj_map hb, keyedI.check w false hkey, e1, hj, e3, keyedI.stays w hkey, hsame2, MapKept.run_setObj_map _ hb, Result.andThen, setBlock]
      rw [this] at hr
      exact (Result.ok.inj hr).2.symm
    have hb' : w'.heap[b]? = some (.map es clock) := by rw [hup]; exact heap_setBlock_same hb _
    refine ⟨w', e0.born, ?_, hset, ho, ⟨_, _, j, e0, hb', hj, rfl⟩, fun s' hs => hs.st (hb'.trans hb.symm)⟩
    rw [hup]
    simp [Instr.mapEntry, run_underlying underM, MapKept.run_getObj_map hb, keyedI.check w false hkey, e1, hj, e3, keyedI.stays w hkey, hsame, MapKept.run_setObj_map _ hb, Result.andThen, setBlock, goInt, hv]
/-- the mark is stored at an entry that is there: nothing changes -/
theorem IsSet.store {w : World} {b : Nat} {f : Int → Bool} (h : IsSet w b f) {s : Int} (hs : Born w b s) :
    ∃ w' : World, (Instr.entryStore TM (.map (some b)) (.int .i64 s) (.agg #[])).run Try.prog w = .ok () w' ∧ Only [] w w' := by
  obtain ⟨es, clock, hb, F, hu⟩ := h.fit
  obtain ⟨s1, s2, _⟩ := F.stamped
  obtain ⟨es2, clock2, j, e0, g1, g2, g3⟩ := hs
  rw [hb] at g1
  simp only [Option.some.injEq, Obj.map.injEq] at g1
  obtain ⟨rfl, rfl⟩ := g1
  subst g3
  have e2 : es.toList[j]? = some e0 := by simpa using g2
  have hv : e0.val = .agg #[] := hu e0 (List.mem_of_getElem? e2)
  have hidx : es.findIdx? (fun e => ((e.born : Nat) : Int) == ((e0.born : Nat) : Int)) = some j := by
    rw [findIdx_arr]
    exact findIdx_born s2 e2
  have hmod : es.modify j (fun e => { e with val := .agg #[] }) = es := by
    apply Array.ext'
    rw [Array.toList_modify, modify_eq_set _ _ _ _ e2]
    have : ({ e0 with val := .agg #[] } : MapEntry) = e0 := by rw [← hv]
    rw [this]
    exact set_self _ _ _ e2
  refine ⟨setBlock w b (.map es clock), ?_, ⟨rfl, rfl, rfl, by simp [setBlock], fun c hc _ => ?_⟩⟩
  · simp [Instr.entryStore, MapKept.run_getObj_map hb, asInt, asIntOf, hidx, hmod, MapKept.run_setObj_map _ hb, Result.andThen, setBlock]
  · by_cases e : c = b
    · subst e; rw [heap_setBlock_same hb _, hb]
    · exact heap_setBlock_other hb _ (fun e' => e e')
/-- the maps of a table, some entries being at hand -/
def SetsB (ms : List Nat) (S : Int → Int → Bool) (L : List (Int × Int)) : Res where
  fp := ms
  ok := fun w => (∀ r (h : r < ms.length), IsSet w ms[r] (S r)) ∧ ∀ p ∈ L, 0 ≤ p.1 ∧ ∃ h : p.1.toNat < ms.length, Born w ms[p.1.toNat] p.2
  st := fun w w' h hw => ⟨fun r hr => (hw.1 r hr).st (h _ (List.getElem_mem hr)), fun p hp => by
    obtain ⟨h0, h1, h2⟩ := hw.2 p hp
    exact ⟨h0, h1, h2.st (h _ (List.getElem_mem h1))⟩⟩
section
variable {n : Nat} {w0 : World} {D : List Nat} {Γ : Tm} {σ : List Res} {ops : Array Oper} {o : Oper} {os : List Oper} {Q : QQ} {K : Tm → List Res → Prop} {R : Nat} {ms : List Nat} {S : Int → Int → Bool} {L : List (Int × Int)}
theorem setsB_nil : SetsB ms S [] = SetsM ms S ∨ True := .inr trivial
theorem wc_toB {c : Code} (h : WC Try.prog n w0 D c Q Γ (SetsB ms S [] :: σ)) : WC Try.prog n w0 D c Q Γ (SetsM ms S :: σ) :=
  wc_conv 0 (r := SetsM ms S) (r' := SetsB ms S []) rfl rfl (fun w hw => ⟨hw, by simp⟩) h
theorem wc_fromB {c : Code} (h : WC Try.prog n w0 D c Q Γ (SetsM ms S :: σ)) : WC Try.prog n w0 D c Q Γ (SetsB ms S L :: σ) :=
  wc_conv 0 (r := SetsB ms S L) (r' := SetsM ms S) rfl rfl (fun w hw => hw.1) h
def meS (n : Nat) (ops : Array Oper) (Γ : Tm) (o : Oper) : Option (Nat × Value × Int) := match o.op with
  | .mapEntry t x y => match gd Γ ops o with
    | some true => match o.dst with
      | some dd => cond (Nat.blt dd n) (cond (Nat.beq t TM) (match ev Γ x with
        | some p => match ev Γ y with | some (.int .i64 c) => some (dd, p, c) | _ => none
        | none => none) none) none
      | none => none
    | _ => none
  | _ => none
theorem meS_spec {dd : Nat} {p : Value} {c : Int} (h : meS n ops Γ o = some (dd, p, c)) : ∃ x y, o.op = .mapEntry TM x y ∧ gd Γ ops o = some true ∧ o.dst = some dd ∧ Nat.blt dd n = true ∧ ev Γ x = some p ∧ ev Γ y = some (.int .i64 c) := by
  unfold meS at h
  split at h
  · rename_i t x y hop
    split at h
    · rename_i hg
      split at h
      · rename_i dd' hd
        cases hb : Nat.blt dd' n with
        | false => rw [hb] at h; cases h
        | true =>
          cases hc : Nat.beq t TM with
          | false => rw [hb, hc] at h; cases h
          | true =>
            rw [hb, hc] at h
            simp only [cond_true] at h
            have ht := Nat.eq_of_beq_eq_true hc
            subst ht
            split at h
            · rename_i hx
              split at h
              · rename_i hy
                simp only [Option.some.injEq, Prod.mk.injEq] at h
                obtain ⟨rfl, rfl, rfl⟩ := h
                exact ⟨x, y, hop, hg, hd, hb, hx, hy⟩
              · cases h
            · cases h
      · cases h
    · cases h
  · cases h
def esS (ops : Array Oper) (Γ : Tm) (o : Oper) : Option (Value × Int × Value) := match o.op with
  | .entryStore t x y v => match gd Γ ops o with
    | some true => match o.dst with
      | none => cond (Nat.beq t TM) (match ev Γ x with
        | some p => match ev Γ y with
          | some (.int .i64 c) => match ev Γ v with | some u => some (p, c, u) | none => none
          | _ => none
        | none => none) none
      | some _ => none
    | _ => none
  | _ => none
theorem esS_spec {p : Value} {c : Int} {u : Value} (h : esS ops Γ o = some (p, c, u)) : ∃ x y v, o.op = .entryStore TM x y v ∧ gd Γ ops o = some true ∧ o.dst = none ∧ ev Γ x = some p ∧ ev Γ y = some (.int .i64 c) ∧ ev Γ v = some u := by
  unfold esS at h
  split at h
  · rename_i t x y v hop
    split at h
    · rename_i hg
      split at h
      · rename_i hd
        cases hb : Nat.beq t TM with
        | false => rw [hb] at h; cases h
        | true =>
          rw [hb] at h
          simp only [cond_true] at h
          have ht := Nat.eq_of_beq_eq_true hb
          subst ht
          split at h
          · rename_i hx
            split at h
            · rename_i hy
              split at h
              · rename_i hv
                simp only [Option.some.injEq, Prod.mk.injEq] at h
                obtain ⟨rfl, rfl, rfl⟩ := h
                exact ⟨x, y, v, hop, hg, hd, hx, hy, hv⟩
              · cases h
            · cases h
          · cases h
      · cases h
    · cases h
  · cases h
theorem nodup_head {r : Res} (hst : ∀ w, St w0 D (r :: σ) w → r.fp.Nodup) : True := trivial
theorem gme {dd : Nat} {i c : Int} (h : meS n ops Γ o = some (dd, .map (some (gt ms i)), c)) (h0 : 0 ≤ i) (h1 : i < ms.length) (hc0 : 0 ≤ c) (hc1 : c < 128)
    (k : ∀ s, K ((dd, .tuple #[.agg #[], .int .i64 s]) :: Γ) (SetsB ms (fun a b => S a b || (a == i && b == c)) ((i, s) :: L) :: σ)) : OpOK Try.prog n w0 D ops o K Γ (SetsB ms S L :: σ) := by
  obtain ⟨x, y, hop, hg, hd, hb, hx, hy⟩ := meS_spec h
  refine ok_run hg hd hb fun w hst f hf => ?_
  have hlt : i.toNat < ms.length := by omega
  have hok : (SetsB ms S L).ok w := hst.at_ 0 rfl
  have hms : gt ms i = ms[i.toNat] := by simp [gt, List.getD_eq_getElem?_getD, List.getElem?_eq_getElem hlt]
  obtain ⟨w', s, hr, hset, ho, hbn, hold⟩ := (hok.1 i.toNat hlt).entry hc0 hc1
  have hnd : ms.Nodup := by
    have h5 := hst.nd
    rw [List.flatMap_cons, List.nodup_append] at h5
    exact h5.1
  have hlm : ∀ b ∈ ms, b < w.heap.size := fun b hb => hst.lt (SetsB ms S L) (by simp) b hb
  have hother : ∀ r (hr : r < ms.length), r ≠ i.toNat → w'.heap[ms[r]]? = w.heap[ms[r]]? := fun r hr e =>
    ho.block _ (hlm _ (List.getElem_mem hr)) (by
      simp only [List.mem_singleton]
      exact fun e3 => e ((List.getElem_inj hnd).1 e3))
  refine ⟨_, w', _, ?_, hst.set_ 0 (r := SetsB ms S L) (r' := SetsB ms (fun a b => S a b || (a == i && b == c)) ((i, s) :: L)) rfl (ho.mono (by simp [SetsB])) ?_ ?_ hnd, k s⟩
  · simp [execOp, hop, hf _ _ hx, hf _ _ hy, hms, hr, Result.andThen]
  · refine ⟨fun r hr => ?_, fun p hp => ?_⟩
    · by_cases e : r = i.toNat
      · subst e
        have e2 : ((i.toNat : Nat) : Int) = i := by omega
        simpa only [e2, beq_self_eq_true, Bool.true_and] using hset
      · have e2 : ((r : Int) == i) = false := by simp; omega
        have := (hok.1 r hr).st (hother r hr e)
        simpa [e2] using this
    · rcases List.mem_cons.1 hp with rfl | hp
      · exact ⟨h0, hlt, hbn⟩
      · obtain ⟨p0, p1, p2⟩ := hok.2 p hp
        refine ⟨p0, p1, ?_⟩
        by_cases e : p.1.toNat = i.toNat
        · have : ms[p.1.toNat] = ms[i.toNat] := by congr 1
          rw [this] at p2 ⊢
          exact hold _ p2
        · exact p2.st (hother _ p1 e)
  · intro b hb
    exact ⟨.inl hb, Nat.lt_of_lt_of_le (hlm b hb) ho.size⟩
theorem ges {i s : Int} (h : esS ops Γ o = some (.map (some (gt ms i)), s, .agg #[])) (hL : (i, s) ∈ L) (k : K Γ (SetsB ms S L :: σ)) : OpOK Try.prog n w0 D ops o K Γ (SetsB ms S L :: σ) := by
  obtain ⟨x, y, v, hop, hg, hd, hx, hy, hv⟩ := esS_spec h
  refine ok_skip hg hd fun w hst f hf => ?_
  have hok : (SetsB ms S L).ok w := hst.at_ 0 rfl
  obtain ⟨h0, hlt, hbn⟩ := hok.2 _ hL
  have hms : gt ms i = ms[i.toNat] := by simp [gt, List.getD_eq_getElem?_getD, List.getElem?_eq_getElem hlt]
  obtain ⟨w', hr, ho⟩ := (hok.1 i.toNat hlt).store hbn
  exact ⟨w', _, by simp [execOp, hop, hf _ _ hx, hf _ _ hy, hf _ _ hv, hms, hr, Result.andThen], hst.same ho, k⟩
theorem wc_splitB {c : Code} (R : Nat) (ms : List Nat) (S : Int → Int → Bool) (h : PickK (Tab R ms S) σ (fun σ' => WC Try.prog n w0 D c Q Γ (RowM R ms :: SetsB ms S [] :: σ'))) : WC Try.prog n w0 D c Q Γ σ := by
  obtain ⟨σ', hp, h⟩ := h
  refine wc_perm hp (wc_split (wc_perm (List.Perm.swap _ _ _) (wc_toB (wc_perm (List.Perm.swap _ _ _) h))))
theorem St.fromB {w : World} (h : St w0 D (SetsB ms S L :: σ) w) : St w0 D (SetsM ms S :: σ) w := h.conv 0 (r := SetsB ms S L) (r' := SetsM ms S) rfl rfl (fun w hw => hw.1)
theorem wa_weaken {fuel : Nat} {listed : Array Bool} {σS σ' : List Res} (hc : ∀ w, St w0 D σ w → St w0 D σ' w) (h : WA Try.prog n w0 D σS ops Q fuel listed Γ σ') : WA Try.prog n w0 D σS ops Q fuel listed Γ σ :=
  .mk fun a w hs hst => h.run a w hs (hc w hst)
/-- at the end of a region: the table is whole again -/
theorem wa_joinB {fuel : Nat} {listed : Array Bool} {σS : List Res} (R : Nat) (h : PickK (RowM R ms) σ (fun σ' => WA Try.prog n w0 D σS ops Q fuel listed Γ (Tab R ms S :: σ'))) : WA Try.prog n w0 D σS ops Q fuel listed Γ (SetsB ms S L :: σ) := by
  obtain ⟨σ', hp, h⟩ := h
  refine wa_weaken (fun w hst => ?_) h
  have h1 := hst.fromB.perm (List.Perm.cons (SetsM ms S) hp)
  exact St.split.1 (h1.perm (List.Perm.swap _ _ _))
theorem wa_joinM {fuel : Nat} {listed : Array Bool} {σS : List Res} (R : Nat) (h : PickK (RowM R ms) σ (fun σ' => WA Try.prog n w0 D σS ops Q fuel listed Γ (Tab R ms S :: σ'))) : WA Try.prog n w0 D σS ops Q fuel listed Γ (SetsM ms S :: σ) := by
  obtain ⟨σ', hp, h⟩ := h
  refine wa_weaken (fun w hst => ?_) h
  exact St.split.1 ((hst.perm (List.Perm.cons (SetsM ms S) hp)).perm (List.Perm.swap _ _ _))
/-- whatever comes next of several -/
theorem gaAll {fuel : Nat} {listed : Array Bool} {σS : List Res} (l : List Nat) (h : ∀ j ∈ l, ∃ oj, ops[j]? = some oj ∧ OpOK Try.prog n w0 D ops oj (fun Γ σ => Suf σS σ ∧ WA Try.prog n w0 D σS ops Q fuel (listed.setIfInBounds j true) Γ σ) Γ σ) (hne : l ≠ [] := by simp) (hr : Region.ready .any ops listed = l := by kernel_rfl) : WA Try.prog n w0 D σS ops Q (fuel + 1) listed Γ σ := .mk fun a w hse hst =>
  wpAnyH_all hr hne fun k hk => by
    obtain ⟨oj, hj, h⟩ := h k hk
    exact wa_op hj ⟨fun a w hs hst Q K' hK => h.run a w hs hst Q K' fun a w Γ σ hs hst hk => hK a w Γ σ hs hst ⟨hk.1.ex, hk.2⟩⟩ a w hse hst
end
theorem gperm {M σ : List Res} (h : SubK M σ (fun rest => rest.Perm [])) : M.Perm σ := by
  obtain ⟨rest, hp, hr⟩ := h
  have := hr.eq_nil
  subst this
  simpa using hp
section
variable {P : Program} {n : Nat} {w0 : World} {D : List Nat} {Γ : Tm} {σ : List Res}
/-- ways meet behind a piece of code; what is no longer wanted is let go -/
theorem wc_meet {β : Type} {x y : Code} {Q : QQ} (pre : β → Prop) (T : β → Tm) (M : β → List Res) (h1 : WC P n w0 D x (fun ex Γ' σ' => match ex with | .normal => ∃ z, pre z ∧ tmLe (T z) Γ' ∧ SubE (M z) σ' | _ => False) Γ σ)
    (h2 : ∀ z, pre z → WC P n w0 D y Q (T z) (M z)) : WC P n w0 D (x.seq y) Q Γ σ := .mk fun a w hs hst =>
  wp_seq (wp_mono (h1.run a w hs hst) fun ex a' w' hq => by
    cases ex with
    | normal => obtain ⟨Γ', σ', hs', hst', z, hz, ht, ⟨rest, hm⟩⟩ := hq; exact (h2 z hz).run a' w' (hs'.less ht) (hst'.perm hm).keep
    | panic c => exact hq.elim
    | outgrown => exact hq.elim
    | exit i => obtain ⟨_, _, _, _, hf⟩ := hq; exact hf.elim
    | goto l => obtain ⟨_, _, _, _, hf⟩ := hq; exact hf.elim
    | ret => obtain ⟨_, _, _, _, hf⟩ := hq; exact hf.elim)
/-- the same, behind wc_seq -/
theorem wc_meetK {β : Type} {x y : Code} {Q : QQ} (pre : β → Prop) (T : β → Tm) (M : β → List Res) (h1 : WC P n w0 D x (fun ex Γ' σ' => match ex with | .normal => ∃ z, pre z ∧ tmLe (T z) Γ' ∧ SubE (M z) σ' | _ => False) Γ σ)
    (h2 : ∀ z, pre z → WC P n w0 D y Q (T z) (M z)) : WC P n w0 D x (thenQ (WC P n w0 D y Q) Q) Γ σ := .mk fun a w hs hst =>
  wp_mono (h1.run a w hs hst) fun ex a' w' hq => by
    cases ex with
    | normal =>
      obtain ⟨Γ', σ', hs', hst', z, hz, ht, ⟨rest, hm⟩⟩ := hq
      exact ⟨T z, M z, hs'.less ht, (hst'.perm hm).keep, h2 z hz⟩
    | panic c => exact hq.elim
    | outgrown => exact hq.elim
    | exit i => obtain ⟨_, _, _, _, hf⟩ := hq; exact hf.elim
    | goto l => obtain ⟨_, _, _, _, hf⟩ := hq; exact hf.elim
    | ret => obtain ⟨_, _, _, _, hf⟩ := hq; exact hf.elim
end
/-- the iterator r over map b stands at an entry: x -/
def Cur (w : World) (b r : Nat) (x : Int) : Prop := ∃ (es : Array MapEntry) (clock since : Nat) (seen : Array Nat) (c0 stamp : Nat) (e : MapEntry),
  w.heap[r]? = some (.mapIter (some b) since seen c0) ∧ w.heap[b]? = some (.map es clock) ∧ seen.back? = some stamp ∧ clock = c0 ∧ es.find? (·.born == stamp) = some e ∧ e.key = .int .i64 x ∧ e.val = .agg #[]
theorem run_getObj_it {P : Program} {w : World} {r since c0 : Nat} {m : Option Nat} {seen : Array Nat} (h : w.heap[r]? = some (.mapIter m since seen c0)) : (getObj r).run P w = .ok (.mapIter m since seen c0) w := by
  simp [getObj, Sem.run, h]
theorem Cur.run {P : Program} {w : World} {b r : Nat} {x : Int} (h : Cur w b r x) : (Instr.entry (.pointer (some ⟨r, 0, none⟩))).run P w = .ok (.tuple #[.int .i64 x, .agg #[]]) w := by
  obtain ⟨es, clock, since, seen, c0, stamp, e, h1, h2, h3, h4, h5, h6, h7⟩ := h
  simp [Instr.entry, run_getObj_it h1, MapKept.run_getObj_map h2, h3, h4, h5, h6, h7, Result.andThen]
theorem Cur.of {P : Program} {w : World} {b r : Nat} {x : Int} {es : Array MapEntry} {clock since : Nat} {seen : Array Nat} {c0 : Nat} (h1 : w.heap[r]? = some (.mapIter (some b) since seen c0)) (h2 : w.heap[b]? = some (.map es clock))
    (h : (Instr.entry (.pointer (some ⟨r, 0, none⟩))).run P w = .ok (.tuple #[.int .i64 x, .agg #[]]) w) : Cur w b r x := by
  cases h3 : seen.back? with
  | none => simp [Instr.entry, run_getObj_it h1, h3, Result.andThen, stuck] at h
  | some stamp =>
    by_cases h4 : clock = c0
    · cases h5 : es.find? (·.born == stamp) with
      | none => simp [Instr.entry, run_getObj_it h1, MapKept.run_getObj_map h2, h3, h4, h5, Result.andThen, unsupported] at h
      | some e =>
        simp [Instr.entry, run_getObj_it h1, MapKept.run_getObj_map h2, h3, h4, h5, Result.andThen] at h
        exact ⟨es, clock, since, seen, c0, stamp, e, h1, h2, h3, h4, h5, h.1, h.2⟩
    · simp [Instr.entry, run_getObj_it h1, MapKept.run_getObj_map h2, h3, h4, Result.andThen, unsupported] at h
theorem Cur.st {w w' : World} {b r : Nat} {x : Int} (h : Cur w b r x) (hb : w'.heap[b]? = w.heap[b]?) (hr : w'.heap[r]? = w.heap[r]?) : Cur w' b r x := by
  obtain ⟨es, clock, since, seen, c0, stamp, e, h1, h2, h3⟩ := h
  exact ⟨es, clock, since, seen, c0, stamp, e, hr.trans h1, hb.trans h2, h3⟩
theorem ranges_st {w w' : World} {b r n : Nat} {D : DataW Unit} {left : Lit → Bool} {cnt : Nat} (h : w.ranges Try.prog TI unitElem b r n D left cnt) (hb : w'.heap[b]? = w.heap[b]?) (hr : w'.heap[r]? = w.heap[r]?) : w'.ranges Try.prog TI unitElem b r n D left cnt := by
  obtain ⟨es, clock, since, seen, c0, h1, F, h3, h4, h5, h6⟩ := h
  exact ⟨es, clock, since, seen, c0, hb.trans h1, F, h3, h4, hr.trans h5, h6⟩
/-- the set g in block b, gone through by r: what is left to come, at which entry it stands -/
def RangeR (b r : Nat) (g lf : Int → Bool) (cnt : Nat) (cur : Option Int) : Res where
  fp := [b, r]
  ok := fun w => (∃ (n : Nat) (D : DataW Unit) (left : Lit → Bool), w.ranges Try.prog TI unitElem b r n D left cnt ∧ n ≤ 128 ∧ (∀ x, has D (.int .i64 x) = g x) ∧ (∀ x, g x = true → 0 ≤ x ∧ x < 128) ∧ ∀ x, left (.int .i64 x) = lf x) ∧ ∀ x, cur = some x → Cur w b r x
  st := fun w w' h hw => by
    obtain ⟨⟨n, D, left, h1, h2⟩, h3⟩ := hw
    exact ⟨⟨n, D, left, ranges_st h1 (h b (by simp)) (h r (by simp)), h2⟩, fun x hx => (h3 x hx).st (h b (by simp)) (h r (by simp))⟩
theorem lit_int_key {w : World} {key : Value} {kl : Lit} (h : keyOf Try.prog TI key = some kl) : ∃ x : Int, key = .int .i64 x ∧ kl = .int .i64 x := by
  obtain ⟨x, h1, h2, _⟩ := Maps.keyOf_i64 Try.underlying3 h
  exact ⟨x, h1, h2⟩
section
variable {n : Nat} {w0 : World} {D : List Nat} {Γ : Tm} {σ : List Res} {ops : Array Oper} {o : Oper} {os : List Oper} {Q : QQ} {K : Tm → List Res → Prop} {b r : Nat} {f g lf : Int → Bool} {cnt : Nat} {cur : Option Int}
theorem grange {t x : _} {dd : Nat} (hop : o.op = .range TM x) (hx : ev Γ x = some (.map (some b))) (hg : gd Γ ops o = some true) (hd : o.dst = some dd) (hdn : Nat.blt dd n = true) (ht : t = TM)
    (k : ∀ r cnt, K ((dd, .pointer (some ⟨r, 0, none⟩)) :: Γ) (RangeR b r f f cnt none :: σ)) : OpOK Try.prog n w0 D ops o K Γ (SetR b f :: σ) :=
  ok_run hg hd hdn fun w hst h hf => by
    have hset : IsSet w b f := hst.at_ 0 (r := SetR b f) rfl
    obtain ⟨D0, h1, h2, h3⟩ := hset
    have hs := IsSet.size_le h1 h2 h3
    obtain ⟨w', hrun, r1, r2, r3⟩ := h1.range keyedI underM
    have hlt := h1.lt
    refine ⟨.pointer (some ⟨w.heap.size, 0, none⟩), w', _, by simp [execOp, hop, hf _ _ hx, hrun, Result.andThen], St.turn (σ1 := [SetR b f]) (σ2 := [RangeR b w.heap.size f f (size D0) none]) (σ := σ) hst ?_ ?_ ?_ ?_, k _ _⟩
    · exact Only.grown r2 (by simp)
    · intro q hq
      simp only [List.mem_singleton] at hq
      subst hq
      exact ⟨⟨_, D0, _, r1, hs, h2, h3, h2⟩, by simp⟩
    · intro c hc
      simp [RangeR] at hc
      rcases hc with rfl | rfl
      · exact ⟨.inl (by simp [SetR]), by omega⟩
      · exact ⟨.inr (Nat.le_refl _), by omega⟩
    · simp [RangeR]; omega
theorem gnext {x : Operand} {dd : Nat} (hop : o.op = .next x false) (hx : ev Γ x = some (.pointer (some ⟨r, 0, none⟩))) (hg : gd Γ ops o = some true) (hd : o.dst = some dd) (hdn : Nat.blt dd n = true)
    (hDone : (∀ y, lf y = false) → K ((dd, .tuple #[.bool false]) :: Γ) (RangeR b r g lf cnt none :: σ))
    (hMore : ∀ y cnt', lf y = true → cnt' < cnt → K ((dd, .tuple #[.bool true, .int .i64 y, .agg #[]]) :: Γ) (RangeR b r g (fun z => lf z && !(z == y)) cnt' (some y) :: σ)) : OpOK Try.prog n w0 D ops o K Γ (RangeR b r g lf cnt none :: σ) :=
  ok_run hg hd hdn fun w hst h hf => by
    obtain ⟨⟨m, D0, left, h1, h2, h3, h4, h5⟩, _⟩ := hst.at_ 0 (r := RangeR b r g lf cnt none) rfl
    have hlr := h1.lt
    have hlb := h1.owns.lt
    rcases h1.next keyedI o.type with ⟨e0, hl, hrun⟩ | ⟨key, v, kl, y, w', cnt', hkey, hlk, hv, hat, hrun, hrg, hlt, hgr, hsz, hen⟩
    · exact ⟨_, w, _, by simp [execOp, hop, hf _ _ hx, hrun, Result.andThen], hst, hDone fun y => by rw [← h5, hl]⟩
    · obtain ⟨c, rfl, rfl⟩ := lit_int_key (w := w) hkey
      obtain ⟨rfl, _⟩ := unitElem_inv hv
      refine ⟨_, w', _, by simp [execOp, hop, hf _ _ hx, hrun, Result.andThen], hst.set_ 0 (r := RangeR b r g lf cnt none) (r' := RangeR b r g (fun z => lf z && !(z == c)) cnt' (some c)) rfl (Only.grown hgr (by simp [RangeR])) ⟨⟨m, D0, _, hrg, h2, h3, h4, fun z => ?_⟩, fun x hx => ?_⟩ (fun d hd => ⟨.inl hd, ?_⟩) ?_, hMore c cnt' (by rw [← h5]; exact hlk) hlt⟩
      · rw [h5]
        simp [Lit.sameKey]
        rfl
      · simp only [Option.some.injEq] at hx
        subst hx
        have hrg' := hrg
        obtain ⟨es, clock, since, seen, c0, g1, _, _, _, g5, _⟩ := hrg'
        exact Cur.of g5 g1 hen
      · simp [RangeR] at hd
        rcases hd with rfl | rfl <;> omega
      · simp only [RangeR, List.nodup_cons, List.mem_singleton, List.not_mem_nil, not_false_eq_true, List.nodup_nil, and_true]
        exact fun e => h1.ne e.symm
theorem gentry {x : Operand} {dd : Nat} {y : Int} (hop : o.op = .entry x) (hx : ev Γ x = some (.pointer (some ⟨r, 0, none⟩))) (hg : gd Γ ops o = some true) (hd : o.dst = some dd) (hdn : Nat.blt dd n = true)
    (k : K ((dd, .tuple #[.int .i64 y, .agg #[]]) :: Γ) (RangeR b r g lf cnt (some y) :: σ)) : OpOK Try.prog n w0 D ops o K Γ (RangeR b r g lf cnt (some y) :: σ) :=
  ok_run hg hd hdn fun w hst h hf => by
    obtain ⟨_, hc⟩ := hst.at_ 0 (r := RangeR b r g lf cnt (some y)) rfl
    exact ⟨_, w, _, by simp [execOp, hop, hf _ _ hx, (hc y rfl).run, Result.andThen], hst, k⟩
theorem gdelete {x z : Operand} {y : Int} (hop : o.op = .call { callee := .builtin .delete, args := #[x, z], argTypes := #[TM, TI] }) (hx : ev Γ x = some (.map (some b))) (hz : ev Γ z = some (.int .i64 y)) (hg : gd Γ ops o = some true) (hd : o.dst = none) (h0 : 0 ≤ y) (h1 : y < 128)
    (k : ∀ cnt', cnt' ≤ cnt → K Γ (RangeR b r (fun u => g u && !(u == y)) (fun u => lf u && !(u == y)) cnt' none :: σ)) : OpOK Try.prog n w0 D ops o K Γ (RangeR b r g lf cnt cur :: σ) := by
  refine ⟨fun a w hs hst Qx K' hK => ?_⟩
  rw [if_pos (gd_spec hs hg)]
  unfold Oper.wp
  obtain ⟨⟨m, D0, left, g1, g2, g3, g4, g5⟩, _⟩ := hst.at_ 0 (r := RangeR b r g lf cnt cur) rfl
  have hlr := g1.lt
  have hlb := g1.owns.lt
  have hkey : keyOf Try.prog TI (.int .i64 y) = some (.int .i64 y) := keyOf_int_mk Try.underlying3 (wf64 h0 h1)
  obtain ⟨w', cnt', hrun, r1, r2, r3⟩ := g1.drop keyedI underM hkey o.type
  have hkl : WideAt.IsKeyLit (.int .i64 y) := by simp [WideAt.IsKeyLit]
  have ht := g1.owns.tidy keyedI
  have hst' : St w0 D (RangeR b r (fun u => g u && !(u == y)) (fun u => lf u && !(u == y)) cnt' none :: σ) w' := by
    refine hst.set_ 0 (r := RangeR b r g lf cnt cur) (r' := RangeR b r (fun u => g u && !(u == y)) (fun u => lf u && !(u == y)) cnt' none) rfl (Only.grown r3.grown (by simp [RangeR])) ⟨⟨m, _, _, r1, g2, fun u => ?_, fun u hu => g4 u ?_, fun u => ?_⟩, by simp⟩ (fun d hd => ⟨.inl hd, ?_⟩) ?_
    · by_cases e : u = y
      · subst e
        rw [has_del_same]
        simp
      · rw [has_del_other (by simpa using e), g3]
        simp [e]
    · simp only [Bool.and_eq_true] at hu
      exact hu.1
    · rw [g5]
      simp [Lit.sameKey]
      rfl
    · simp [RangeR] at hd
      have := r3.grown.size
      rcases hd with rfl | rfl <;> omega
    · simp only [RangeR, List.nodup_cons, List.mem_singleton, List.not_mem_nil, not_false_eq_true, List.nodup_nil, and_true]
      exact fun e => g1.ne e.symm
  have hr2 : (execOp a.eval o).run Try.prog w = .ok (.value (.tuple #[])) w' := by
    simp [execOp, hop, resolve, invoke, builtin, hs.eval hx, hs.eval hz, hrun, Result.andThen]
  rw [hr2]
  simp only [Oper.upon, hd]
  exact hK _ _ _ _ hs hst' (k cnt' r2)
/-- the loop is over: the set by itself -/
theorem St.rangeEnd {w : World} (h : St w0 D (RangeR b r g lf cnt cur :: σ) w) : St w0 D (SetR b g :: σ) w := by
  obtain ⟨⟨m, D0, left, g1, g2, g3, g4, g5⟩, _⟩ := h.at_ 0 (r := RangeR b r g lf cnt cur) rfl
  have ho := g1.owns
  refine h.set_ 0 (r := RangeR b r g lf cnt cur) (r' := SetR b g) rfl (Only.refl _ _) ⟨D0, ?_, g3, g4⟩ (fun d hd => ?_) (by simp [SetR])
  · obtain ⟨es, clock, q1, q2, q3, q4⟩ := ho
    exact ⟨es, clock, q1, q2, by rw [q4, Maps.size_eq, length_sorted]; simp, q4⟩
  · simp [SetR] at hd
    subst hd
    exact ⟨.inl (by simp [RangeR]), h.lt (RangeR d r g lf cnt cur) (by simp) d (by simp [RangeR])⟩
theorem wc_rangeEnd {c : Code} (h : WC Try.prog n w0 D c Q Γ (SetR b g :: σ)) : WC Try.prog n w0 D c Q Γ (RangeR b r g lf cnt cur :: σ) := .mk fun a w hs hst => h.run a w hs hst.rangeEnd
theorem wl_rangeEnd (h : WL Try.prog n w0 D ops os Q Γ (SetR b g :: σ)) : WL Try.prog n w0 D ops os Q Γ (RangeR b r g lf cnt cur :: σ) := .mk fun a w hs hst => h.run a w hs hst.rangeEnd
theorem wl_noCur (h : WL Try.prog n w0 D ops os Q Γ (RangeR b r g lf cnt none :: σ)) : WL Try.prog n w0 D ops os Q Γ (RangeR b r g lf cnt cur :: σ) := .mk fun a w hs hst => h.run a w hs (hst.conv 0 (r := RangeR b r g lf cnt cur) (r' := RangeR b r g lf cnt none) rfl rfl (fun w hw => ⟨hw.1, by simp⟩))
theorem wl_keep {P : Program} (M : List Res) (h : SubE M σ) (k : WL P n w0 D ops os Q Γ M) : WL P n w0 D ops os Q Γ σ := .mk fun a w hs hst => by
  obtain ⟨rest, hp⟩ := h
  exact k.run a w hs (hst.perm hp).keep
end
/-! ### a table without one of its maps -/
def TabX (R : Nat) (ms : List Nat) (S : Int → Int → Bool) (i : Nat) : Res where
  fp := R :: ms.eraseIdx i
  ok := fun w => i < ms.length ∧ w.heap[R]? = some (.cells (ms.map fun b => Value.map (some b)).toArray TM (0, 0)) ∧ ∀ r (h : r < ms.length), r ≠ i → IsSet w ms[r] (S r)
  st := fun w w' h hw => ⟨hw.1, (h R (by simp)).trans hw.2.1, fun r hr hne => (hw.2.2 r hr hne).st (h _ (List.mem_cons_of_mem _ (List.mem_eraseIdx_iff_getElem.2 ⟨r, hr, hne, rfl⟩)))⟩
theorem perm_erase {α : Type _} : ∀ (l : List α) (i : Nat) (h : i < l.length), (l[i] :: l.eraseIdx i).Perm l
  | a :: l, 0, _ => List.Perm.refl _
  | a :: l, i + 1, h => by
    have h' : i < l.length := by simpa using h
    have ih := perm_erase l i h'
    simp only [List.getElem_cons_succ, List.eraseIdx_cons_succ]
    exact (List.Perm.swap a l[i] _).trans (List.Perm.cons a ih)
section
variable {n : Nat} {w0 : World} {D : List Nat} {Γ : Tm} {σ : List Res} {Q : QQ} {R : Nat} {ms : List Nat} {S : Int → Int → Bool} {f : Int → Bool}
theorem St.hole {w : World} {i : Nat} (hi : i < ms.length) (h : St w0 D (Tab R ms S :: σ) w) : St w0 D (SetR (gt ms (i : Int)) (S i) :: TabX R ms S i :: σ) w := by
  have e : gt ms (i : Int) = ms[i] := by simp [gt, List.getElem?_eq_getElem hi]
  have h0 : (Tab R ms S).ok w := h.ok _ (by simp)
  have hp := perm_erase ms i hi
  have hfp : ∀ b, b = ms[i] ∨ b ∈ ms.eraseIdx i → b ∈ ms := fun b hb => hp.mem_iff.1 (List.mem_cons.2 hb)
  rw [e]
  refine ⟨h.only, ?_, ?_, ?_, ?_⟩
  · intro r hr
    simp only [List.mem_cons] at hr
    rcases hr with rfl | rfl | hr
    · exact h0.2 i hi
    · exact ⟨hi, h0.1, fun r hr _ => h0.2 r hr⟩
    · exact h.ok r (by simp [hr])
  · intro r hr b hb
    simp only [List.mem_cons] at hr
    rcases hr with rfl | rfl | hr
    · simp only [SetR, List.mem_singleton] at hb
      exact h.lt (Tab R ms S) (by simp) b (List.mem_cons_of_mem _ (hfp b (.inl hb)))
    · simp only [TabX, List.mem_cons] at hb
      rcases hb with rfl | hb
      · exact h.lt (Tab b ms S) (by simp) b (by simp [Tab])
      · exact h.lt (Tab R ms S) (by simp) b (List.mem_cons_of_mem _ (hfp b (.inr hb)))
    · exact h.lt r (by simp [hr]) b hb
  · intro r hr b hb
    simp only [List.mem_cons] at hr
    rcases hr with rfl | rfl | hr
    · simp only [SetR, List.mem_singleton] at hb
      exact h.new (Tab R ms S) (by simp) b (List.mem_cons_of_mem _ (hfp b (.inl hb)))
    · simp only [TabX, List.mem_cons] at hb
      rcases hb with rfl | hb
      · exact h.new (Tab b ms S) (by simp) b (by simp [Tab])
      · exact h.new (Tab R ms S) (by simp) b (List.mem_cons_of_mem _ (hfp b (.inr hb)))
    · exact h.new r (by simp [hr]) b hb
  · have hnd : ((R :: ms) ++ σ.flatMap Res.fp).Nodup := h.nd
    have hp2 : ([ms[i]] ++ ((R :: ms.eraseIdx i) ++ σ.flatMap Res.fp)).Perm ((R :: ms) ++ σ.flatMap Res.fp) := by
      rw [← List.append_assoc]
      refine List.Perm.append_right _ ?_
      exact (List.Perm.swap R ms[i] _).trans (List.Perm.cons R hp)
    exact (List.Perm.nodup_iff hp2).2 hnd
theorem St.fillHole {w : World} {i : Nat} (h : St w0 D (SetR (gt ms (i : Int)) f :: TabX R ms S i :: σ) w) : St w0 D (Tab R ms (fun a b => if a = i then f b else S a b) :: σ) w := by
  obtain ⟨hi, h1, h2⟩ := h.ok (TabX R ms S i) (by simp)
  have hs : IsSet w (gt ms (i : Int)) f := h.ok (SetR (gt ms (i : Int)) f) (by simp)
  have e : gt ms (i : Int) = ms[i] := by simp [gt, List.getElem?_eq_getElem hi]
  have hp := perm_erase ms i hi
  have hm : ∀ b, b ∈ ms → b = ms[i] ∨ b ∈ ms.eraseIdx i := fun b hb => List.mem_cons.1 (hp.mem_iff.2 hb)
  rw [e] at hs
  refine ⟨h.only, ?_, ?_, ?_, ?_⟩
  · intro r hr
    rcases List.mem_cons.1 hr with rfl | hr
    · refine ⟨h1, fun r hr => ?_⟩
      by_cases er : r = i
      · subst er
        simpa using hs
      · have := h2 r hr er
        have er' : ¬ (r : Int) = (i : Int) := by omega
        simpa only [er', if_false] using this
    · exact h.ok r (by simp [hr])
  · intro r hr b hb
    rcases List.mem_cons.1 hr with rfl | hr
    · simp only [Tab, List.mem_cons] at hb
      rcases hb with rfl | hb
      · exact h.lt (TabX b ms S i) (by simp) b (by simp [TabX])
      · rcases hm b hb with rfl | hb
        · exact h.lt (SetR (gt ms (i : Int)) f) (by simp) _ (by simp [SetR, e])
        · exact h.lt (TabX R ms S i) (by simp) b (List.mem_cons_of_mem _ hb)
    · exact h.lt r (by simp [hr]) b hb
  · intro r hr b hb
    rcases List.mem_cons.1 hr with rfl | hr
    · simp only [Tab, List.mem_cons] at hb
      rcases hb with rfl | hb
      · exact h.new (TabX b ms S i) (by simp) b (by simp [TabX])
      · rcases hm b hb with rfl | hb
        · exact h.new (SetR (gt ms (i : Int)) f) (by simp) _ (by simp [SetR, e])
        · exact h.new (TabX R ms S i) (by simp) b (List.mem_cons_of_mem _ hb)
    · exact h.new r (by simp [hr]) b hb
  · have hnd : ([gt ms (i : Int)] ++ ((R :: ms.eraseIdx i) ++ σ.flatMap Res.fp)).Nodup := h.nd
    rw [e] at hnd
    have hp2 : ([ms[i]] ++ ((R :: ms.eraseIdx i) ++ σ.flatMap Res.fp)).Perm ((R :: ms) ++ σ.flatMap Res.fp) := by
      rw [← List.append_assoc]
      refine List.Perm.append_right _ ?_
      exact (List.Perm.swap R ms[i] _).trans (List.Perm.cons R hp)
    exact (List.Perm.nodup_iff hp2).1 hnd
theorem wc_hole {c : Code} (R : Nat) (ms : List Nat) (S : Int → Int → Bool) (i : Nat) (hi : i < ms.length) (h : PickK (Tab R ms S) σ (fun σ' => WC Try.prog n w0 D c Q Γ (SetR (gt ms (i : Int)) (S i) :: TabX R ms S i :: σ'))) : WC Try.prog n w0 D c Q Γ σ := by
  obtain ⟨σ', hp, h⟩ := h
  exact ⟨fun a w hs hst => h.run a w hs (St.hole hi (hst.perm hp))⟩
theorem wl_fillHole {P : Program} {ops : Array Oper} {os : List Oper} (R : Nat) (ms : List Nat) (S : Int → Int → Bool) (i : Nat) (f : Int → Bool) (h : SubK [SetR (gt ms (i : Int)) f, TabX R ms S i] σ (fun σ' => WL P n w0 D ops os Q Γ (Tab R ms (fun a b => if a = i then f b else S a b) :: σ'))) : WL P n w0 D ops os Q Γ σ := by
  obtain ⟨σ', hp, h⟩ := h
  exact ⟨fun a w hs hst => h.run a w hs (St.fillHole (hst.perm hp))⟩
theorem tab_inR {w : World} (h : (Tab R ms S).ok w) (r : Nat) (hr : r < ms.length) : ∀ y, S r y = true → 0 ≤ y ∧ y < 128 := by
  obtain ⟨D0, _, _, h3⟩ := h.2 r hr
  exact h3
end
section
variable {n : Nat} {w0 : World} {D : List Nat} {Γ : Tm} {σ : List Res} {ops : Array Oper} {o : Oper}
theorem gl0 {K : Tm → List Res → Prop} {dd : Nat} {t : TypeId} {g : Bool} {p v : Value} (h : ldS n ops Γ o = some (dd, t, g, p)) (k : K ((dd, v) :: Γ) σ)
    (hv : LDv w0 D σ t g p v := by (first | exact .o (by assumption) (by omega) (by omega) | repeat (first | exact .c rfl | exact .a rfl rfl rfl | exact .r (by omega) (by omega) | exact .tab (by omega) (by omega) | apply LDv.there)) <;> fail) : OpOK Try.prog n w0 D ops o K Γ σ := by
  obtain ⟨x, hop, hg, hd, hb, hx, ht⟩ := ldS_spec h
  exact ok_val hg hd hb (hv.val hop hx ht) k
end
theorem Rds.ad_ {α : Type} {f : α → Value} {A : Option Addr} {c : Nat} {xs : List α} {w : World} (h : Rds f w A c xs) (hl : 0 < xs.length) : ∃ ad, A = some ad := by
  obtain ⟨ad, e, _⟩ := h.2.2 hl
  exact ⟨ad, e⟩
end Go.Proofs.Ytoiiellaoikojaa
