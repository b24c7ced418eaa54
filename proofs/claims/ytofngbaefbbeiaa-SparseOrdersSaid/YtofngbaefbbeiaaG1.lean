/- Marks set in tables; patterns that are handed out. -/
import Derived.Test.YtofngbaefbbeiaaT8
set_option linter.unusedVariables false
set_option linter.unusedSimpArgs false
set_option maxHeartbeats 4000000
namespace Go.Proofs.Ytofngbaefbbeiaa
open Go.RowKit Go.Maps
/-! ### t.rows[r][c] = mark{} -/
inductive MKv : List Res → Value → Int → List Res → Prop
  | h {σ : List Res} {R : Nat} {ms : List Nat} {S : Int → Int → Bool} {i c : Int} : 0 ≤ i → i < ms.length → 0 ≤ c → c < 128 → MKv (Tab R ms S :: σ) (.map (some (gt ms i))) c (Tab R ms (fun a b => S a b || (a == i && b == c)) :: σ)
  | there {q : Res} {σ σ' : List Res} {p : Value} {c : Int} : MKv σ p c σ' → MKv (q :: σ) p c (q :: σ')
section
variable {n : Nat} {w0 : World} {D : List Nat} {Γ : Tm} {σ σ' : List Res} {ops : Array Oper} {o : Oper} {os : List Oper} {Q : QQ} {K : Tm → List Res → Prop}
theorem MKv.ok {p : Value} {c : Int} {x y v : Operand} (h : MKv σ p c σ') (hop : o.op = .mapUpdate TM x y v) (hg : gd Γ ops o = some true) (hd : o.dst = none) (hx : ev Γ x = some p) (hy : ev Γ y = some (.int .i64 c)) (hv : ev Γ v = some (.agg #[])) : ∀ {τ : List Res} {K : Tm → List Res → Prop}, K Γ (τ ++ σ') → OpOK Try.prog n w0 D ops o K Γ (τ ++ σ) := by
  induction h with
  | @h σ R ms S i c h1 h2 h3 h4 =>
    intro τ K hk
    refine ok_mark τ.length (mid_at _ _ _) hop hx hy hv hg hd h1 h2 h3 h4 ?_
    simpa using hk
  | @there q σ σ' p c _ ih =>
    intro τ K hk
    have := ih hx hy (τ := τ ++ [q]) (K := K) (by simpa using hk)
    simpa using this
def mkS (ops : Array Oper) (Γ : Tm) (o : Oper) : Option (Value × Int × Value) := match o.op with
  | .mapUpdate t x y v => match gd Γ ops o with
    | some true => match o.dst with
      | none => cond (Nat.beq t TM) (match ev Γ x with
        | some p => match ev Γ y with
          | some (.int .i64 c) => match ev Γ v with | some u => some (p, c, u) | none => none
          | _ => none
        | none => none) none
      | some _ => none
    | _ => none
  | _ => none
theorem mkS_spec {p : Value} {c : Int} {u : Value} (h : mkS ops Γ o = some (p, c, u)) : ∃ x y v, o.op = .mapUpdate TM x y v ∧ gd Γ ops o = some true ∧ o.dst = none ∧ ev Γ x = some p ∧ ev Γ y = some (.int .i64 c) ∧ ev Γ v = some u := by
  unfold mkS at h
  split at h
  · rename_i t x y v hop
    split at h
    · rename_i hg
      split at h
      · rename_i hd
        cases hb : Nat.beq t TM with
        | false => rw [hb] at h; cases h
        | true =>
          rw [hb] at h
          simp only [cond_true] at h
          have ht := Nat.eq_of_beq_eq_true hb
          subst ht
          split at h
          · rename_i hx
            split at h
            · rename_i hy
              split at h
              · rename_i hv
                simp only [Option.some.injEq, Prod.mk.injEq] at h
                obtain ⟨rfl, rfl, rfl⟩ := h
                exact ⟨x, y, v, hop, hg, hd, hx, hy, hv⟩
              · cases h
            · cases h
          · cases h
      · cases h
    · cases h
  · cases h
theorem gm1 {p : Value} {c : Int} (h : mkS ops Γ o = some (p, c, .agg #[])) (k : WL Try.prog n w0 D ops os Q Γ σ')
    (hv : MKv σ p c σ' := by (repeat (first | exact .h (by omega) (by omega) (by omega) (by omega) | apply MKv.there)) <;> fail) : WL Try.prog n w0 D ops (o :: os) Q Γ σ := by
  obtain ⟨x, y, v, hop, hg, hd, hx, hy, hu⟩ := mkS_spec h
  exact wl_op (hv.ok (τ := []) hop hg hd hx hy hu k)
theorem gm0 {p : Value} {c : Int} (h : mkS ops Γ o = some (p, c, .agg #[])) (k : K Γ σ')
    (hv : MKv σ p c σ' := by (repeat (first | exact .h (by omega) (by omega) (by omega) (by omega) | apply MKv.there)) <;> fail) : OpOK Try.prog n w0 D ops o K Γ σ := by
  obtain ⟨x, y, v, hop, hg, hd, hx, hy, hu⟩ := mkS_spec h
  exact hv.ok (τ := []) hop hg hd hx hy hu k
/-- an empty row, wherever a row is asked -/
theorem pk_nil {α : Type} {e : TypeId} {f : α → Value} {D : List Nat} {w : World} (h : St w0 D σ w) : St w0 D (osl e f none 0 [] :: σ) w :=
  h.push (Only.refl _ _) _ ⟨by simp, .inl ⟨rfl, rfl⟩⟩ (by simp [osl, ownB]) (by simp [osl, ownB])
/-- a truth told in another way -/
theorem wc_tab {c : Code} {Q : QQ} {R : Nat} {ms : List Nat} {S S' : Int → Int → Bool} (h : WC Try.prog n w0 D c Q Γ (Tab R ms S' :: σ)) (e : S = S') : WC Try.prog n w0 D c Q Γ (Tab R ms S :: σ) := e ▸ h
end
/-! ### a table in two: the row of its maps, and the maps -/
def RowM (R : Nat) (ms : List Nat) : Res where
  fp := [R]
  ok := fun w => w.heap[R]? = some (.cells (ms.map fun b => Value.map (some b)).toArray TM (0, 0))
  st := fun w w' h hw => (h R (by simp)).trans hw
def SetsM (ms : List Nat) (S : Int → Int → Bool) : Res where
  fp := ms
  ok := fun w => ∀ r (h : r < ms.length), IsSet w ms[r] (S r)
  st := fun w w' h hw r hr => (hw r hr).st (h _ (List.getElem_mem hr))
section
variable {n : Nat} {w0 : World} {D : List Nat} {Γ : Tm} {σ : List Res} {ops : Array Oper} {o : Oper} {os : List Oper} {Q : QQ} {K : Tm → List Res → Prop} {R : Nat} {ms : List Nat} {S : Int → Int → Bool}
theorem St.split {w : World} : St w0 D (RowM R ms :: SetsM ms S :: σ) w ↔ St w0 D (Tab R ms S :: σ) w := by
  constructor
  · intro h
    refine ⟨h.only, ?_, ?_, ?_, by simpa [Tab, RowM, SetsM] using h.nd⟩
    · intro r hr
      rcases List.mem_cons.1 hr with rfl | hr
      · exact ⟨h.ok (RowM R ms) (by simp), h.ok (SetsM ms S) (by simp)⟩
      · exact h.ok r (by simp [hr])
    · intro r hr b hb
      rcases List.mem_cons.1 hr with rfl | hr
      · simp only [Tab, List.mem_cons] at hb
        rcases hb with rfl | hb
        · exact h.lt (RowM b ms) (by simp) b (by simp [RowM])
        · exact h.lt (SetsM ms S) (by simp) b hb
      · exact h.lt r (by simp [hr]) b hb
    · intro r hr b hb
      rcases List.mem_cons.1 hr with rfl | hr
      · simp only [Tab, List.mem_cons] at hb
        rcases hb with rfl | hb
        · exact h.new (RowM b ms) (by simp) b (by simp [RowM])
        · exact h.new (SetsM ms S) (by simp) b hb
      · exact h.new r (by simp [hr]) b hb
  · intro h
    have h0 : (Tab R ms S).ok w := h.ok _ (by simp)
    refine ⟨h.only, ?_, ?_, ?_, by simpa [Tab, RowM, SetsM] using h.nd⟩
    · intro r hr
      simp only [List.mem_cons] at hr
      rcases hr with rfl | rfl | hr
      · exact h0.1
      · exact h0.2
      · exact h.ok r (by simp [hr])
    · intro r hr b hb
      simp only [List.mem_cons] at hr
      rcases hr with rfl | rfl | hr
      · simp only [RowM, List.mem_singleton] at hb
        subst hb
        exact h.lt (Tab b ms S) (by simp) b (by simp [Tab])
      · exact h.lt (Tab R ms S) (by simp) b (List.mem_cons_of_mem _ hb)
      · exact h.lt r (by simp [hr]) b hb
    · intro r hr b hb
      simp only [List.mem_cons] at hr
      rcases hr with rfl | rfl | hr
      · simp only [RowM, List.mem_singleton] at hb
        subst hb
        exact h.new (Tab b ms S) (by simp) b (by simp [Tab])
      · exact h.new (Tab R ms S) (by simp) b (List.mem_cons_of_mem _ hb)
      · exact h.new r (by simp [hr]) b hb
theorem wc_split {c : Code} (h : WC Try.prog n w0 D c Q Γ (RowM R ms :: SetsM ms S :: σ)) : WC Try.prog n w0 D c Q Γ (Tab R ms S :: σ) := .mk fun a w hs hst => h.run a w hs (St.split.2 hst)
theorem wc_join {c : Code} (h : WC Try.prog n w0 D c Q Γ (Tab R ms S :: σ)) : WC Try.prog n w0 D c Q Γ (RowM R ms :: SetsM ms S :: σ) := .mk fun a w hs hst => h.run a w hs (St.split.1 hst)
theorem wc_splitK {c : Code} (R : Nat) (ms : List Nat) (S : Int → Int → Bool) (h : PickK (Tab R ms S) σ (fun σ' => WC Try.prog n w0 D c Q Γ (RowM R ms :: SetsM ms S :: σ'))) : WC Try.prog n w0 D c Q Γ σ := by
  obtain ⟨σ', hp, h⟩ := h
  exact wc_perm hp (wc_split h)
theorem wc_joinK {c : Code} (R : Nat) (ms : List Nat) (S : Int → Int → Bool) (h : SubK [RowM R ms, SetsM ms S] σ (fun σ' => WC Try.prog n w0 D c Q Γ (Tab R ms S :: σ'))) : WC Try.prog n w0 D c Q Γ σ := by
  obtain ⟨σ', hp, h⟩ := h
  exact wc_perm hp (wc_join h)
theorem gmS {i c : Int} (h : mkS ops Γ o = some (.map (some (gt ms i)), c, .agg #[])) (k : K Γ (SetsM ms (fun a b => S a b || (a == i && b == c)) :: σ)) (h0 : 0 ≤ i) (h1 : i < ms.length) (hc0 : 0 ≤ c) (hc1 : c < 128) : OpOK Try.prog n w0 D ops o K Γ (SetsM ms S :: σ) := by
  obtain ⟨x, y, v, hop, hg, hd, hx, hy, hv⟩ := mkS_spec h
  refine ok_skip hg hd fun w hst f hf => ?_
  have hlt : i.toNat < ms.length := by omega
  have hok : ∀ r (h : r < ms.length), IsSet w ms[r] (S r) := hst.at_ 0 (r := SetsM ms S) rfl
  have hms : gt ms i = ms[i.toNat] := by simp [gt, List.getD_eq_getElem?_getD, List.getElem?_eq_getElem hlt]
  obtain ⟨w', hr, hset, ho⟩ := (hok i.toNat hlt).put hc0 hc1
  have hnd : ms.Nodup := by
    have h5 := hst.nd
    rw [List.flatMap_cons, List.nodup_append] at h5
    exact h5.1
  have hlm : ∀ b ∈ ms, b < w.heap.size := fun b hb => hst.lt (SetsM ms S) (by simp) b hb
  refine ⟨w', _, ?_, hst.set_ 0 (r := SetsM ms S) (r' := SetsM ms (fun a b => S a b || (a == i && b == c))) rfl (ho.mono (by simp [SetsM])) ?_ ?_ hnd, k⟩
  · simp [execOp, hop, hf _ _ hx, hf _ _ hy, hf _ _ hv, hms, hr, Result.andThen]
  · intro r hr
    by_cases e : r = i.toNat
    · subst e
      have e2 : ((i.toNat : Nat) : Int) = i := by omega
      simpa only [e2, beq_self_eq_true, Bool.true_and] using hset
    · have e2 : ((r : Int) == i) = false := by simp; omega
      have := (hok r hr).st (w' := w') (ho.block _ (hlm _ (List.getElem_mem hr)) (by
        simp only [List.mem_singleton]
        exact fun e3 => e ((List.getElem_inj hnd).1 e3)))
      simpa [e2] using this
  · intro b hb
    exact ⟨.inl hb, Nat.lt_of_lt_of_le (hlm b hb) ho.size⟩
theorem ga6 {fuel : Nat} {listed : Array Bool} {σS : List Res} (i : Nat) {oi : Oper} (hi : ops[i]? = some oi) {dd : Nat} {j : Int} (h : ldS n ops Γ oi = some (dd, TM, false, .pointer (some (elA (some ⟨R, 0, none⟩) 1 j)))) (k : WA Try.prog n w0 D σS ops Q fuel (listed.setIfInBounds i true) ((dd, .map (some (gt ms j))) :: Γ) σ)
    (hm : HasR σS (RowM R ms) := by (repeat (first | exact .here | refine .there ?_)) <;> fail) (h0 : 0 ≤ j := by omega) (h1 : j < ms.length := by omega) (hσ : Suf σS σ := by (repeat (first | exact Suf.refl | exact Suf.nil | exact Suf.app _ _ | apply Suf.cons)) <;> fail) (hk : takeOK ops listed i = true := by kernel_rfl) : WA Try.prog n w0 D σS ops Q (fuel + 1) listed Γ σ := by
  obtain ⟨τ, hτ⟩ := hσ.ex
  obtain ⟨x, hop, hg, hd, hb, hx, ht⟩ := ldS_spec h
  obtain ⟨m, hm⟩ := hm.idx
  refine wa_v i τ hi hk hτ hg hd hb (val_of_ld hop hx (v := .map (some (gt ms j))) ?_) k
  intro w hst
  have hb : w.heap[R]? = some (.cells (ms.map fun b => Value.map (some b)).toArray TM (0, 0)) := hst.at_ m hm
  have hlt : j.toNat < ms.length := by omega
  have hc : w.cell? (elA (some ⟨R, 0, none⟩) 1 j) = some (.map (some (gt ms j))) := by
    simp [elA, add_own, World.cell?, hb, gt, hlt, List.getD_eq_getElem?_getD, List.getElem?_eq_getElem hlt]
  simp [Instr.loadAt, Instr.sureAddr, loadVar, run_isAgg ht, hc, Result.andThen]
end
/-! ### patterns that are handed out -/
structure PA where
  A : Option Addr
  c : Nat
  B : Option Addr
  d : Nat
abbrev PA.nil : PA := ⟨none, 0, none, 0⟩
abbrev pvl (x : PA) (p : Pat) : Value := patV p x.A x.c x.B x.d
abbrev pcs (x : PA) (p : Pat) : List Value := [vi p.rows, vi p.width, .slice x.A p.start.length x.c, .slice x.B p.cols.length x.d]
abbrev PatR (x : PA) (p : Pat) : List Res := [osl TI vi x.A x.c p.start, osl TI vi x.B x.d p.cols]
abbrev zP : Pat := ⟨0, 0, [], []⟩
structure RdP (w : World) (x : PA) (p : Pat) : Prop where
  s : Rds vi w x.A x.c p.start
  c : Rds vi w x.B x.d p.cols
structure RdPO (w0 : World) (D : List Nat) (x : PA) (p : Pat) : Prop where
  s : RdO vi w0 D x.A x.c p.start
  c : RdO vi w0 D x.B x.d p.cols
theorem RdPO.now {w0 w : World} {D : List Nat} {σ : List Res} {x : PA} {p : Pat} (h : RdPO w0 D x p) (hst : St w0 D σ w) : RdP w x p := ⟨h.s.now hst, h.c.now hst⟩
theorem RdPO.later {w0 w : World} {D : List Nat} {σ : List Res} {x : PA} {p : Pat} (h : RdPO w0 D x p) (hst : St w0 D σ w) : RdPO w (σ.flatMap Res.fp) x p := ⟨h.s.later hst, h.c.later hst⟩
theorem RdP.old {w : World} {x : PA} {p : Pat} (h : RdP w x p) : RdPO w [] x p := ⟨h.s.old, h.c.old⟩
theorem rdP_nil (w : World) : RdP w .nil zP := ⟨osl_reads (e := TI) (f := vi) ⟨by simp, .inl ⟨rfl, rfl⟩⟩, osl_reads (e := TI) (f := vi) ⟨by simp, .inl ⟨rfl, rfl⟩⟩⟩
theorem grdP {w0 w : World} {D : List Nat} {σ : List Res} {x : PA} {p : Pat} (hst : St w0 D σ w) (h1 : HasR σ (osl TI vi x.A x.c p.start) := by (repeat (first | exact .here | refine .there ?_)) <;> fail) (h2 : HasR σ (osl TI vi x.B x.d p.cols) := by (repeat (first | exact .here | refine .there ?_)) <;> fail) : RdP w x p := ⟨osl_reads (h1.st hst), osl_reads (h2.st hst)⟩
theorem nat_cast_toNat {m : Nat} {x : Int} (h : (m : Int) = x) : m = x.toNat := by omega
/-- a pattern that is ours, given a pattern elsewhere that is still to be read: apart -/
theorem RdP.mk' {w : World} {p : Pat} {A B : Option Addr} {c d : Nat} (hA : Rds vi w A c p.start) (hB : Rds vi w B d p.cols) : RdP w ⟨A, c, B, d⟩ p := ⟨hA, hB⟩
theorem samePattern_c {p q : Pat} {x y : PA} (w : World) (hp : RdP w x p) (hq : RdP w y q) (b : Bool) (hb : b = true ↔ p = q) :
    Calls Try.prog 24 [pvl x p, pvl y q].toArray w (one (.bool b) w) := by
  have os := hp.s.old
  have oc := hp.c.old
  have os' := hq.s.old
  have oc' := hq.c.old
  have hno : p ≠ q → b = false := fun h => by cases b with | false => rfl | true => exact absurd (hb.1 rfl) h
  unfold pvl patV
  by_cases h1 : p.rows = q.rows
  · by_cases h2 : p.width = q.width
    · by_cases h3 : p.start = q.start
      · obtain ⟨b', hb'⟩ : ∃ b' : Bool, b' = true ↔ p.cols = q.cols := by classical exact ⟨decide (p.cols = q.cols), by simp⟩
        obtain rfl : b' = b := by
          rw [Bool.eq_iff_iff, hb, hb']
          exact ⟨fun h => by cases p; cases q; simp_all, fun h => by rw [h]⟩
        refine calls_wc [] [] [.tmp 4] (fun _ => [.bool b']) Try.func24 rfl rfl (fun _ => rfl) Try.ntmps24 rfl (Own.nil w) rfl ?_
        (repeat (first | with_reducible refine thenQ_normal ?_ | with_reducible refine thenQ_exit ?_ | with_reducible refine thenQ_ret ?_ | with_reducible refine blkQ_normal ?_ | with_reducible refine blkQ_ret ?_ | with_reducible refine blkQ_hit ?_ | (with_reducible refine blkQ_miss ?_ ?_; · rfl) | refine wc_seq ?_ | refine wc_skip ?_ | refine wc_block ?_ | refine wc_true rfl ?_ | refine wc_false rfl ?_ | refine wc_exit ?_ | refine wc_ret ?_ | (refine wc_region ?_; repeat (first | refine gp1 (by exact rfl) ?_ | refine gl1 (by exact rfl) ?_ | refine gb1 (by exact rfl) ?_ | refine gi1 (by exact rfl) ?_ | refine gt1 (by exact rfl) ?_)) | refine wl_nil ?_ | refine wq_nil ?_ | refine gp1 (by exact rfl) ?_ | refine gl1 (by exact rfl) ?_ | refine gb1 (by exact rfl) ?_ | refine gi1 (by exact rfl) ?_ | refine gt1 (by exact rfl) ?_ | refine gp2 (by exact rfl) ?_ | refine gl2 (by exact rfl) ?_ | refine gb2 (by exact rfl) ?_ | refine gi2 (by exact rfl) ?_))
        refine wl_op (ok_box rfl rfl rfl rfl rfl ?_); intro b1
        refine wl_op (ok_box rfl rfl rfl rfl rfl ?_); intro b2
        (repeat (first | with_reducible refine thenQ_normal ?_ | with_reducible refine thenQ_exit ?_ | with_reducible refine thenQ_ret ?_ | with_reducible refine blkQ_normal ?_ | with_reducible refine blkQ_ret ?_ | with_reducible refine blkQ_hit ?_ | (with_reducible refine blkQ_miss ?_ ?_; · rfl) | refine wc_seq ?_ | refine wc_skip ?_ | refine wc_block ?_ | refine wc_true rfl ?_ | refine wc_false rfl ?_ | refine wc_exit ?_ | refine wc_ret ?_ | (refine wc_region ?_; repeat (first | refine gp1 (by exact rfl) ?_ | refine gl1 (by exact rfl) ?_ | refine gb1 (by exact rfl) ?_ | refine gi1 (by exact rfl) ?_ | refine gt1 (by exact rfl) ?_)) | refine wl_nil ?_ | refine wq_nil ?_ | refine gp1 (by exact rfl) ?_ | refine gl1 (by exact rfl) ?_ | refine gb1 (by exact rfl) ?_ | refine gi1 (by exact rfl) ?_ | refine gt1 (by exact rfl) ?_ | refine gp2 (by exact rfl) ?_ | refine gl2 (by exact rfl) ?_ | refine gb2 (by exact rfl) ?_ | refine gi2 (by exact rfl) ?_))
        refine gc1 (fun w hst => sameInts_c w (os.now hst) (os'.now hst) true (by simp [h3])) (by exact rfl) ?_
        (repeat (first | with_reducible refine thenQ_normal ?_ | with_reducible refine thenQ_exit ?_ | with_reducible refine thenQ_ret ?_ | with_reducible refine blkQ_normal ?_ | with_reducible refine blkQ_ret ?_ | with_reducible refine blkQ_hit ?_ | (with_reducible refine blkQ_miss ?_ ?_; · rfl) | refine wc_seq ?_ | refine wc_skip ?_ | refine wc_block ?_ | refine wc_true rfl ?_ | refine wc_false rfl ?_ | refine wc_exit ?_ | refine wc_ret ?_ | (refine wc_region ?_; repeat (first | refine gp1 (by exact rfl) ?_ | refine gl1 (by exact rfl) ?_ | refine gb1 (by exact rfl) ?_ | refine gi1 (by exact rfl) ?_ | refine gt1 (by exact rfl) ?_)) | refine wl_nil ?_ | refine wq_nil ?_ | refine gp1 (by exact rfl) ?_ | refine gl1 (by exact rfl) ?_ | refine gb1 (by exact rfl) ?_ | refine gi1 (by exact rfl) ?_ | refine gt1 (by exact rfl) ?_ | refine gp2 (by exact rfl) ?_ | refine gl2 (by exact rfl) ?_ | refine gb2 (by exact rfl) ?_ | refine gi2 (by exact rfl) ?_))
        refine gc1 (fun w hst => sameInts_c w (oc.now hst) (oc'.now hst) b' hb') (by exact rfl) ?_
        (repeat (first | with_reducible refine thenQ_normal ?_ | with_reducible refine thenQ_exit ?_ | with_reducible refine thenQ_ret ?_ | with_reducible refine blkQ_normal ?_ | with_reducible refine blkQ_ret ?_ | with_reducible refine blkQ_hit ?_ | (with_reducible refine blkQ_miss ?_ ?_; · rfl) | refine wc_seq ?_ | refine wc_skip ?_ | refine wc_block ?_ | refine wc_true rfl ?_ | refine wc_false rfl ?_ | refine wc_exit ?_ | refine wc_ret ?_ | (refine wc_region ?_; repeat (first | refine gp1 (by exact rfl) ?_ | refine gl1 (by exact rfl) ?_ | refine gb1 (by exact rfl) ?_ | refine gi1 (by exact rfl) ?_ | refine gt1 (by exact rfl) ?_)) | refine wl_nil ?_ | refine wq_nil ?_ | refine gp1 (by exact rfl) ?_ | refine gl1 (by exact rfl) ?_ | refine gb1 (by exact rfl) ?_ | refine gi1 (by exact rfl) ?_ | refine gt1 (by exact rfl) ?_ | refine gp2 (by exact rfl) ?_ | refine gl2 (by exact rfl) ?_ | refine gb2 (by exact rfl) ?_ | refine gi2 (by exact rfl) ?_))
        exact grt () trivial
      · obtain rfl := hno fun h => h3 (by rw [h])
        refine calls_wc [] [] [.tmp 4] (fun _ => [.bool false]) Try.func24 rfl rfl (fun _ => rfl) Try.ntmps24 rfl (Own.nil w) rfl ?_
        (repeat (first | with_reducible refine thenQ_normal ?_ | with_reducible refine thenQ_exit ?_ | with_reducible refine thenQ_ret ?_ | with_reducible refine blkQ_normal ?_ | with_reducible refine blkQ_ret ?_ | with_reducible refine blkQ_hit ?_ | (with_reducible refine blkQ_miss ?_ ?_; · rfl) | refine wc_seq ?_ | refine wc_skip ?_ | refine wc_block ?_ | refine wc_true rfl ?_ | refine wc_false rfl ?_ | refine wc_exit ?_ | refine wc_ret ?_ | (refine wc_region ?_; repeat (first | refine gp1 (by exact rfl) ?_ | refine gl1 (by exact rfl) ?_ | refine gb1 (by exact rfl) ?_ | refine gi1 (by exact rfl) ?_ | refine gt1 (by exact rfl) ?_)) | refine wl_nil ?_ | refine wq_nil ?_ | refine gp1 (by exact rfl) ?_ | refine gl1 (by exact rfl) ?_ | refine gb1 (by exact rfl) ?_ | refine gi1 (by exact rfl) ?_ | refine gt1 (by exact rfl) ?_ | refine gp2 (by exact rfl) ?_ | refine gl2 (by exact rfl) ?_ | refine gb2 (by exact rfl) ?_ | refine gi2 (by exact rfl) ?_))
        refine wl_op (ok_box rfl rfl rfl rfl rfl ?_); intro b1
        refine wl_op (ok_box rfl rfl rfl rfl rfl ?_); intro b2
        (repeat (first | with_reducible refine thenQ_normal ?_ | with_reducible refine thenQ_exit ?_ | with_reducible refine thenQ_ret ?_ | with_reducible refine blkQ_normal ?_ | with_reducible refine blkQ_ret ?_ | with_reducible refine blkQ_hit ?_ | (with_reducible refine blkQ_miss ?_ ?_; · rfl) | refine wc_seq ?_ | refine wc_skip ?_ | refine wc_block ?_ | refine wc_true rfl ?_ | refine wc_false rfl ?_ | refine wc_exit ?_ | refine wc_ret ?_ | (refine wc_region ?_; repeat (first | refine gp1 (by exact rfl) ?_ | refine gl1 (by exact rfl) ?_ | refine gb1 (by exact rfl) ?_ | refine gi1 (by exact rfl) ?_ | refine gt1 (by exact rfl) ?_)) | refine wl_nil ?_ | refine wq_nil ?_ | refine gp1 (by exact rfl) ?_ | refine gl1 (by exact rfl) ?_ | refine gb1 (by exact rfl) ?_ | refine gi1 (by exact rfl) ?_ | refine gt1 (by exact rfl) ?_ | refine gp2 (by exact rfl) ?_ | refine gl2 (by exact rfl) ?_ | refine gb2 (by exact rfl) ?_ | refine gi2 (by exact rfl) ?_))
        refine gc1 (fun w hst => sameInts_c w (os.now hst) (os'.now hst) false (by simp [h3])) (by exact rfl) ?_
        (repeat (first | with_reducible refine thenQ_normal ?_ | with_reducible refine thenQ_exit ?_ | with_reducible refine thenQ_ret ?_ | with_reducible refine blkQ_normal ?_ | with_reducible refine blkQ_ret ?_ | with_reducible refine blkQ_hit ?_ | (with_reducible refine blkQ_miss ?_ ?_; · rfl) | refine wc_seq ?_ | refine wc_skip ?_ | refine wc_block ?_ | refine wc_true rfl ?_ | refine wc_false rfl ?_ | refine wc_exit ?_ | refine wc_ret ?_ | (refine wc_region ?_; repeat (first | refine gp1 (by exact rfl) ?_ | refine gl1 (by exact rfl) ?_ | refine gb1 (by exact rfl) ?_ | refine gi1 (by exact rfl) ?_ | refine gt1 (by exact rfl) ?_)) | refine wl_nil ?_ | refine wq_nil ?_ | refine gp1 (by exact rfl) ?_ | refine gl1 (by exact rfl) ?_ | refine gb1 (by exact rfl) ?_ | refine gi1 (by exact rfl) ?_ | refine gt1 (by exact rfl) ?_ | refine gp2 (by exact rfl) ?_ | refine gl2 (by exact rfl) ?_ | refine gb2 (by exact rfl) ?_ | refine gi2 (by exact rfl) ?_))
        exact grt () trivial
    · obtain rfl := hno fun h => h2 (by rw [h])
      refine calls_wc [] [] [.tmp 4] (fun _ => [.bool false]) Try.func24 rfl rfl (fun _ => rfl) Try.ntmps24 rfl (Own.nil w) rfl ?_
      (repeat (first | with_reducible refine thenQ_normal ?_ | with_reducible refine thenQ_exit ?_ | with_reducible refine thenQ_ret ?_ | with_reducible refine blkQ_normal ?_ | with_reducible refine blkQ_ret ?_ | with_reducible refine blkQ_hit ?_ | (with_reducible refine blkQ_miss ?_ ?_; · rfl) | refine wc_seq ?_ | refine wc_skip ?_ | refine wc_block ?_ | refine wc_true rfl ?_ | refine wc_false rfl ?_ | refine wc_exit ?_ | refine wc_ret ?_ | (refine wc_region ?_; repeat (first | refine gp1 (by exact rfl) ?_ | refine gl1 (by exact rfl) ?_ | refine gb1 (by exact rfl) ?_ | refine gi1 (by exact rfl) ?_ | refine gt1 (by exact rfl) ?_)) | refine wl_nil ?_ | refine wq_nil ?_ | refine gp1 (by exact rfl) ?_ | refine gl1 (by exact rfl) ?_ | refine gb1 (by exact rfl) ?_ | refine gi1 (by exact rfl) ?_ | refine gt1 (by exact rfl) ?_ | refine gp2 (by exact rfl) ?_ | refine gl2 (by exact rfl) ?_ | refine gb2 (by exact rfl) ?_ | refine gi2 (by exact rfl) ?_))
      refine wl_op (ok_box rfl rfl rfl rfl rfl ?_); intro b1
      refine wl_op (ok_box rfl rfl rfl rfl rfl ?_); intro b2
      (repeat (first | with_reducible refine thenQ_normal ?_ | with_reducible refine thenQ_exit ?_ | with_reducible refine thenQ_ret ?_ | with_reducible refine blkQ_normal ?_ | with_reducible refine blkQ_ret ?_ | with_reducible refine blkQ_hit ?_ | (with_reducible refine blkQ_miss ?_ ?_; · rfl) | refine wc_seq ?_ | refine wc_skip ?_ | refine wc_block ?_ | refine wc_true rfl ?_ | refine wc_false rfl ?_ | refine wc_exit ?_ | refine wc_ret ?_ | (refine wc_region ?_; repeat (first | refine gp1 (by exact rfl) ?_ | refine gl1 (by exact rfl) ?_ | refine gb1 (by exact rfl) ?_ | refine gi1 (by exact rfl) ?_ | refine gt1 (by exact rfl) ?_)) | refine wl_nil ?_ | refine wq_nil ?_ | refine gp1 (by exact rfl) ?_ | refine gl1 (by exact rfl) ?_ | refine gb1 (by exact rfl) ?_ | refine gi1 (by exact rfl) ?_ | refine gt1 (by exact rfl) ?_ | refine gp2 (by exact rfl) ?_ | refine gl2 (by exact rfl) ?_ | refine gb2 (by exact rfl) ?_ | refine gi2 (by exact rfl) ?_))
      exact grt () trivial
  · obtain rfl := hno fun h => h1 (by rw [h])
    refine calls_wc [] [] [.tmp 4] (fun _ => [.bool false]) Try.func24 rfl rfl (fun _ => rfl) Try.ntmps24 rfl (Own.nil w) rfl ?_
    (repeat (first | with_reducible refine thenQ_normal ?_ | with_reducible refine thenQ_exit ?_ | with_reducible refine thenQ_ret ?_ | with_reducible refine blkQ_normal ?_ | with_reducible refine blkQ_ret ?_ | with_reducible refine blkQ_hit ?_ | (with_reducible refine blkQ_miss ?_ ?_; · rfl) | refine wc_seq ?_ | refine wc_skip ?_ | refine wc_block ?_ | refine wc_true rfl ?_ | refine wc_false rfl ?_ | refine wc_exit ?_ | refine wc_ret ?_ | (refine wc_region ?_; repeat (first | refine gp1 (by exact rfl) ?_ | refine gl1 (by exact rfl) ?_ | refine gb1 (by exact rfl) ?_ | refine gi1 (by exact rfl) ?_ | refine gt1 (by exact rfl) ?_)) | refine wl_nil ?_ | refine wq_nil ?_ | refine gp1 (by exact rfl) ?_ | refine gl1 (by exact rfl) ?_ | refine gb1 (by exact rfl) ?_ | refine gi1 (by exact rfl) ?_ | refine gt1 (by exact rfl) ?_ | refine gp2 (by exact rfl) ?_ | refine gl2 (by exact rfl) ?_ | refine gb2 (by exact rfl) ?_ | refine gi2 (by exact rfl) ?_))
    refine wl_op (ok_box rfl rfl rfl rfl rfl ?_); intro b1
    refine wl_op (ok_box rfl rfl rfl rfl rfl ?_); intro b2
    (repeat (first | with_reducible refine thenQ_normal ?_ | with_reducible refine thenQ_exit ?_ | with_reducible refine thenQ_ret ?_ | with_reducible refine blkQ_normal ?_ | with_reducible refine blkQ_ret ?_ | with_reducible refine blkQ_hit ?_ | (with_reducible refine blkQ_miss ?_ ?_; · rfl) | refine wc_seq ?_ | refine wc_skip ?_ | refine wc_block ?_ | refine wc_true rfl ?_ | refine wc_false rfl ?_ | refine wc_exit ?_ | refine wc_ret ?_ | (refine wc_region ?_; repeat (first | refine gp1 (by exact rfl) ?_ | refine gl1 (by exact rfl) ?_ | refine gb1 (by exact rfl) ?_ | refine gi1 (by exact rfl) ?_ | refine gt1 (by exact rfl) ?_)) | refine wl_nil ?_ | refine wq_nil ?_ | refine gp1 (by exact rfl) ?_ | refine gl1 (by exact rfl) ?_ | refine gb1 (by exact rfl) ?_ | refine gi1 (by exact rfl) ?_ | refine gt1 (by exact rfl) ?_ | refine gp2 (by exact rfl) ?_ | refine gl2 (by exact rfl) ?_ | refine gb2 (by exact rfl) ?_ | refine gi2 (by exact rfl) ?_))
    exact grt () trivial
end Go.Proofs.Ytofngbaefbbeiaa
