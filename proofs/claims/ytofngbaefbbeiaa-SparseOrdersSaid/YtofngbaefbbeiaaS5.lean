/- A small logic for the walks: regions that draw their order; slicing. -/
import Derived.Test.YtofngbaefbbeiaaS4
import Derived.Deep.Quiet
set_option linter.unusedVariables false
set_option linter.unusedSimpArgs false
namespace Go.Proofs.Ytofngbaefbbeiaa
open Go.RowKit
section
variable {P : Program} {n : Nat} {w0 : World} {D : List Nat} {Γ : Tm} {σ : List Res} {ops : Array Oper} {o : Oper}

/-! ### a region that draws: it only reads, and calls what yields one value -/
structure WQ (P : Program) (n : Nat) (w0 : World) (D : List Nat) (σ : List Res) (ops : Array Oper) (K : Tm → Prop) (os : List Oper) (Γ : Tm) : Prop where
  run : ∀ a, Sees n a Γ → wpQuiet P ops (St w0 D σ) (fun a' => ∃ Γ', Sees n a' Γ' ∧ K Γ') os a
theorem wq_nil {K : Tm → Prop} (h : K Γ) : WQ P n w0 D σ ops K [] Γ := .mk fun a hs => wpQuiet_nil ⟨Γ, hs, h⟩
theorem wq_val {K : Tm → Prop} {os : List Oper} {v : Value} (hg : gd Γ ops o = some true) {dd : Nat} (hd : o.dst = some dd) (hdn : Nat.blt dd n = true) (hv : ValOK P w0 D σ Γ o v) (h : WQ P n w0 D σ ops K os ((dd, v) :: Γ)) : WQ P n w0 D σ ops K (o :: os) Γ := .mk fun a hs =>
  wpQuiet_step fun K' hK => by
    rw [if_pos (gd_spec hs hg)]
    refine ⟨v, fun w hw => ?_, hK _ (h.run _ (hs.put hd hdn v))⟩
    unfold Oper.quietAt
    rw [hv.run w hw a.eval (fun x u hx => hs.eval hx)]
    exact ⟨rfl, rfl⟩
theorem wq_pass {K : Tm → Prop} {os : List Oper} (hg : gd Γ ops o = some false) {dd : Nat} (hd : o.dst = some dd) (hdn : Nat.blt dd n = true) (h : WQ P n w0 D σ ops K os ((dd, undef) :: Γ)) : WQ P n w0 D σ ops K (o :: os) Γ := .mk fun a hs =>
  wpQuiet_step fun K' hK => by
    rw [if_neg (by rw [gd_spec hs hg]; simp)]
    exact hK _ (h.run _ (hs.put hd hdn undef))
theorem wq_call {K : Tm → Prop} {os : List Oper} {f : FuncId} {args : Array Operand} {tys : Array TypeId} {vs : List Value} {v : Value} (hc : ∀ w, St w0 D σ w → Calls P f vs.toArray w (one v w)) (hop : o.op = .call { callee := .value (.func f), args := args, argTypes := tys })
    (ha : args.toList.map (ev Γ) = vs.map some) (hb : bodied P f = true) (hg : gd Γ ops o = some true) {dd : Nat} (hd : o.dst = some dd) (hdn : Nat.blt dd n = true)
    (h : WQ P n w0 D σ ops K os ((dd, v) :: Γ)) : WQ P n w0 D σ ops K (o :: os) Γ := .mk fun a hs =>
  wpQuiet_step fun K' hK => by
    rw [if_pos (gd_spec hs hg)]
    refine ⟨v, fun w hw => ?_, hK _ (h.run _ (hs.put hd hdn v))⟩
    unfold Oper.quietAt
    have e1 : args.map a.eval = vs.toArray := Array.toList_inj.1 (by rw [Array.toList_map]; exact args_map (fun x u hx => hs.eval hx) _ _ ha)
    have hr : (execOp a.eval o).run P w = .ok (.enter f vs.toArray) w := by
      simp only [execOp, hop, resolve, e1]
      simp [Act.eval, Deferred.ofValue, invoke, run_callFunc hb, Result.andThen]
    rw [hr]
    refine ⟨rfl, (hc w hw).mono ?_⟩
    rintro e w' ⟨x, rfl, _, ho, _⟩
    exact ⟨rfl, hw.same ho⟩
theorem wq_part {K : Tm → Prop} {os : List Oper} {φ : Prop} (ht : φ → WQ P n w0 D σ ops K os Γ) (hf : ¬ φ → WQ P n w0 D σ ops K os Γ) : WQ P n w0 D σ ops K os Γ := by
  by_cases h : φ
  · exact ht h
  · exact hf h
theorem wq_cmp {K : Tm → Prop} {os : List Oper} {t t2 : TypeId} {x y : Operand} {a b : Int} {op : BinOp} {k : IntKind} (hop : o.op = .binOp op t x y t2) (hc : isCmp op = true) (hx : ev Γ x = some (.int k a)) (hy : ev Γ y = some (.int k b)) (hg : gd Γ ops o = some true) {dd : Nat} (hd : o.dst = some dd) (hdn : Nat.blt dd n = true)
    (ht : cmpP op a b → WQ P n w0 D σ ops K os ((dd, .bool true) :: Γ)) (hf : ¬ cmpP op a b → WQ P n w0 D σ ops K os ((dd, .bool false) :: Γ)) : WQ P n w0 D σ ops K (o :: os) Γ := by
  by_cases h : cmpP op a b
  · exact wq_val hg hd hdn (val_cmp hop hc hx hy (by simp [h])) (ht h)
  · exact wq_val hg hd hdn (val_cmp hop hc hx hy (by simp [h])) (hf h)

/-! ### a region that draws, in general -/
structure WA (P : Program) (n : Nat) (w0 : World) (D : List Nat) (σS : List Res) (ops : Array Oper) (Q : QQ) (fuel : Nat) (listed : Array Bool) (Γ : Tm) (σ : List Res) : Prop where
  run : ∀ a w, Sees n a Γ → St w0 D σ w → wpAnyH P .any ops (conc n w0 D Q) (St w0 D σS) fuel listed a w
theorem wa_begin {Q : QQ} {id : Nat} (hm : P.follows .mixedOrders = true) (h : WA P n w0 D σ ops Q ops.size (Array.replicate ops.size false) Γ σ) : WC P n w0 D (.region id ops true) Q Γ σ := .mk fun a w hs hst =>
  wp_region_held hm (h.run a _ hs (hst.same (Only.drew [] w)))
theorem St.suffix {w : World} {τ σS : List Res} (h : St w0 D (τ ++ σS) w) : St w0 D σS w := by
  induction τ with
  | nil => exact h
  | cons r τ ih => exact ih h.drop
theorem wa_take (i : Nat) (τ : List Res) {σS : List Res} {Q : QQ} {fuel : Nat} {listed : Array Bool} {oi : Oper} {v : Value} (hσ : σ = τ ++ σS) (hi : ops[i]? = some oi) (hs : Region.noSelect ops = true) (hf : Region.free .any ops listed i = true) (hr : (Region.ready .any ops listed).contains i = true)
    (hg : gd Γ ops oi = some true) {dd : Nat} (hd : oi.dst = some dd) (hdn : Nat.blt dd n = true) (hv : ValOK P w0 D σS Γ oi v) (h : WA P n w0 D σS ops Q fuel (listed.setIfInBounds i true) ((dd, v) :: Γ) σ) : WA P n w0 D σS ops Q (fuel + 1) listed Γ σ := .mk fun a w hse hst => by
  refine wpAnyH_take hi hs hf hr (fun _ _ _ h => h) (.inl ⟨gd_spec hse hg, fun w hw => hv.run w hw a.eval (fun x u hx => hse.eval hx)⟩) ?_ (h.run _ w (hse.put hd hdn v) hst)
  subst hσ
  exact hst.suffix
theorem wa_takepass (i : Nat) (τ : List Res) {σS : List Res} {Q : QQ} {fuel : Nat} {listed : Array Bool} {oi : Oper} (hσ : σ = τ ++ σS) (hi : ops[i]? = some oi) (hs : Region.noSelect ops = true) (hf : Region.free .any ops listed i = true) (hr : (Region.ready .any ops listed).contains i = true)
    (hg : gd Γ ops oi = some false) {dd : Nat} (hd : oi.dst = some dd) (hdn : Nat.blt dd n = true) (h : WA P n w0 D σS ops Q fuel (listed.setIfInBounds i true) ((dd, undef) :: Γ) σ) : WA P n w0 D σS ops Q (fuel + 1) listed Γ σ := .mk fun a w hse hst => by
  refine wpAnyH_take hi hs hf hr (fun _ _ _ h => h) (.inr ⟨gd_spec hse hg, rfl⟩) ?_ (h.run _ w (hse.put hd hdn undef) hst)
  subst hσ
  exact hst.suffix
theorem wa_op {σS : List Res} {Q : QQ} {fuel : Nat} {listed : Array Bool} {i : Nat} {oi : Oper} (hi : ops[i]? = some oi) (h : OpOK P n w0 D ops oi (fun Γ σ => (∃ τ, σ = τ ++ σS) ∧ WA P n w0 D σS ops Q fuel (listed.setIfInBounds i true) Γ σ) Γ σ)
    (a : Act) (w : World) (hse : Sees n a Γ) (hst : St w0 D σ w) : wpOp P ops (conc n w0 D Q) i (fun a' w' => St w0 D σS w' ∧ wpAnyH P .any ops (conc n w0 D Q) (St w0 D σS) fuel (listed.setIfInBounds i true) a' w') a w :=
  wpOp_step hi fun K' hK => h.run a w hse hst _ K' fun a w Γ σ hse hst ⟨⟨τ, hτ⟩, hk⟩ => hK a w ⟨by subst hτ; exact hst.suffix, hk.run a w hse hst⟩
theorem wa_one (i : Nat) {σS : List Res} {Q : QQ} {fuel : Nat} {listed : Array Bool} {oi : Oper} (hi : ops[i]? = some oi) (hr : Region.ready .any ops listed = [i])
    (h : OpOK P n w0 D ops oi (fun Γ σ => (∃ τ, σ = τ ++ σS) ∧ WA P n w0 D σS ops Q fuel (listed.setIfInBounds i true) Γ σ) Γ σ) : WA P n w0 D σS ops Q (fuel + 1) listed Γ σ := .mk fun a w hse hst =>
  wpAnyH_all hr (by simp) fun j hj => by
    obtain rfl : j = i := by simpa using hj
    exact wa_op hi h a w hse hst
theorem wa_two (i j : Nat) {σS : List Res} {Q : QQ} {fuel : Nat} {listed : Array Bool} {oi oj : Oper} (hi : ops[i]? = some oi) (hj : ops[j]? = some oj) (hr : Region.ready .any ops listed = [i, j])
    (h1 : OpOK P n w0 D ops oi (fun Γ σ => (∃ τ, σ = τ ++ σS) ∧ WA P n w0 D σS ops Q fuel (listed.setIfInBounds i true) Γ σ) Γ σ)
    (h2 : OpOK P n w0 D ops oj (fun Γ σ => (∃ τ, σ = τ ++ σS) ∧ WA P n w0 D σS ops Q fuel (listed.setIfInBounds j true) Γ σ) Γ σ) : WA P n w0 D σS ops Q (fuel + 1) listed Γ σ := .mk fun a w hse hst =>
  wpAnyH_all hr (by simp) fun k hk => by
    rcases List.mem_cons.1 hk with rfl | hk
    · exact wa_op hi h1 a w hse hst
    · obtain rfl : k = j := by simpa using hk
      exact wa_op hj h2 a w hse hst
theorem wa_done {σS : List Res} {Q : QQ} {fuel : Nat} {listed : Array Bool} (hr : Region.ready .any ops listed = []) (h : Q .normal Γ σ) : WA P n w0 D σS ops Q fuel listed Γ σ := .mk fun a w hse hst =>
  wpAnyH_done hr ⟨Γ, σ, hse, hst, h⟩ fuel

/-! ### slicing -/
def sub {α : Type} (xs : List α) (lo hi : Int) : List α := (xs.drop lo.toNat).take (hi.toNat - lo.toNat)
theorem sub_length {α : Type} (xs : List α) {lo hi : Int} (h0 : 0 ≤ lo) (h1 : lo ≤ hi) (h2 : hi ≤ xs.length) : (sub xs lo hi).length = hi.toNat - lo.toNat := by
  unfold sub; simp; omega
/-- s[lo:hi], s in memory that reads as xs: a slice that reads as a piece of xs -/
theorem run_sub {α : Type} {f : α → Value} {w : World} {A : Option Addr} {c : Nat} {xs : List α} {t e : TypeId} (h : Rds f w A c xs) (ht : elem? P t = some e) (hs : size? P e = some 1) {lo hi : Int} (h0 : 0 ≤ lo) (h1 : lo ≤ hi) (h2 : hi ≤ xs.length) :
    (Instr.sliceAt t (.slice A xs.length c) (some (.int .i64 lo)) (some (.int .i64 hi)) none).run P w = .ok (.slice (if c = lo.toNat then A else A.map (·.add lo.toNat)) (sub xs lo hi).length (c - lo.toNat)) w ∧
    Rds f w (if c = lo.toNat then A else A.map (·.add lo.toNat)) (c - lo.toNat) (sub xs lo hi) := by
  have hu := elem?_spec ht
  have hlc := h.1
  refine ⟨?_, ?_⟩
  · have hc : (hi : Int) ≤ c := by omega
    rw [sub_length xs h0 h1 h2]
    have e1 : 0 ≤ hi ∧ hi ≤ (c : Int) := by omega
    have e2 : 0 ≤ lo ∧ lo ≤ (hi.toNat : Int) := by omega
    have e3 : lo ≤ max hi 0 := by omega
    simp [Instr.sliceAt, Instr.slice, run_underlying hu, Instr.sliceBounds, Instr.sliceBound, asIntOf, e1, e2, e3, h0, run_sizeOf' hs, Result.andThen]
  · refine ⟨by rw [sub_length xs h0 h1 h2]; omega, by have := h.2.1; omega, fun hn => ?_⟩
    rw [sub_length xs h0 h1 h2] at hn
    obtain ⟨ad, rfl, hc⟩ := h.2.2 (by omega)
    rw [if_neg (by omega)]
    refine ⟨_, rfl, fun j hj => ?_⟩
    rw [sub_length xs h0 h1 h2] at hj
    have e3 : (ad.add lo.toNat).add j = ad.add (lo.toNat + j) := by
      unfold Addr.add
      by_cases hi : lo.toNat = 0 <;> by_cases hj : j = 0 <;> simp [hi, hj, Nat.add_assoc]
    rw [e3, hc (lo.toNat + j) (by omega)]
    simp [sub]

theorem val_slice {α : Type} {f : α → Value} {A : Option Addr} {c : Nat} {xs : List α} {t e : TypeId} {x l h : Operand} {lo hi : Int} (hop : o.op = .slice t x (some l) (some h) none) (hx : ev Γ x = some (.slice A xs.length c)) (hl : ev Γ l = some (.int .i64 lo)) (hh : ev Γ h = some (.int .i64 hi))
    (hr : ∀ w, St w0 D σ w → Rds f w A c xs) (ht : elem? P t = some e) (hs : size? P e = some 1) (h0 : 0 ≤ lo) (h1 : lo ≤ hi) (h2 : hi ≤ xs.length) :
    ValOK P w0 D σ Γ o (.slice (if c = lo.toNat then A else A.map (·.add lo.toNat)) (sub xs lo hi).length (c - lo.toNat)) := by
  refine ⟨fun w hst g hg => ?_⟩
  have := (run_sub (hr w hst) ht hs h0 h1 h2).1
  simp [execOp, hop, hg _ _ hx, hg _ _ hl, hg _ _ hh, this]
theorem RdO.sub_ {α : Type} {f : α → Value} {A : Option Addr} {c : Nat} {xs : List α} {t e : TypeId} {lo hi : Int} (h : RdO f w0 D A c xs) (ht : elem? P t = some e) (hs : size? P e = some 1) (h0 : 0 ≤ lo) (h1 : lo ≤ hi) (h2 : hi ≤ xs.length) :
    RdO f w0 D (if c = lo.toNat then A else A.map (·.add lo.toNat)) (c - lo.toNat) (sub xs lo hi) := fun w ho => (run_sub (h w ho) ht hs h0 h1 h2).2
theorem ok_slice {K : Tm → List Res → Prop} {α : Type} {f : α → Value} {A : Option Addr} {c : Nat} {xs : List α} {t e : TypeId} {x l h : Operand} {lo hi : Int} (hr : RdO f w0 D A c xs) (hop : o.op = .slice t x (some l) (some h) none) (hx : ev Γ x = some (.slice A xs.length c)) (hl : ev Γ l = some (.int .i64 lo)) (hh : ev Γ h = some (.int .i64 hi))
    (hg : gd Γ ops o = some true) {dd : Nat} (hd : o.dst = some dd) (hdn : Nat.blt dd n = true) (ht : elem? P t = some e) (hs : size? P e = some 1) (h0 : 0 ≤ lo) (h1 : lo ≤ hi) (h2 : hi ≤ xs.length)
    (hk : ∀ A' c', RdO f w0 D A' c' (sub xs lo hi) → K ((dd, .slice A' (sub xs lo hi).length c') :: Γ) σ) : OpOK P n w0 D ops o K Γ σ :=
  ok_val hg hd hdn (val_slice hop hx hl hh (fun w hst => hr.now hst) ht hs h0 h1 h2) (hk _ _ (hr.sub_ ht hs h0 h1 h2))
theorem wq_slice {K : Tm → Prop} {os : List Oper} {α : Type} {f : α → Value} {A : Option Addr} {c : Nat} {xs : List α} {t e : TypeId} {x l h : Operand} {lo hi : Int} (hr : RdO f w0 D A c xs) (hop : o.op = .slice t x (some l) (some h) none) (hx : ev Γ x = some (.slice A xs.length c)) (hl : ev Γ l = some (.int .i64 lo)) (hh : ev Γ h = some (.int .i64 hi))
    (hg : gd Γ ops o = some true) {dd : Nat} (hd : o.dst = some dd) (hdn : Nat.blt dd n = true) (ht : elem? P t = some e) (hs : size? P e = some 1) (h0 : 0 ≤ lo) (h1 : lo ≤ hi) (h2 : hi ≤ xs.length)
    (hk : ∀ A' c', RdO f w0 D A' c' (sub xs lo hi) → WQ P n w0 D σ ops K os ((dd, .slice A' (sub xs lo hi).length c') :: Γ)) : WQ P n w0 D σ ops K (o :: os) Γ :=
  wq_val hg hd hdn (val_slice hop hx hl hh (fun w hst => hr.now hst) ht hs h0 h1 h2) (hk _ _ (hr.sub_ ht hs h0 h1 h2))
theorem wpQuiet_mono {C : World → Prop} {Q Q' : Act → Prop} (hq : ∀ a, Q a → Q' a) : ∀ (os : List Oper) (a : Act), wpQuiet P ops C Q os a → wpQuiet P ops C Q' os a
  | [], a, h => hq a h
  | o :: os, a, h => by
    unfold wpQuiet at h ⊢
    by_cases hw : Region.wanted o (yielded ops a.tmps) = true
    · rw [if_pos hw] at h ⊢; exact Oper.quiet_mono (fun a => wpQuiet_mono hq os a) h
    · rw [if_neg hw] at h ⊢; exact wpQuiet_mono hq os _ h
theorem wc_quiet {Q : QQ} {id : Nat} {l : List Oper} (hm : P.follows .mixedOrders = true) (hB : Region.lexB .any l.toArray = true) (h : WQ P n w0 D σ l.toArray (fun Γ' => Q .normal Γ' σ) l Γ) : WC P n w0 D (.region id l.toArray true) Q Γ σ := .mk fun a w hs hst =>
  wp_region_quiet (C := St w0 D σ) hm hB (hst.same (Only.drew [] w)) (by
    refine wpQuiet_mono ?_ _ _ (h.run a hs)
    rintro a' ⟨Γ', hs', hq⟩ w' hw'
    exact ⟨Γ', σ, hs', hw', hq⟩)
end
end Go.Proofs.Ytofngbaefbbeiaa
