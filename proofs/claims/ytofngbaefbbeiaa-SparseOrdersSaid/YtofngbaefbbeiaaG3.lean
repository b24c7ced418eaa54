/- Two places marked at once: mapEntry, entryStore on sets. -/
import Derived.Test.YtofngbaefbbeiaaG2
import Derived.WideKeyEntry
set_option linter.unusedVariables false
set_option linter.unusedSimpArgs false
set_option maxHeartbeats 4000000
namespace Go.Proofs.Ytofngbaefbbeiaa
open Go.RowKit Go.Maps Go.MapKept Go.ChangeMaps
open Go.WideElems (Fit rd rg rd_val elemAt findIdx_born findIdx_arr modify_last set_self)

/-- block b is a map, each of whose elements is the mark; an entry is there that was born at s -/
def Born (w : World) (b : Nat) (s : Int) : Prop := ∃ (es : Array MapEntry) (clock j : Nat) (e0 : MapEntry), w.heap[b]? = some (.map es clock) ∧ es[j]? = some e0 ∧ (e0.born : Int) = s
theorem Born.st {w w' : World} {b : Nat} {s : Int} (h : Born w b s) (hb : w'.heap[b]? = w.heap[b]?) : Born w' b s := by
  obtain ⟨es, clock, j, e0, h1, h2, h3⟩ := h
  exact ⟨es, clock, j, e0, hb.trans h1, h2, h3⟩
theorem IsSet.fit {w : World} {b : Nat} {f : Int → Bool} (h : IsSet w b f) : ∃ es clock, w.heap[b]? = some (.map es clock) ∧ Fit Try.prog TI (unitElem (H := Unit)) es clock ∧ ∀ e ∈ es.toList, e.val = .agg #[] := by
  obtain ⟨D, ⟨es, clock, h1, F, h3, h4⟩, _⟩ := h
  refine ⟨es, clock, h1, F, fun e he => ?_⟩
  obtain ⟨y, hy⟩ := F.reads e he
  obtain ⟨z, hz, _⟩ := rd_val hy
  exact (unitElem_inv hz).1
theorem Fit_keys {es : Array MapEntry} {clock : Nat} (F : Fit Try.prog TI (unitElem (H := Unit)) es clock) : ∀ e ∈ es.toList, ∃ l, keyOf Try.prog TI e.key = some l := fun e he => by
  obtain ⟨y, hy⟩ := F.reads e he
  exact ⟨_, Go.WideElems.rd_key hy⟩
/-- '&m[c]' of a set: the place is marked -/
theorem IsSet.entry {w : World} {b : Nat} {f : Int → Bool} (h : IsSet w b f) {c : Int} (h0 : 0 ≤ c) (h1 : c < 128) :
    ∃ (w' : World) (s : Int), (Instr.mapEntry TM (.map (some b)) (.int .i64 c)).run Try.prog w = .ok (.tuple #[.agg #[], .int .i64 s]) w' ∧ IsSet w' b (fun x => f x || x == c) ∧ Only [b] w w' ∧ Born w' b s ∧ ∀ s', Born w b s' → Born w' b s' := by
  obtain ⟨es, clock, hb, F, hu⟩ := h.fit
  obtain ⟨s1, s2, _⟩ := F.stamped
  have hkey : keyOf Try.prog TI (.int .i64 c) = some (.int .i64 c) := keyOf_int_mk Try.underlying3 (wf64 h0 h1)
  obtain ⟨w', hr, hset, ho⟩ := h.put h0 h1
  have hz : ∀ u : World, (zeroValue 105).run Try.prog u = .ok (.agg #[]) u := fun u => run_zeroValue' (ze_of rfl)
  rcases keyedI.find w hkey es.toList (Fit_keys F) with ⟨e1, e2⟩ | ⟨j, e0, e1, e2, e3⟩
  · have hup : w' = setBlock w b (.map (es.push ⟨.int .i64 c, .agg #[], clock⟩) (clock + 1)) := by
      have : (Instr.mapUpdate TM (.map (some b)) (.int .i64 c) (.agg #[])).run Try.prog w = .ok () (setBlock w b (.map (es.push ⟨.int .i64 c, .agg #[], clock⟩) (clock + 1))) := by
        simp [Instr.mapUpdate, run_underlying underM, MapKept.run_getObj_map hb, keyedI.check w false hkey, e1, MapKept.run_setObj_map _ hb, Result.andThen, setBlock]
      rw [this] at hr
      exact (Result.ok.inj hr).2.symm
    have hb' : w'.heap[b]? = some (.map (es.push ⟨.int .i64 c, .agg #[], clock⟩) (clock + 1)) := by rw [hup]; exact heap_setBlock_same hb _
    refine ⟨w', clock, ?_, hset, ho, ⟨_, _, es.size, ⟨.int .i64 c, .agg #[], clock⟩, hb', by simp, rfl⟩, ?_⟩
    · rw [hup]
      simp [Instr.mapEntry, run_underlying underM, MapKept.run_getObj_map hb, keyedI.check w false hkey, e1, hz, MapKept.run_setObj_map _ hb, Result.andThen, setBlock, goInt]
    · rintro s' ⟨es2, clock2, j, e0, g1, g2, g3⟩
      rw [hb] at g1
      simp only [Option.some.injEq, Obj.map.injEq] at g1
      obtain ⟨rfl, rfl⟩ := g1
      have hj : j < es.size := (Array.getElem?_eq_some_iff.1 g2).1
      exact ⟨_, _, j, e0, hb', by rw [Array.getElem?_push, if_neg (by omega)]; exact g2, g3⟩
  · have hj : es[j]? = some e0 := by simpa using e2
    have hv : e0.val = .agg #[] := hu e0 (List.mem_of_getElem? e2)
    have hsame : es.modify j (fun e => { e with key := .int .i64 c }) = es := by
      apply Array.ext'
      rw [Array.toList_modify, modify_eq_set _ _ _ _ e2]
      have : ({ e0 with key := .int .i64 c } : MapEntry) = e0 := by rw [← e3]
      rw [this]
      exact set_self _ _ _ e2
    have hsame2 : es.modify j (fun e => { e with key := .int .i64 c, val := .agg #[] }) = es := by
      apply Array.ext'
      rw [Array.toList_modify, modify_eq_set _ _ _ _ e2]
      have : ({ e0 with key := .int .i64 c, val := .agg #[] } : MapEntry) = e0 := by rw [← e3, ← hv]
      rw [this]
      exact set_self _ _ _ e2
    have hup : w' = setBlock w b (.map es clock) := by
      have : (Instr.mapUpdate TM (.map (some b)) (.int .i64 c) (.agg #[])).run Try.prog w = .ok () (setBlock w b (.map es clock)) := by
        simp [Instr.mapUpdate, run_underlying underM, MapKept.run_getObj_map hb, keyedI.check w false hkey, e1, hj, e3, keyedI.stays w hkey, hsame2, MapKept.run_setObj_map _ hb, Result.andThen, setBlock]
      rw [this] at hr
      exact (Result.ok.inj hr).2.symm
    have hb' : w'.heap[b]? = some (.map es clock) := by rw [hup]; exact heap_setBlock_same hb _
    refine ⟨w', e0.born, ?_, hset, ho, ⟨_, _, j, e0, hb', hj, rfl⟩, fun s' hs => hs.st (hb'.trans hb.symm)⟩
    rw [hup]
    simp [Instr.mapEntry, run_underlying underM, MapKept.run_getObj_map hb, keyedI.check w false hkey, e1, hj, e3, keyedI.stays w hkey, hsame, MapKept.run_setObj_map _ hb, Result.andThen, setBlock, goInt, hv]
/-- the mark is stored at an entry that is there: nothing changes -/
theorem IsSet.store {w : World} {b : Nat} {f : Int → Bool} (h : IsSet w b f) {s : Int} (hs : Born w b s) :
    ∃ w' : World, (Instr.entryStore TM (.map (some b)) (.int .i64 s) (.agg #[])).run Try.prog w = .ok () w' ∧ Only [] w w' := by
  obtain ⟨es, clock, hb, F, hu⟩ := h.fit
  obtain ⟨s1, s2, _⟩ := F.stamped
  obtain ⟨es2, clock2, j, e0, g1, g2, g3⟩ := hs
  rw [hb] at g1
  simp only [Option.some.injEq, Obj.map.injEq] at g1
  obtain ⟨rfl, rfl⟩ := g1
  subst g3
  have e2 : es.toList[j]? = some e0 := by simpa using g2
  have hv : e0.val = .agg #[] := hu e0 (List.mem_of_getElem? e2)
  have hidx : es.findIdx? (fun e => ((e.born : Nat) : Int) == ((e0.born : Nat) : Int)) = some j := by
    rw [findIdx_arr]
    exact findIdx_born s2 e2
  have hmod : es.modify j (fun e => { e with val := .agg #[] }) = es := by
    apply Array.ext'
    rw [Array.toList_modify, modify_eq_set _ _ _ _ e2]
    have : ({ e0 with val := .agg #[] } : MapEntry) = e0 := by rw [← hv]
    rw [this]
    exact set_self _ _ _ e2
  refine ⟨setBlock w b (.map es clock), ?_, ⟨rfl, rfl, rfl, by simp [setBlock], fun c hc _ => ?_⟩⟩
  · simp [Instr.entryStore, MapKept.run_getObj_map hb, asInt, asIntOf, hidx, hmod, MapKept.run_setObj_map _ hb, Result.andThen, setBlock]
  · by_cases e : c = b
    · subst e; rw [heap_setBlock_same hb _, hb]
    · exact heap_setBlock_other hb _ (fun e' => e e')
/-- the maps of a table, some entries being at hand -/
def SetsB (ms : List Nat) (S : Int → Int → Bool) (L : List (Int × Int)) : Res where
  fp := ms
  ok := fun w => (∀ r (h : r < ms.length), IsSet w ms[r] (S r)) ∧ ∀ p ∈ L, 0 ≤ p.1 ∧ ∃ h : p.1.toNat < ms.length, Born w ms[p.1.toNat] p.2
  st := fun w w' h hw => ⟨fun r hr => (hw.1 r hr).st (h _ (List.getElem_mem hr)), fun p hp => by
    obtain ⟨h0, h1, h2⟩ := hw.2 p hp
    exact ⟨h0, h1, h2.st (h _ (List.getElem_mem h1))⟩⟩
section
variable {n : Nat} {w0 : World} {D : List Nat} {Γ : Tm} {σ : List Res} {ops : Array Oper} {o : Oper} {os : List Oper} {Q : QQ} {K : Tm → List Res → Prop} {R : Nat} {ms : List Nat} {S : Int → Int → Bool} {L : List (Int × Int)}
theorem setsB_nil : SetsB ms S [] = SetsM ms S ∨ True := .inr trivial
theorem wc_toB {c : Code} (h : WC Try.prog n w0 D c Q Γ (SetsB ms S [] :: σ)) : WC Try.prog n w0 D c Q Γ (SetsM ms S :: σ) :=
  wc_conv 0 (r := SetsM ms S) (r' := SetsB ms S []) rfl rfl (fun w hw => ⟨hw, by simp⟩) h
theorem wc_fromB {c : Code} (h : WC Try.prog n w0 D c Q Γ (SetsM ms S :: σ)) : WC Try.prog n w0 D c Q Γ (SetsB ms S L :: σ) :=
  wc_conv 0 (r := SetsB ms S L) (r' := SetsM ms S) rfl rfl (fun w hw => hw.1) h
def meS (n : Nat) (ops : Array Oper) (Γ : Tm) (o : Oper) : Option (Nat × Value × Int) := match o.op with
  | .mapEntry t x y => match gd Γ ops o with
    | some true => match o.dst with
      | some dd => cond (Nat.blt dd n) (cond (Nat.beq t TM) (match ev Γ x with
        | some p => match ev Γ y with | some (.int .i64 c) => some (dd, p, c) | _ => none
        | none => none) none) none
      | none => none
    | _ => none
  | _ => none
theorem meS_spec {dd : Nat} {p : Value} {c : Int} (h : meS n ops Γ o = some (dd, p, c)) : ∃ x y, o.op = .mapEntry TM x y ∧ gd Γ ops o = some true ∧ o.dst = some dd ∧ Nat.blt dd n = true ∧ ev Γ x = some p ∧ ev Γ y = some (.int .i64 c) := by
  unfold meS at h
  split at h
  · rename_i t x y hop
    split at h
    · rename_i hg
      split at h
      · rename_i dd' hd
        cases hb : Nat.blt dd' n with
        | false => rw [hb] at h; cases h
        | true =>
          cases hc : Nat.beq t TM with
          | false => rw [hb, hc] at h; cases h
          | true =>
            rw [hb, hc] at h
            simp only [cond_true] at h
            have ht := Nat.eq_of_beq_eq_true hc
            subst ht
            split at h
            · rename_i hx
              split at h
              · rename_i hy
                simp only [Option.some.injEq, Prod.mk.injEq] at h
                obtain ⟨rfl, rfl, rfl⟩ := h
                exact ⟨x, y, hop, hg, hd, hb, hx, hy⟩
              · cases h
            · cases h
      · cases h
    · cases h
  · cases h
def esS (ops : Array Oper) (Γ : Tm) (o : Oper) : Option (Value × Int × Value) := match o.op with
  | .entryStore t x y v => match gd Γ ops o with
    | some true => match o.dst with
      | none => cond (Nat.beq t TM) (match ev Γ x with
        | some p => match ev Γ y with
          | some (.int .i64 c) => match ev Γ v with | some u => some (p, c, u) | none => none
          | _ => none
        | none => none) none
      | some _ => none
    | _ => none
  | _ => none
theorem esS_spec {p : Value} {c : Int} {u : Value} (h : esS ops Γ o = some (p, c, u)) : ∃ x y v, o.op = .entryStore TM x y v ∧ gd Γ ops o = some true ∧ o.dst = none ∧ ev Γ x = some p ∧ ev Γ y = some (.int .i64 c) ∧ ev Γ v = some u := by
  unfold esS at h
  split at h
  · rename_i t x y v hop
    split at h
    · rename_i hg
      split at h
      · rename_i hd
        cases hb : Nat.beq t TM with
        | false => rw [hb] at h; cases h
        | true =>
          rw [hb] at h
          simp only [cond_true] at h
          have ht := Nat.eq_of_beq_eq_true hb
          subst ht
          split at h
          · rename_i hx
            split at h
            · rename_i hy
              split at h
              · rename_i hv
                simp only [Option.some.injEq, Prod.mk.injEq] at h
                obtain ⟨rfl, rfl, rfl⟩ := h
                exact ⟨x, y, v, hop, hg, hd, hx, hy, hv⟩
              · cases h
            · cases h
          · cases h
      · cases h
    · cases h
  · cases h
theorem nodup_head {r : Res} (hst : ∀ w, St w0 D (r :: σ) w → r.fp.Nodup) : True := trivial
theorem gme {dd : Nat} {i c : Int} (h : meS n ops Γ o = some (dd, .map (some (gt ms i)), c)) (h0 : 0 ≤ i) (h1 : i < ms.length) (hc0 : 0 ≤ c) (hc1 : c < 128)
    (k : ∀ s, K ((dd, .tuple #[.agg #[], .int .i64 s]) :: Γ) (SetsB ms (fun a b => S a b || (a == i && b == c)) ((i, s) :: L) :: σ)) : OpOK Try.prog n w0 D ops o K Γ (SetsB ms S L :: σ) := by
  obtain ⟨x, y, hop, hg, hd, hb, hx, hy⟩ := meS_spec h
  refine ok_run hg hd hb fun w hst f hf => ?_
  have hlt : i.toNat < ms.length := by omega
  have hok : (SetsB ms S L).ok w := hst.at_ 0 rfl
  have hms : gt ms i = ms[i.toNat] := by simp [gt, List.getD_eq_getElem?_getD, List.getElem?_eq_getElem hlt]
  obtain ⟨w', s, hr, hset, ho, hbn, hold⟩ := (hok.1 i.toNat hlt).entry hc0 hc1
  have hnd : ms.Nodup := by
    have h5 := hst.nd
    rw [List.flatMap_cons, List.nodup_append] at h5
    exact h5.1
  have hlm : ∀ b ∈ ms, b < w.heap.size := fun b hb => hst.lt (SetsB ms S L) (by simp) b hb
  have hother : ∀ r (hr : r < ms.length), r ≠ i.toNat → w'.heap[ms[r]]? = w.heap[ms[r]]? := fun r hr e =>
    ho.block _ (hlm _ (List.getElem_mem hr)) (by
      simp only [List.mem_singleton]
      exact fun e3 => e ((List.getElem_inj hnd).1 e3))
  refine ⟨_, w', _, ?_, hst.set_ 0 (r := SetsB ms S L) (r' := SetsB ms (fun a b => S a b || (a == i && b == c)) ((i, s) :: L)) rfl (ho.mono (by simp [SetsB])) ?_ ?_ hnd, k s⟩
  · simp [execOp, hop, hf _ _ hx, hf _ _ hy, hms, hr, Result.andThen]
  · refine ⟨fun r hr => ?_, fun p hp => ?_⟩
    · by_cases e : r = i.toNat
      · subst e
        have e2 : ((i.toNat : Nat) : Int) = i := by omega
        simpa only [e2, beq_self_eq_true, Bool.true_and] using hset
      · have e2 : ((r : Int) == i) = false := by simp; omega
        have := (hok.1 r hr).st (hother r hr e)
        simpa [e2] using this
    · rcases List.mem_cons.1 hp with rfl | hp
      · exact ⟨h0, hlt, hbn⟩
      · obtain ⟨p0, p1, p2⟩ := hok.2 p hp
        refine ⟨p0, p1, ?_⟩
        by_cases e : p.1.toNat = i.toNat
        · have : ms[p.1.toNat] = ms[i.toNat] := by congr 1
          rw [this] at p2 ⊢
          exact hold _ p2
        · exact p2.st (hother _ p1 e)
  · intro b hb
    exact ⟨.inl hb, Nat.lt_of_lt_of_le (hlm b hb) ho.size⟩
theorem ges {i s : Int} (h : esS ops Γ o = some (.map (some (gt ms i)), s, .agg #[])) (hL : (i, s) ∈ L) (k : K Γ (SetsB ms S L :: σ)) : OpOK Try.prog n w0 D ops o K Γ (SetsB ms S L :: σ) := by
  obtain ⟨x, y, v, hop, hg, hd, hx, hy, hv⟩ := esS_spec h
  refine ok_skip hg hd fun w hst f hf => ?_
  have hok : (SetsB ms S L).ok w := hst.at_ 0 rfl
  obtain ⟨h0, hlt, hbn⟩ := hok.2 _ hL
  have hms : gt ms i = ms[i.toNat] := by simp [gt, List.getD_eq_getElem?_getD, List.getElem?_eq_getElem hlt]
  obtain ⟨w', hr, ho⟩ := (hok.1 i.toNat hlt).store hbn
  exact ⟨w', _, by simp [execOp, hop, hf _ _ hx, hf _ _ hy, hf _ _ hv, hms, hr, Result.andThen], hst.same ho, k⟩
theorem wc_splitB {c : Code} (R : Nat) (ms : List Nat) (S : Int → Int → Bool) (h : PickK (Tab R ms S) σ (fun σ' => WC Try.prog n w0 D c Q Γ (RowM R ms :: SetsB ms S [] :: σ'))) : WC Try.prog n w0 D c Q Γ σ := by
  obtain ⟨σ', hp, h⟩ := h
  refine wc_perm hp (wc_split (wc_perm (List.Perm.swap _ _ _) (wc_toB (wc_perm (List.Perm.swap _ _ _) h))))
theorem St.fromB {w : World} (h : St w0 D (SetsB ms S L :: σ) w) : St w0 D (SetsM ms S :: σ) w := h.conv 0 (r := SetsB ms S L) (r' := SetsM ms S) rfl rfl (fun w hw => hw.1)
theorem wa_weaken {fuel : Nat} {listed : Array Bool} {σS σ' : List Res} (hc : ∀ w, St w0 D σ w → St w0 D σ' w) (h : WA Try.prog n w0 D σS ops Q fuel listed Γ σ') : WA Try.prog n w0 D σS ops Q fuel listed Γ σ :=
  .mk fun a w hs hst => h.run a w hs (hc w hst)
/-- at the end of a region: the table is whole again -/
theorem wa_joinB {fuel : Nat} {listed : Array Bool} {σS : List Res} (R : Nat) (h : PickK (RowM R ms) σ (fun σ' => WA Try.prog n w0 D σS ops Q fuel listed Γ (Tab R ms S :: σ'))) : WA Try.prog n w0 D σS ops Q fuel listed Γ (SetsB ms S L :: σ) := by
  obtain ⟨σ', hp, h⟩ := h
  refine wa_weaken (fun w hst => ?_) h
  have h1 := hst.fromB.perm (List.Perm.cons (SetsM ms S) hp)
  exact St.split.1 (h1.perm (List.Perm.swap _ _ _))
theorem wa_joinM {fuel : Nat} {listed : Array Bool} {σS : List Res} (R : Nat) (h : PickK (RowM R ms) σ (fun σ' => WA Try.prog n w0 D σS ops Q fuel listed Γ (Tab R ms S :: σ'))) : WA Try.prog n w0 D σS ops Q fuel listed Γ (SetsM ms S :: σ) := by
  obtain ⟨σ', hp, h⟩ := h
  refine wa_weaken (fun w hst => ?_) h
  exact St.split.1 ((hst.perm (List.Perm.cons (SetsM ms S) hp)).perm (List.Perm.swap _ _ _))
/-- whatever comes next of several -/
theorem gaAll {fuel : Nat} {listed : Array Bool} {σS : List Res} (l : List Nat) (h : ∀ j ∈ l, ∃ oj, ops[j]? = some oj ∧ OpOK Try.prog n w0 D ops oj (fun Γ σ => Suf σS σ ∧ WA Try.prog n w0 D σS ops Q fuel (listed.setIfInBounds j true) Γ σ) Γ σ) (hne : l ≠ [] := by simp) (hr : Region.ready .any ops listed = l := by kernel_rfl) : WA Try.prog n w0 D σS ops Q (fuel + 1) listed Γ σ := .mk fun a w hse hst =>
  wpAnyH_all hr hne fun k hk => by
    obtain ⟨oj, hj, h⟩ := h k hk
    exact wa_op hj ⟨fun a w hs hst Q K' hK => h.run a w hs hst Q K' fun a w Γ σ hs hst hk => hK a w Γ σ hs hst ⟨hk.1.ex, hk.2⟩⟩ a w hse hst
end
theorem gperm {M σ : List Res} (h : SubK M σ (fun rest => rest.Perm [])) : M.Perm σ := by
  obtain ⟨rest, hp, hr⟩ := h
  have := hr.eq_nil
  subst this
  simpa using hp
end Go.Proofs.Ytofngbaefbbeiaa
