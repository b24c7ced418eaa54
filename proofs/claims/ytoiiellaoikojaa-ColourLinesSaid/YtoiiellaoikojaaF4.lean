/- Walks: the reference of colours: open. -/
import Derived.Test.YtoiiellaoikojaaF3
import Derived.Test.YtoiiellaoikojaaF1
set_option linter.unusedVariables false
set_option linter.unusedSimpArgs false
set_option maxHeartbeats 8000000
namespace Go.Proofs.Ytoiiellaoikojaa
open Go.RowKit
theorem gmk0 {n : Nat} {w0 : World} {D : List Nat} {ops : Array Oper} {o : Oper} {Γ : Tm} {σ : List Res} {K : Tm → List Res → Prop} {α : Type} (f : α → Value) (z : α) {t e : TypeId} {x y : Operand} {l c : Int} {bytes dd : Nat} (hop : o.op = .makeSlice t x y) (hx : ev Γ x = some (.int .i64 l)) (hy : ev Γ y = some (.int .i64 c))
    (hg : gd Γ ops o = some true) (hd : o.dst = some dd) (hdn : Nat.blt dd n = true) (ht : lookN elT t = some e) (hz : lookN zeT e = some (f z)) (hz1 : (f z).cells = #[f z]) (hs : lookN szT e = some 1) (hb : lookN byT e = some bytes)
    (h0 : 0 ≤ l) (hlc : l ≤ c) (hcb : (bytes : Int) * c ≤ 281474976710656) (hc : c ≤ 281474976710656)
    (h : ∀ b, K ((dd, .slice (some ⟨b, 0, none⟩) l.toNat c.toNat) :: Γ) (osl e f (some ⟨b, 0, none⟩) c.toNat (List.replicate l.toNat z) :: σ)) : OpOK Try.prog n w0 D ops o K Γ σ :=
  ok_makeSlice f z hop hx hy hg hd hdn (el_of ht) (ze_of hz) hz1 (sz_of hs) (by_of hb) h0 hlc hcb hc (fun b => by rw [List.length_replicate]; exact h b)
section
variable {p : Pat} {x : PA}
/-- places ahead of (u, v) are as a graph's -/
def GrTo (p : Pat) (u v : Int) : Prop := ∀ a c : Int, 0 ≤ a → a < p.rows → 0 ≤ c → c < p.rows → (a < u ∨ a = u ∧ c < v) → hasB p a c = hasB p c a ∧ (a = c → hasB p a c = false)
theorem GrTo.next {u v : Int} (h : GrTo p u v) (h1 : hasB p u v = hasB p v u) (h2 : u = v → hasB p u v = false) : GrTo p u (v + 1) := fun a c a0 a1 c0 c1 hl => by
  by_cases e : a = u ∧ c = v
  · rw [e.1, e.2]; exact ⟨h1, h2⟩
  · exact h a c a0 a1 c0 c1 (by omega)
theorem GrTo.row {u : Int} (h : GrTo p u p.rows) : GrTo p (u + 1) 0 := fun a c a0 a1 c0 c1 hl => h a c a0 a1 c0 c1 (by omega)
theorem GrTo.gr (hm : May p) (hsq : p.rows = p.width) (h : GrTo p p.rows 0) : IsGr p := by
  refine ⟨⟨hm, hsq, fun r c hh => ?_⟩, fun v hh => ?_⟩
  · have hr := hh.in_ hm
    have := (h r c hr.1.1 hr.1.2 hr.2.1 (by omega) (.inl hr.1.2)).1
    rw [← hasB_iff, ← this]
    exact hasB_iff.2 hh
  · have hr := hh.in_ hm
    have := (h v v hr.1.1 hr.1.2 hr.1.1 hr.1.2 (.inl hr.1.2)).2 rfl
    rw [hasB_iff.2 hh] at this
    cases this
theorem IsGr.sym (h : IsGr p) (a c : Int) : hasB p a c = hasB p c a := by
  rw [Bool.eq_iff_iff, hasB_iff, hasB_iff]
  exact ⟨h.1.2.2 a c, h.1.2.2 c a⟩
theorem IsGr.irr (h : IsGr p) (a : Int) : hasB p a a = false := by
  cases hh : hasB p a a with
  | false => rfl
  | true => exact (h.2 a (hasB_iff.1 hh)).elim
theorem gopen_c (w : World) (hp : RdP w x p) (hm : May p) (ok : Bool) (hok : ok = true ↔ IsGr p) :
    Calls Try.prog 81 [pvl x p].toArray w (Ret [] (fun y : OX => .tuple #[.agg (graC (if ok then p.rows else 0) y.A y.on.length y.c).toArray, .bool ok]) (fun y => [osl TB vb y.A y.c y.on]) (fun y => (ok = true → IsGrid y.on p.rows p.rows (hasB p)) ∧ (ok = false → y.on = [])) w) := by
  have op := hp.old
  obtain ⟨h1, h2, h3, h4, h5, h6, h7, h8⟩ := hm.toHead
  obtain ⟨m0, m1⟩ := mul_small h1 h2 h1 h2
  have fals : ¬ IsGr p → ok = false := fun h => by
    cases ok with
    | false => rfl
    | true => exact (h (hok.1 rfl)).elim
  unfold pvl patV
  by_cases hsq : p.rows = p.width
  · have hopen : ∀ w (y : PA), RdP w y p → Calls Try.prog 68 [pvl y p].toArray w (Ret [] (fun x : OX => .agg (gridC p.rows p.rows x.A x.on.length x.c).toArray) (fun x => [osl TB vb x.A x.c x.on]) (fun x => IsGrid x.on p.rows p.rows (hasB p)) w) := fun w y hy => by
      have := open_c w hy.s hy.c hm
      rwa [← hsq] at this
    refine calls_wc [] [] [.cell 2 TGh, .tmp 3] (fun y : OX => [.agg (graC (if ok then p.rows else 0) y.A y.on.length y.c).toArray, .bool ok]) Try.func81 rfl rfl (fun _ => rfl) Try.ntmps81 rfl (Own.nil w) rfl ?_
    refine gg ?_
    refine wl_op (ok_box rfl rfl rfl rfl rfl ?_); intro bp
    refine wl_none TB vb ?_
    refine wl_op (ok_alloc rfl rfl rfl rfl (ze_of rfl) ?_); intro rb
    refine gg ?_
    refine gc3 [] (fun w hst hst1 => hopen w x (op.now hst)) (by exact rfl) ?_
    (repeat (first | refine gk1 ?_ | refine gk2 ?_ | refine gk3 ?_ | refine gk0 ?_ | refine gk4 ?_))
    rintro ⟨G1, d1, on1⟩ hg1
    dsimp only [List.cons_append, List.nil_append] at hg1 ⊢
    have hgl1 := hg1.len
    refine wl_op (ok_alloc rfl rfl rfl rfl (ze_of rfl) ?_); intro q4
    refine gg ?_
    refine wc_meetK (fun _ : Nat × Nat => True) (fun z => [(1, .pointer (some ⟨bp, 0, none⟩)), (2, .pointer (some ⟨rb, 0, none⟩)), (4, .pointer (some ⟨q4, 0, none⟩)), (5, .pointer (some ⟨z.2, 0, none⟩))])
      (fun z => [osl TB vb G1 d1 on1, blk q4 (gridC p.rows p.rows G1 on1.length d1) TGr, osl TB vb (some ⟨z.1, 0, none⟩) (p.rows * p.rows).toNat (List.replicate (p.rows * p.rows).toNat false), blk z.2 (graC p.rows (some ⟨z.1, 0, none⟩) (p.rows * p.rows).toNat (p.rows * p.rows).toNat) TGh, blk rb [vi 0, nilS] TGh, blk bp (pcs x p) TP, osl TB vb none 0 []]) ?_ ?_
    · refine gwa [] ?_
      (repeat (first | refine gk1 ?_ | refine gk2 ?_ | refine gk3 ?_ | refine gk0 ?_ | refine gk4 ?_))
      dsimp only [List.cons_append, List.nil_append]
      (first | refine ga1 0 (by exact rfl) (by exact rfl) ?_ | refine ga2 0 (by exact rfl) (by exact rfl) ?_ | refine ga3 0 (by exact rfl) (by exact rfl) ?_ | refine ga4 0 (by exact rfl) (by exact rfl) ?_)
      (first | refine ga1 1 (by exact rfl) (by exact rfl) ?_ | refine ga2 1 (by exact rfl) (by exact rfl) ?_ | refine ga3 1 (by exact rfl) (by exact rfl) ?_ | refine ga4 1 (by exact rfl) (by exact rfl) ?_)
      (first | refine ga1 2 (by exact rfl) (by exact rfl) ?_ | refine ga2 2 (by exact rfl) (by exact rfl) ?_ | refine ga3 2 (by exact rfl) (by exact rfl) ?_ | refine ga4 2 (by exact rfl) (by exact rfl) ?_)
      (first | refine ga1 3 (by exact rfl) (by exact rfl) ?_ | refine ga2 3 (by exact rfl) (by exact rfl) ?_ | refine ga3 3 (by exact rfl) (by exact rfl) ?_ | refine ga4 3 (by exact rfl) (by exact rfl) ?_)
      (first | refine ga1 4 (by exact rfl) (by exact rfl) ?_ | refine ga2 4 (by exact rfl) (by exact rfl) ?_ | refine ga3 4 (by exact rfl) (by exact rfl) ?_ | refine ga4 4 (by exact rfl) (by exact rfl) ?_)
      (first | refine ga1 5 (by exact rfl) (by exact rfl) ?_ | refine ga2 5 (by exact rfl) (by exact rfl) ?_ | refine ga3 5 (by exact rfl) (by exact rfl) ?_ | refine ga4 5 (by exact rfl) (by exact rfl) ?_)
      (first | refine ga1 6 (by exact rfl) (by exact rfl) ?_ | refine ga2 6 (by exact rfl) (by exact rfl) ?_ | refine ga3 6 (by exact rfl) (by exact rfl) ?_ | refine ga4 6 (by exact rfl) (by exact rfl) ?_)
      refine gaAll [7, 9] ?_
      intro j hj
      simp only [List.mem_cons, List.not_mem_nil, or_false] at hj
      rcases hj with rfl | rfl
      · refine ⟨_, rfl, ?_⟩
        refine gmk0 vb false rfl rfl rfl rfl rfl rfl rfl rfl rfl rfl rfl m0 (Int.le_refl _) (by omega) (by omega) ?_
        intro sb
        refine ⟨by (repeat (first | exact Suf.refl | exact Suf.nil | exact Suf.app _ _ | apply Suf.cons)), ?_⟩
        refine wa_v 8 [_] rfl (by kernel_rfl) rfl rfl rfl rfl (val_build (ps := [(0, vi p.rows), (1, .slice (some ⟨sb, 0, none⟩) (p.rows * p.rows).toNat (p.rows * p.rows).toNat)]) (cells := graC p.rows (some ⟨sb, 0, none⟩) (p.rows * p.rows).toNat (p.rows * p.rows).toNat) rfl rfl (by kernel_rfl)) ?_
        refine gaOne 9 rfl ?_
        refine ok_alloc rfl rfl rfl rfl (ze_of rfl) ?_
        intro q
        refine ⟨by (repeat (first | exact Suf.refl | exact Suf.nil | exact Suf.app _ _ | apply Suf.cons)), ?_⟩
        refine gaOne 10 rfl ?_
        refine gt0 (by exact rfl) ?_
        refine ⟨by (repeat (first | exact Suf.refl | exact Suf.nil | exact Suf.app _ _ | apply Suf.cons)), ?_⟩
        refine gaDone ?_
        exact ⟨(sb, q), trivial, .cons rfl (.cons rfl (.cons rfl (.cons rfl .nil))), by refine SubK.e ?_; (repeat (first | refine gk1 ?_ | refine gk2 ?_ | refine gk3 ?_ | refine gk0 ?_ | refine gk4 ?_)); trivial⟩
      · refine ⟨_, rfl, ?_⟩
        refine ok_alloc rfl rfl rfl rfl (ze_of rfl) ?_
        intro q
        refine ⟨by (repeat (first | exact Suf.refl | exact Suf.nil | exact Suf.app _ _ | apply Suf.cons)), ?_⟩
        refine gaOne 7 rfl ?_
        refine gmk0 vb false rfl rfl rfl rfl rfl rfl rfl rfl rfl rfl rfl m0 (Int.le_refl _) (by omega) (by omega) ?_
        intro sb
        refine ⟨by (repeat (first | exact Suf.refl | exact Suf.nil | exact Suf.app _ _ | apply Suf.cons)), ?_⟩
        refine wa_v 8 [_, _] rfl (by kernel_rfl) rfl rfl rfl rfl (val_build (ps := [(0, vi p.rows), (1, .slice (some ⟨sb, 0, none⟩) (p.rows * p.rows).toNat (p.rows * p.rows).toNat)]) (cells := graC p.rows (some ⟨sb, 0, none⟩) (p.rows * p.rows).toNat (p.rows * p.rows).toNat) rfl rfl (by kernel_rfl)) ?_
        refine gaOne 10 rfl ?_
        refine gt0 (by exact rfl) ?_
        refine ⟨by (repeat (first | exact Suf.refl | exact Suf.nil | exact Suf.app _ _ | apply Suf.cons)), ?_⟩
        refine gaDone ?_
        exact ⟨(sb, q), trivial, .cons rfl (.cons rfl (.cons rfl (.cons rfl .nil))), by refine SubK.e ?_; (repeat (first | refine gk1 ?_ | refine gk2 ?_ | refine gk3 ?_ | refine gk0 ?_ | refine gk4 ?_)); trivial⟩
    rintro ⟨sb, q⟩ _
    dsimp only
    refine gg ?_
    refine glp (fun y : LnX => 0 ≤ y.u ∧ y.u ≤ p.rows ∧ GrTo p y.u 0 ∧ IsGrid y.on p.rows p.rows (mixS (hasB p) (fun _ _ => false) y.u 0)) (fun y => [(2, .pointer (some ⟨rb, 0, none⟩)), (4, .pointer (some ⟨q4, 0, none⟩)), (5, .pointer (some ⟨q, 0, none⟩)), (6, vi y.u)])
      (fun y => [osl TB vb G1 d1 on1, blk q4 (gridC p.rows p.rows G1 on1.length d1) TGr, osl TB vb (some ⟨sb, 0, none⟩) (p.rows * p.rows).toNat y.on, blk q (graC p.rows (some ⟨sb, 0, none⟩) (p.rows * p.rows).toNat (p.rows * p.rows).toNat) TGh, blk rb [vi 0, nilS] TGh, osl TB vb none 0 []]) (fun y => (p.rows - y.u).toNat) ⟨0, 0, 0, List.replicate (p.rows * p.rows).toNat false⟩ ⟨by simp, h1, fun a c a0 a1 c0 c1 hl => by dsimp only at hl; omega, mix_zero (IsGrid.none m0)⟩ ?_
    rintro ⟨u, _, _, on⟩ ⟨hu0, hu1, hgr, hg⟩
    dsimp only at hu0 hu1 hgr hg ⊢
    by_cases hu : u < p.rows
    · obtain ⟨m4, m5⟩ := mul_small hu0 (show u ≤ 128 by omega) h1 h2
      refine gg ?_
      refine glp (fun y : LnX => 0 ≤ y.v ∧ y.v ≤ p.rows ∧ GrTo p u y.v ∧ IsGrid y.on p.rows p.rows (mixS (hasB p) (fun _ _ => false) u y.v)) (fun y => [(2, .pointer (some ⟨rb, 0, none⟩)), (4, .pointer (some ⟨q4, 0, none⟩)), (5, .pointer (some ⟨q, 0, none⟩)), (6, vi u), (7, vi y.v)])
        (fun y => [osl TB vb G1 d1 on1, blk q4 (gridC p.rows p.rows G1 on1.length d1) TGr, osl TB vb (some ⟨sb, 0, none⟩) (p.rows * p.rows).toNat y.on, blk q (graC p.rows (some ⟨sb, 0, none⟩) (p.rows * p.rows).toNat (p.rows * p.rows).toNat) TGh, blk rb [vi 0, nilS] TGh, osl TB vb none 0 []]) (fun y => (p.rows - y.v).toNat) ⟨0, 0, 0, on⟩ ⟨by simp, h1, hgr, hg⟩ ?_
      rintro ⟨_, v, _, on⟩ ⟨hv0, hv1, hgr, hg⟩
      dsimp only at hv0 hv1 hgr hg ⊢
      by_cases hv : v < p.rows
      · have hgl := hg.len
        have luv := cell_lt hu0 hu hv0 hv
        have lvu := cell_lt hv0 hv hu0 hu
        obtain ⟨m6, m7⟩ := mul_small hv0 (show v ≤ 128 by omega) h1 h2
        have huv := hg1.at_ u v hu0 hu hv0 hv
        have hvu := hg1.at_ v u hv0 hv hu0 hu
        have hset := mix_set (F := hasB p) hg hu0 hu hv0 hv (v := hasB p u v) rfl
        refine gg ?_
        refine gwa [osl TB vb (some ⟨sb, 0, none⟩) (p.rows * p.rows).toNat on] ?_
        (repeat (first | refine gk1 ?_ | refine gk2 ?_ | refine gk3 ?_ | refine gk0 ?_ | refine gk4 ?_))
        dsimp only [List.cons_append, List.nil_append]
        (first | refine ga1 0 (by exact rfl) (by exact rfl) ?_ | refine ga2 0 (by exact rfl) (by exact rfl) ?_ | refine ga3 0 (by exact rfl) (by exact rfl) ?_ | refine ga4 0 (by exact rfl) (by exact rfl) ?_)
        (first | refine ga1 1 (by exact rfl) (by exact rfl) ?_ | refine ga2 1 (by exact rfl) (by exact rfl) ?_ | refine ga3 1 (by exact rfl) (by exact rfl) ?_ | refine ga4 1 (by exact rfl) (by exact rfl) ?_)
        (first | refine ga1 2 (by exact rfl) (by exact rfl) ?_ | refine ga2 2 (by exact rfl) (by exact rfl) ?_ | refine ga3 2 (by exact rfl) (by exact rfl) ?_ | refine ga4 2 (by exact rfl) (by exact rfl) ?_)
        (first | refine ga1 3 (by exact rfl) (by exact rfl) ?_ | refine ga2 3 (by exact rfl) (by exact rfl) ?_ | refine ga3 3 (by exact rfl) (by exact rfl) ?_ | refine ga4 3 (by exact rfl) (by exact rfl) ?_)
        (first | refine ga1 4 (by exact rfl) (by exact rfl) ?_ | refine ga2 4 (by exact rfl) (by exact rfl) ?_ | refine ga3 4 (by exact rfl) (by exact rfl) ?_ | refine ga4 4 (by exact rfl) (by exact rfl) ?_)
        (first | refine ga1 5 (by exact rfl) (by exact rfl) ?_ | refine ga2 5 (by exact rfl) (by exact rfl) ?_ | refine ga3 5 (by exact rfl) (by exact rfl) ?_ | refine ga4 5 (by exact rfl) (by exact rfl) ?_)
        (first | refine ga1 6 (by exact rfl) (by exact rfl) ?_ | refine ga2 6 (by exact rfl) (by exact rfl) ?_ | refine ga3 6 (by exact rfl) (by exact rfl) ?_ | refine ga4 6 (by exact rfl) (by exact rfl) ?_)
        (first | refine ga1 7 (by exact rfl) (by exact rfl) ?_ | refine ga2 7 (by exact rfl) (by exact rfl) ?_ | refine ga3 7 (by exact rfl) (by exact rfl) ?_ | refine ga4 7 (by exact rfl) (by exact rfl) ?_)
        (first | refine ga1 8 (by exact rfl) (by exact rfl) ?_ | refine ga2 8 (by exact rfl) (by exact rfl) ?_ | refine ga3 8 (by exact rfl) (by exact rfl) ?_ | refine ga4 8 (by exact rfl) (by exact rfl) ?_)
        (first | refine ga1 9 (by exact rfl) (by exact rfl) ?_ | refine ga2 9 (by exact rfl) (by exact rfl) ?_ | refine ga3 9 (by exact rfl) (by exact rfl) ?_ | refine ga4 9 (by exact rfl) (by exact rfl) ?_)
        (first | refine ga1 10 (by exact rfl) (by exact rfl) ?_ | refine ga2 10 (by exact rfl) (by exact rfl) ?_ | refine ga3 10 (by exact rfl) (by exact rfl) ?_ | refine ga4 10 (by exact rfl) (by exact rfl) ?_)
        refine gaOne 11 rfl ?_
        refine ok_call1 (fun w hst => at_c (rows := p.rows) (width := p.rows) (r := u) (x := v) w (grd hst) h1 h2 (by omega) (by omega) (by omega) (by omega) (by omega) _ huv) rfl (by rfl) (bod_of rfl) (by rfl) (by rfl) (by rfl) ?_
        refine ⟨by (repeat (first | exact Suf.refl | exact Suf.nil | exact Suf.app _ _ | apply Suf.cons)), ?_⟩
        (first | refine ga1 12 (by exact rfl) (by exact rfl) ?_ | refine ga2 12 (by exact rfl) (by exact rfl) ?_ | refine ga3 12 (by exact rfl) (by exact rfl) ?_ | refine ga4 12 (by exact rfl) (by exact rfl) ?_)
        refine gaOne 13 rfl ?_
        refine gt0 (by exact rfl) ?_
        refine ⟨by (repeat (first | exact Suf.refl | exact Suf.nil | exact Suf.app _ _ | apply Suf.cons)), ?_⟩
        refine gaDone ?_
        refine gg ?_
        refine wc_quiet mixed (by kernel_rfl) ?_
        refine gg ?_
        refine gc2 (fun w hst => at_c (rows := p.rows) (width := p.rows) (r := u) (x := v) w (grd hst) h1 h2 (by omega) (by omega) (by omega) (by omega) (by omega) _ huv) (by exact rfl) ?_
        refine gg ?_
        refine gc2 (fun w hst => at_c (rows := p.rows) (width := p.rows) (r := v) (x := u) w (grd hst) h1 h2 (by omega) (by omega) (by omega) (by omega) (by omega) _ hvu) (by exact rfl) ?_
        refine wq_val rfl rfl rfl (val_neb uB rfl rfl rfl) ?_
        by_cases hne : hasB p u v = hasB p v u
        · rw [hne, show (!(hasB p v u == hasB p v u)) = false by simp]
          rw [← hne]
          refine gg ?_
          by_cases huv' : u = v
          · refine gg ?_
            cases hb : hasB p u v with
            | true =>
              have hng : ¬ IsGr p := fun h => by rw [huv', h.irr] at hb; cases hb
              obtain rfl := fals hng
              rw [hb] at huv
              refine gc2 (fun w hst => at_c (rows := p.rows) (width := p.rows) (r := u) (x := v) w (grd hst) h1 h2 (by omega) (by omega) (by omega) (by omega) (by omega) _ huv) (by exact rfl) ?_
              refine gg ?_
              exact grt (⟨none, 0, []⟩ : OX) ⟨fun h => (by cases h), fun _ => rfl⟩
            | false =>
              rw [hb] at huv hset
              refine gc2 (fun w hst => at_c (rows := p.rows) (width := p.rows) (r := u) (x := v) w (grd hst) h1 h2 (by omega) (by omega) (by omega) (by omega) (by omega) _ huv) (by exact rfl) ?_
              refine gg ?_
              exact gnx (⟨0, v + 1, 0, on.set (u * p.rows + v).toNat false⟩ : LnX) ⟨by dsimp only; omega, by dsimp only; omega, hgr.next hne (fun _ => hb), hset⟩ (by dsimp only; omega)
          · refine gg ?_
            exact gnx (⟨0, v + 1, 0, on.set (u * p.rows + v).toNat (hasB p u v)⟩ : LnX) ⟨by dsimp only; omega, by dsimp only; omega, hgr.next hne (fun e => (huv' e).elim), hset⟩ (by dsimp only; omega)
        · have hng : ¬ IsGr p := fun h => hne (h.sym u v)
          obtain rfl := fals hng
          rw [show (!(hasB p u v == hasB p v u)) = true by simp [hne]]
          refine gg ?_
          exact grt (⟨none, 0, []⟩ : OX) ⟨fun h => (by cases h), fun _ => rfl⟩
      · obtain rfl : v = p.rows := by omega
        refine gg ?_
        exact gnx (⟨u + 1, 0, 0, on⟩ : LnX) ⟨by dsimp only; omega, by dsimp only; omega, hgr.row, mix_next hg⟩ (by dsimp only; omega)
    · obtain rfl : u = p.rows := by omega
      have hgl := hg.len
      obtain rfl : ok = true := hok.2 (GrTo.gr hm hsq hgr)
      refine gg ?_
      rw [show (p.rows * p.rows).toNat = on.length by omega]
      exact grt (⟨some ⟨sb, 0, none⟩, on.length, on⟩ : OX) ⟨fun _ => mix_end hg, fun h => (by cases h)⟩
  · obtain rfl := fals (fun h => hsq h.1.2.1)
    refine calls_wc [] [] [.cell 2 TGh, .tmp 3] (fun y : OX => [.agg (graC (if false then p.rows else 0) y.A y.on.length y.c).toArray, .bool false]) Try.func81 rfl rfl (fun _ => rfl) Try.ntmps81 rfl (Own.nil w) rfl ?_
    refine gg ?_
    refine wl_op (ok_box rfl rfl rfl rfl rfl ?_); intro bp
    refine wl_none TB vb ?_
    refine wl_op (ok_alloc rfl rfl rfl rfl (ze_of rfl) ?_); intro rb
    refine gg ?_
    exact grt (⟨none, 0, []⟩ : OX) ⟨fun h => (by cases h), fun _ => rfl⟩
end
end Go.Proofs.Ytoiiellaoikojaa
