/- Walks: Components. -/
import Derived.Test.YtofngbaefbbeiaaCA
import Derived.Test.YtofngbaefbbeiaaTG
import Derived.Test.YtofngbaefbbeiaaT26
import Derived.Test.YtofngbaefbbeiaaTC
import Derived.Test.YtofngbaefbbeiaaGA
set_option linter.unusedVariables false
set_option linter.unusedSimpArgs false
set_option maxHeartbeats 8000000
namespace Go.Proofs.Ytofngbaefbbeiaa
open Go.RowKit
section
variable {p : Pat}
theorem hasB_on {q : Pat} (h : May q) (hsq : q.rows = q.width) : On q.rows (hasB q) := fun a b hh => by
  have h1 := hasB_iff.1 hh
  have h2 := h1.in_ h
  exact ⟨h1.1, h1.2.1, by omega, by omega⟩
theorem closed_facts (he : (closedS p true).2 = 0) : May (closedS p true).1 ∧ (closedS p true).1.rows = (closedS p true).1.width ∧ Ev (hasB (closedS p true).1) := by
  unfold closedS at he ⊢
  by_cases h1 : May p
  · rw [if_neg (not_not_intro h1)] at he ⊢
    by_cases h2 : p.rows = p.width
    · rw [if_neg (not_not_intro h2)] at he ⊢
      obtain ⟨a1, a2, a3, a4, _⟩ := h1.toHead
      have hw := cloB_within h1 h2 true
      refine ⟨shut_may (by omega) a3 a4 hw, by dsimp only [shutP]; omega, fun a b hab => ?_⟩
      dsimp only at hab ⊢
      rw [hasB_iff, has_shut a4 hw] at hab ⊢
      have hr := hw a.toNat (by omega) b (by rw [show ((a.toNat : Nat) : Int) = a by omega]; exact hab.2)
      refine ⟨by omega, ?_⟩
      have hab := hab.2
      unfold cloB at hab ⊢
      rw [Bool.or_comm, show (b == a) = (a == b) by rw [Bool.eq_iff_iff, beq_iff_eq, beq_iff_eq]; exact eq_comm]
      exact hab
    · rw [if_pos h2] at he
      exact absurd he (by decide)
  · rw [if_pos h1] at he
    exact absurd he (by decide)
noncomputable def compS (p : Pat) : List Int × Int := open Classical in if (closedS p true).2 = 0 then (compL (hasB (closedS p true).1) (closedS p true).1.rows.toNat, 0) else ([], (closedS p true).2)
end
section
variable {P : Program} {n : Nat} {w0 : World} {D : List Nat} {Γ : Tm} {σ : List Res} {ops : Array Oper} {o : Oper} {os : List Oper} {Q : QQ}
/-- a row of ours cut short -/
theorem wl_short {α : Type} {e : TypeId} {f : α → Value} {A : Option Addr} {c : Nat} (xs ys : List α) (h : PickK (osl e f A c (xs ++ ys)) σ (fun σ' => WL P n w0 D ops os Q Γ (osl e f A c xs :: σ'))) : WL P n w0 D ops os Q Γ σ := by
  obtain ⟨σ', hp, h⟩ := h
  refine .mk fun a w hs hst => h.run a w hs ?_
  have h1 := hst.perm hp
  have h0 : w.ownsRow 0 e 1 (.slice A (xs ++ ys).length c) (xs ++ ys).length ((xs ++ ys).map f) := h1.ok (osl e f A c (xs ++ ys)) List.mem_cons_self
  refine h1.set_ (r := osl e f A c (xs ++ ys)) (r' := osl e f A c xs) 0 rfl (Only.refl _ _) ?_ (fun b hb => ⟨.inl hb, h1.lt (osl e f A c (xs ++ ys)) (List.mem_cons_self) b hb⟩) (by have := h1.nd; rw [List.flatMap_cons, List.nodup_append] at this; exact this.1)
  refine ⟨by simp, ?_⟩
  rcases h0.2 with ⟨h2, h3⟩ | ⟨g, cap, cur, h2, h3, h4, h5, h6, h7, h8⟩
  · injection h2 with e1 e2 e3
    rw [List.length_append] at h3
    have : xs.length = 0 := by omega
    exact .inl ⟨by rw [e1, e3, this], this⟩
  · injection h2 with e1 e2 e3
    subst e1 e3
    rw [List.length_append] at h5 h8
    refine .inr ⟨g, c, cur, rfl, h3, h4, by omega, h6, h7, ?_⟩
    have := congrArg (List.take xs.length) h8
    rw [List.take_take, List.map_append, List.take_left' (by simp)] at this
    rw [← this]
    congr 1
    omega
end
structure CX where
  L : List Int
  S : List Int
  A : Option Addr
  c : Nat
  k : Int
theorem comp_c {p : Pat} {x : PA} (w : World) (hp : RdP w x p) :
    Calls Try.prog 38 [pvl x p].toArray w (Ret [] (fun y : RX => .tuple #[.slice y.A y.xs.length y.c, vi (compS p).2]) (fun y => [osl TI vi y.A y.c y.xs]) (fun y => y.xs = (compS p).1) w) := by
  have op := hp.old
  unfold pvl patV
  by_cases he : (closedS p true).2 = 0
  · obtain ⟨hmq, hsq, hEv⟩ := closed_facts he
    have hon := hasB_on hmq hsq
    have hcs : compS p = (compL (hasB (closedS p true).1) (closedS p true).1.rows.toNat, 0) := if_pos he
    rw [hcs]
    have hcl : ∀ w, RdP w x p → Calls Try.prog 74 [pvl x p].toArray w (Ret [] (fun y : PA => .tuple #[pvl y (closedS p true).1, vi 0]) (fun y => PatR y (closedS p true).1) (fun _ => True) w) := fun w hw => by
      have := close_c w hw
      rwa [he] at this
    generalize (closedS p true).1 = q at hmq hsq hEv hon hcl ⊢
    obtain ⟨h1, h2, h3, h4, h5, h6, h7, h8⟩ := hmq.toHead
    obtain ⟨n, hn⟩ := Int.eq_ofNat_of_zero_le h1
    rw [hn, Int.toNat_natCast]
    rw [hn] at hon
    generalize hE : hasB q = E at hEv hon ⊢
    dsimp only
    refine calls_wc [] [] [.tmp 2, .tmp 3] (fun y : RX => [.slice y.A y.xs.length y.c, vi 0]) Try.func38 rfl rfl (fun _ => rfl) Try.ntmps38 rfl (Own.nil w) rfl ?_
    refine gg ?_
    refine wl_op (ok_box rfl rfl rfl rfl rfl ?_); intro bp
    refine gg ?_
    refine gc3 [] (fun w hst hst1 => hcl w (op.now hst)) (by exact rfl) ?_
    (repeat (first | refine gk1 ?_ | refine gk2 ?_ | refine gk3 ?_ | refine gk0 ?_ | refine gk4 ?_))
    rintro y _
    dsimp only [List.cons_append, List.nil_append]
    refine gg ?_
    refine wl_op (ok_alloc rfl rfl rfl rfl (ze_of rfl) ?_); intro q4
    refine gg ?_
    refine gmk vi 0 rfl rfl rfl rfl rfl rfl rfl rfl rfl rfl rfl h1 (Int.le_refl _) (by omega) (by omega) ?_
    intro b
    rw [hn, Int.toNat_natCast]
    refine gg ?_
    refine glp (fun s : CX => 0 ≤ s.k ∧ s.k ≤ n ∧ s.L.length = n ∧ ∀ i, 0 ≤ i → i < s.k → gt s.L i = -1) (fun s => [(4, .pointer (some ⟨q4, 0, none⟩)), (6, .slice (some ⟨b, 0, none⟩) n n), (26, vi n), (27, vi s.k)])
      (fun s => [osl TI vi (some ⟨b, 0, none⟩) n s.L, blk q4 (pcs y q) TP, osl TI vi y.A y.c q.start, osl TI vi y.B y.d q.cols]) (fun s => (n - s.k).toNat) ⟨List.replicate n 0, [], none, 0, 0⟩ ⟨by simp, by simp, by simp, fun i i0 i1 => by dsimp only at i1; omega⟩ ?_
    rintro ⟨L, _, _, _, k⟩ ⟨hk0, hk1, hL, hneg⟩
    dsimp only at hk0 hk1 hL hneg ⊢
    by_cases hk : k < n
    · refine gg ?_
      exact gnx (⟨L.set k.toNat (-1), [], none, 0, k + 1⟩ : CX) ⟨by dsimp only; omega, by dsimp only; omega, by dsimp only; rw [List.length_set]; exact hL, fun i i0 i1 => by
        dsimp only at i1 ⊢
        rw [gt_setI hk0 (by omega) i0]
        by_cases e : i = k
        · rw [if_pos e]
        · rw [if_neg e]; exact hneg i i0 (by omega)⟩ (by dsimp only; omega)
    · obtain rfl : k = n := by omega
      obtain rfl : L = labL E n 0 := ext_gt (by rw [hL, labL_len]) fun i i0 i1 => by
        rw [hL] at i1
        rw [hneg i i0 i1, labL_zero, gt_elem i0 (by simpa using i1)]
        simp
      refine gg ?_
      refine glp (fun v : Int => 0 ≤ v ∧ v ≤ n) (fun v => [(4, .pointer (some ⟨q4, 0, none⟩)), (6, .slice (some ⟨b, 0, none⟩) n n), (8, vi (cnt E v.toNat)), (35, vi n), (36, vi v)])
        (fun v => [osl TI vi (some ⟨b, 0, none⟩) n (labL E n v), blk q4 (pcs y q) TP, osl TI vi y.A y.c q.start, osl TI vi y.B y.d q.cols]) (fun v => (n - v).toNat) 0 ⟨by omega, by omega⟩ ?_
      rintro v ⟨hv0, hv1⟩
      have hll := labL_len (E := E) n v
      by_cases hv : v < n
      · have hcn := cnt_le E v.toNat
        by_cases hd : 0 ≤ gt (labL E n v) v
        · obtain ⟨e1, e2⟩ := labL_skip hEv hv0 hv hd
          refine gg ?_
          rw [e1, e2]
          exact gnx (v + 1) ⟨by omega, by omega⟩ (by omega)
        · obtain ⟨hR, hF⟩ := Flood.begin_ hEv hv0 hv hd
          refine gg ?_
          refine gbi (by exact rfl) ?_
          intro sb
          refine gg ?_
          refine glp (fun s : CX => Flood E n v s.L s.S (fun _ => False)) (fun s => [(4, .pointer (some ⟨q4, 0, none⟩)), (6, .slice (some ⟨b, 0, none⟩) n n), (8, vi (cnt E v.toNat)), (10, .slice s.A s.S.length s.c), (35, vi n), (36, vi v)])
            (fun s => [osl TI vi s.A s.c s.S, osl TI vi (some ⟨b, 0, none⟩) n s.L, blk q4 (pcs y q) TP, osl TI vi y.A y.c q.start, osl TI vi y.B y.d q.cols]) (fun s => s.S.length + negs s.L) ⟨(labL E n v).set v.toNat (cnt E v.toNat), [v], some ⟨sb, 0, none⟩, 1, 0⟩ hF ?_
          rintro ⟨L, S, SA, Sc, _⟩ hF
          dsimp only at hF ⊢
          have hLl := hF.len
          have hsm := hF.small
          rcases List.eq_nil_or_concat S with rfl | ⟨S', a, rfl⟩
          · obtain rfl := hF.end_ hEv hon hv0 hv hR
            dsimp only [List.length_nil]
            refine gg ?_
            have hcr := cnt_root hv0 hR
            rw [show ((cnt E v.toNat : Nat) : Int) + 1 = ((cnt E (v + 1).toNat : Nat) : Int) by omega]
            exact gnx (v + 1) ⟨by omega, by omega⟩ (by omega)
          · simp only [List.concat_eq_append] at hF hsm ⊢
            obtain ⟨hP, ha0, ha1, hwa⟩ := hF.pop
            have hSl : (S' ++ [a]).length = S'.length + 1 := by simp
            have hga : gt (S' ++ [a]) (((S' ++ [a]).length : Int) - 1) = a := by
              rw [gt_elem (by omega) (by omega)]
              have : (((S' ++ [a]).length : Int) - 1).toNat = S'.length := by omega
              simp only [this]
              simp
            have g1 := hmq.toHead.lo (r := a) ha0 (by omega)
            have g2 := hmq.toHead.hi (r := a + 1) (by omega) (by omega)
            have g3 := hmq.toHead.step (r := a) ha0 (by omega)
            refine gg ?_
            rw [hga]
            refine wl_v rfl rfl rfl (val_pre rfl rfl rfl (fun w hst => grd hst) (el_of rfl) (sz_of rfl) (by omega) (by omega)) ?_
            rw [show (((S' ++ [a]).length : Int) - 1).toNat = S'.length by omega]
            refine wl_short (e := TI) (f := vi) (A := SA) (c := Sc) S' [a] ?_
            (repeat (first | refine gk1 ?_ | refine gk2 ?_ | refine gk3 ?_ | refine gk0 ?_ | refine gk4 ?_))
            refine gg ?_
            refine wc_quiet mixed (by kernel_rfl) ?_
            refine gg ?_
            refine wq_val rfl rfl rfl (val_slice rfl rfl rfl rfl (fun w hst => grd hst) (el_of rfl) (sz_of rfl) g1 g3 g2) ?_
            have hsub : ∀ w, Rds vi w y.B y.d q.cols → Rds vi w (if y.d = (gt q.start a).toNat then y.B else y.B.map (·.add (gt q.start a).toNat)) (y.d - (gt q.start a).toNat) (sub q.cols (gt q.start a) (gt q.start (a + 1))) := fun w h => (run_sub (P := Try.prog) (t := TIs) (e := TI) h (el_of rfl) (sz_of rfl) g1 g3 g2).2
            have hsl := sub_length q.cols g1 g3 g2
            have hsg := fun i i0 i1 => gt_sub (xs := q.cols) g1 g3 g2 (i := i) i0 i1
            generalize (if y.d = (gt q.start a).toNat then y.B else y.B.map (·.add (gt q.start a).toNat)) = SB at hsub ⊢
            generalize y.d - (gt q.start a).toNat = sd at hsub ⊢
            generalize sub q.cols (gt q.start a) (gt q.start (a + 1)) = nb at hsub hsl hsg ⊢
            refine gg ?_
            have hqs := hmq.small
            have hnbE : ∀ i : Int, 0 ≤ i → i < nb.length → E a (gt nb i) = true := fun i i0 i1 => by
              rw [hsg i i0 i1, ← hE, hasB_iff]
              exact ⟨ha0, by omega, gt q.start a + i, by omega, by omega, rfl⟩
            refine glp (fun s : CX => 0 ≤ s.k ∧ s.k ≤ nb.length ∧ Flood E n v s.L s.S (fun u => u = a) ∧ (∀ i : Int, 0 ≤ i → i < s.k → 0 ≤ gt s.L (gt nb i)) ∧ s.S.length + negs s.L ≤ S'.length + negs L) (fun s => [(4, .pointer (some ⟨q4, 0, none⟩)), (6, .slice (some ⟨b, 0, none⟩) n n), (8, vi (cnt E v.toNat)), (10, .slice s.A s.S.length s.c), (35, vi n), (36, vi v), (77, .slice SB nb.length sd), (78, vi nb.length), (79, vi s.k)])
              (fun s => [osl TI vi s.A s.c s.S, osl TI vi (some ⟨b, 0, none⟩) n s.L, blk q4 (pcs y q) TP, osl TI vi y.A y.c q.start, osl TI vi y.B y.d q.cols]) (fun s => (nb.length - s.k).toNat) ⟨L, S', SA, Sc, 0⟩ ⟨by simp, by simp, hP, fun i i0 i1 => by dsimp only at i1; omega, by dsimp only; omega⟩ ?_
            rintro ⟨L', S2, SA', Sc', k⟩ ⟨hk0, hk1, hF', hmk, hms⟩
            dsimp only at hk0 hk1 hF' hmk hms ⊢
            have hL2 := hF'.len
            have hsm2 := hF'.small
            by_cases hkn : k < nb.length
            · have hEk := hnbE k hk0 hkn
              obtain ⟨_, _, x0, x1⟩ := hon _ _ hEk
              refine wc_know (φ := ∃ ad, SB = some ad) (fun w hst => by
                obtain ⟨ad, e, _⟩ := (hsub w (grd hst)).2.2 (by omega)
                exact ⟨ad, e⟩) ?_
              rintro ⟨sa, hsa⟩
              rw [hsa]
              refine gg ?_
              refine wl_v rfl rfl rfl (val_load rfl rfl (ag_of rfl) (fun w hst => by rw [← hsa]; exact (hsub w (grd hst)).cell hk0 hkn)) ?_
              generalize hxg : gt nb k = x at hEk x0 x1
              by_cases hneg : gt L' x < 0
              · refine gg ?_
                refine gpush (by exact rfl) (fun _ => by exact rfl) ?_ (hl := by omega)
                intro _ A' c'
                refine gg ?_
                have hM := hF'.mark hEv hon hv0 hv hwa hEk hneg
                have hng := negs_set (l := L') (i := x.toNat) (x := cnt E v.toNat) (by omega) (by rw [gt_elem x0 (by omega)] at hneg; exact hneg) (by omega)
                exact gnx (⟨L'.set x.toNat (cnt E v.toNat), S2 ++ [x], A', c', k + 1⟩ : CX) ⟨by dsimp only; omega, by dsimp only; omega, hM, fun i i0 i1 => by
                  dsimp only at i1 ⊢
                  have hyi := (hon _ _ (hnbE i i0 (by omega))).2.2.1
                  rw [gt_setI x0 (by omega) hyi]
                  by_cases e : gt nb i = x
                  · rw [if_pos e]; omega
                  · rw [if_neg e]
                    refine hmk i i0 ?_
                    by_cases e2 : i = k
                    · rw [e2] at e; exact (e hxg).elim
                    · omega, by
                  dsimp only
                  simp only [List.length_append, List.length_singleton]
                  omega⟩ (by dsimp only; omega)
              · refine gg ?_
                exact gnx (⟨L', S2, SA', Sc', k + 1⟩ : CX) ⟨by dsimp only; omega, by dsimp only; omega, hF', fun i i0 i1 => by
                  dsimp only at i1 ⊢
                  by_cases e2 : i = k
                  · rw [e2, hxg]; omega
                  · exact hmk i i0 (by omega), hms⟩ (by dsimp only; omega)
            · obtain rfl : k = nb.length := by omega
              refine gg ?_
              exact gnx (⟨L', S2, SA', Sc', 0⟩ : CX) (hF'.mono_ fun u hu => .inr fun z hz => by
                subst hu
                rw [← hE, hasB_iff] at hz
                obtain ⟨_, _, i, i0, i1, rfl⟩ := hz
                have := hmk (i - gt q.start u) (by omega) (by omega)
                rwa [hsg (i - gt q.start u) (by omega) (by omega), show gt q.start u + (i - gt q.start u) = i by omega] at this) (by dsimp only; omega)
      · obtain rfl : v = n := by omega
        rw [labL_end]
        refine gg ?_
        exact grt (⟨some ⟨b, 0, none⟩, n, compL E n⟩ : RX) rfl (h1 := ⟨.t (look_to rfl (by simp [compL])), .t rfl, trivial⟩)
  · have hcs : compS p = ([], (closedS p true).2) := if_neg he
    rw [hcs]
    have hcl : ∀ w, RdP w x p → Calls Try.prog 74 [pvl x p].toArray w (Ret [] (fun y : PA => .tuple #[pvl y (closedS p true).1, vi (closedS p true).2]) (fun y => PatR y (closedS p true).1) (fun _ => True) w) := fun w hw => close_c w hw
    generalize (closedS p true).1 = q at hcl
    generalize (closedS p true).2 = e at he hcl ⊢
    dsimp only
    refine calls_wc [] [] [.tmp 2, .tmp 3] (fun y : RX => [.slice y.A y.xs.length y.c, vi e]) Try.func38 rfl rfl (fun _ => rfl) Try.ntmps38 rfl (Own.nil w) rfl ?_
    refine gnil ?_
    refine gg ?_
    refine wl_op (ok_box rfl rfl rfl rfl rfl ?_); intro bp
    refine gg ?_
    refine gc3 [] (fun w hst hst1 => hcl w (op.now hst)) (by exact rfl) ?_
    (repeat (first | refine gk1 ?_ | refine gk2 ?_ | refine gk3 ?_ | refine gk0 ?_ | refine gk4 ?_))
    rintro y _
    dsimp only [List.cons_append, List.nil_append]
    refine gg ?_
    refine wl_op (ok_alloc rfl rfl rfl rfl (ze_of rfl) ?_); intro q4
    refine gg ?_
    exact grt (⟨none, 0, []⟩ : RX) rfl
end Go.Proofs.Ytofngbaefbbeiaa
