/- Walks: colours: the law ColourGreedyLeast. -/
import Derived.Test.YtoiiellaoikojaaV3
import Derived.Test.YtoiiellaoikojaaU7
set_option linter.unusedVariables false
set_option linter.unusedSimpArgs false
set_option maxHeartbeats 8000000
namespace Go.Proofs.Ytoiiellaoikojaa
open Go.RowKit Classical
theorem row_ex {p : Pat} (hm : May p) {k : Int} (k0 : 0 ≤ k) (k1 : k < p.cols.length) : ∃ r : Int, 0 ≤ r ∧ r < p.rows ∧ gt p.start r ≤ k ∧ k < gt p.start (r + 1) := by
  have HG := hm.toHead
  have he := HG.e
  have hz := HG.z
  have key : ∀ m : Nat, (m : Int) ≤ p.rows → k < gt p.start m → ∃ r : Int, 0 ≤ r ∧ r < p.rows ∧ gt p.start r ≤ k ∧ k < gt p.start (r + 1) := by
    intro m
    induction m with
    | zero => intro _ h; rw [show ((0 : Nat) : Int) = 0 from rfl, hz] at h; omega
    | succ m ih =>
      intro hm' h
      by_cases h2 : k < gt p.start (m : Int)
      · exact ih (by omega) h2
      · exact ⟨m, by omega, by omega, by omega, by rw [show ((m : Int) + 1) = ((m + 1 : Nat) : Int) by omega]; exact h⟩
  have h0 := HG.r0
  exact key p.rows.toNat (by omega) (by rw [show ((p.rows.toNat : Nat) : Int) = p.rows by omega, he]; exact k1)
section
variable {p : Pat} {kd : Int} {ord : List Int}
/-- all that the law asks, in plain words -/
structure GLf (kd : Int) (p : Pat) (ord L : List Int) (N b a : Int) : Prop where
  bnd : N ≤ b
  flo : a ≤ N
  chk : ckA kd p L = 0
  len : L.length = ord.length
  rng : ∀ i : Int, 0 ≤ i → i < L.length → 0 ≤ gt L i ∧ gt L i < N
  num : 0 ≤ N ∧ N ≤ L.length
  used : ∀ d : Int, 0 ≤ d → d < N → ∃ v : Int, 0 ≤ v ∧ v < L.length ∧ gt L v = d
  prt : ∀ i : Int, 0 ≤ i → i < ord.length → ckA kd (partP kd p ord i) L = 0
  lst : ∀ i c : Int, 0 ≤ i → i < ord.length → 0 ≤ c → c < gt L (gt ord i) → ckA kd (partP kd p ord i) (L.set (gt ord i).toNat c) = 241
theorem glf (he : thE kd p = 0) (ho : IsOrd ord (thN kd p)) : GLf kd p ord (grL kd p ord) (numS (grL kd p ord)) (boundS kd p ord).1 (floorE kd p).1 := by
  obtain ⟨hm, hk⟩ := thE_zero he
  obtain ⟨g1, g2, g3⟩ := gr_gr he
  have h0 := g1.1.1.toHead.r0
  have h1 := g1.1.1.toHead.r1
  have hol := ho.len
  have hL : grL kd p ord = greedyS kd (thF kd p) (thN kd p).toNat ord := by unfold grL; rw [if_neg (not_not_intro he), if_neg (not_not_intro ho)]
  have hon : On (thN kd p).toNat (thF kd p) := fun a b h => by
    rw [← g3] at h
    have := (hasB_iff.1 h).in_ g1.1.1
    have := g1.1.2.1
    omega
  have hev : ∀ a b, thF kd p a b = true → thF kd p b a = true := fun a b h => by rw [← g3] at h ⊢; rw [← g1.sym]; exact h
  have hirr : ∀ u, thF kd p u u = false := fun u => by rw [← g3]; exact g1.irr u
  have ho' : IsOrd ord ((thN kd p).toNat : Int) := by rw [show (((thN kd p).toNat : Nat) : Int) = thN kd p by omega]; exact ho
  obtain ⟨f1, f2, f3⟩ := greedy_fine (kd := kd) hon hev hirr ho'
  have hbd := greedy_bound (kd := kd) hon hev hirr ho'
  have hus := fun (d : Int) => greedy_used (kd := kd) hon hev hirr ho' (d := d)
  have hls := fun (k c : Int) => greedy_least (kd := kd) hon hev hirr ho' (k := k) (c := c)
  rw [hL]
  have hb : (boundS kd p ord).1 = bndTo kd (thF kd p) (thN kd p).toNat ord (thN kd p).toNat := by unfold boundS; rw [if_neg (not_not_intro he), if_neg (not_not_intro ho)]
  have hfl : (floorE kd p).1 = floorS kd p := by unfold floorE; rw [if_neg (not_not_intro he)]
  have hCol : ColOK (thN kd p) (greedyS kd (thF kd p) (thN kd p).toNat ord) := ⟨by omega, fun i i0 i1 => by have := f2 i i0 (by omega); omega⟩
  have hck0 : ∀ i : Int, ckA kd (partP kd p ord i) (greedyS kd (thF kd p) (thN kd p).toNat ord) = 0 := fun i => by
    obtain ⟨t1, t2, t3⟩ := part_th (ord := ord) (i := i) he
    unfold ckA
    rw [if_neg (not_not_intro t1), t2, t3, if_pos hCol, if_pos (f3.mono fun x y h => (resF_iff.1 h).1)]
  have hnr := numS_rng (greedyS kd (thF kd p) (thN kd p).toNat ord) (m := (thN kd p).toNat) (fun c hc => by
    obtain ⟨i, i0, i1, rfl⟩ := mem_gt hc
    have := f2 i i0 (by omega)
    omega) (by omega)
  have hlt : ∀ i : Int, 0 ≤ i → i < (thN kd p).toNat → 0 ≤ gt (greedyS kd (thF kd p) (thN kd p).toNat ord) i ∧ gt (greedyS kd (thF kd p) (thN kd p).toNat ord) i < numS (greedyS kd (thF kd p) (thN kd p).toNat ord) := fun i i0 i1 => by
    have h2 := f2 i i0 i1
    have := numS_max (greedyS kd (thF kd p) (thN kd p).toNat ord) (gt (greedyS kd (thF kd p) (thN kd p).toNat ord) i) (by rw [gt_elem i0 (by omega)]; exact List.getElem_mem _)
    omega
  refine ⟨by rw [hb]; exact hbd, ?_, ?_, by omega, fun i i0 i1 => hlt i i0 (by omega), by omega, fun d d0 d1 => ?_, fun i _ _ => hck0 i, fun i c i0 i1 c0 c1 => ?_⟩
  · rw [hfl]
    unfold floorS
    by_cases hn : thN kd p = 0
    · rw [if_pos hn]; omega
    · rw [if_neg hn]
      have hN1 := hlt 0 (Int.le_refl _) (by omega)
      by_cases k2 : kd = 2
      · subst k2
        rw [if_pos rfl]
        rw [show thN 2 p = p.width from if_pos rfl] at *
        rw [show thF 2 p = meetC p from if_pos rfl] at *
        refine floTo_le hm (by omega) (fun r u v hu hv huv => f3.1 u v ?_) (fun u u0 u1 => hlt u u0 (by omega)) _ (by have := hm.toHead.r0; omega)
        unfold meetC
        exact decide_eq_true ⟨huv, r, hu, hv⟩
      · rw [if_neg k2]
        by_cases k3 : kd = 3
        · subst k3
          rw [if_pos rfl]
          have hw := hm.toHead.w0
          have hrt := rows_turn hm
          rw [show thN 3 p = p.rows from if_neg (by decide)] at *
          rw [show thF 3 p = meetB p from (if_neg (by decide)).trans (if_pos rfl)] at *
          refine floTo_le (may_turn hm) (by omega) (fun r u v hu hv huv => f3.1 u v ?_) (fun u u0 u1 => hlt u u0 (by
            have : (turnP p).width = p.rows := rfl
            omega)) _ (by omega)
          unfold meetB
          exact decide_eq_true ⟨huv, r, (has_turn hm).1 hu, (has_turn hm).1 hv⟩
        · rw [if_neg k3]
          by_cases hc : 0 < p.cols.length
          · rw [if_pos hc]
            obtain ⟨r, q0, q1, q2, q3⟩ := row_ex hm (k := 0) (by omega) (by omega)
            have hh : HasP p r (gt p.cols 0) := ⟨q0, q1, 0, q2, q3, rfl⟩
            have hF : thF kd p = hasB p := (if_neg k2).trans (if_neg k3)
            have hfe := f3.1 r (gt p.cols 0) (by rw [hF]; exact hasB_iff.2 hh)
            have hr := hon r (gt p.cols 0) (by rw [hF]; exact hasB_iff.2 hh)
            have a1 := hlt r hr.1 hr.2.1
            have a2 := hlt (gt p.cols 0) hr.2.2.1 hr.2.2.2
            omega
          · rw [if_neg hc]; omega
  · unfold ckA
    rw [if_neg (not_not_intro he), if_pos hCol, if_pos f3]
  · obtain ⟨v, v0, v1, h⟩ := hus d d0 d1
    exact ⟨v, v0, by omega, h⟩
  · obtain ⟨t1, t2, t3⟩ := part_th (ord := ord) (i := i) he
    have hv := ho'.rng i i0 (by omega)
    have hcc := f2 _ hv.1 hv.2
    have hC2 : ColOK (thN kd p) ((greedyS kd (thF kd p) (thN kd p).toNat ord).set (gt ord i).toNat c) := ⟨by rw [List.length_set]; omega, fun j j0 j1 => by
      rw [List.length_set] at j1
      rw [gt_setI hv.1 (by omega) j0]
      by_cases e : j = gt ord i
      · rw [if_pos e]; omega
      · rw [if_neg e]; have := f2 j j0 (by omega); omega⟩
    unfold ckA
    rw [if_neg (not_not_intro t1), t2, t3, if_pos hC2, if_neg (hls i c i0 (by omega) c0 c1)]
end
section
variable {p : Pat} {x : PA} {kd : Int} {A : Option Addr} {c : Nat} {ord : List Int}
theorem glE_c (w : World) (hp : RdP w x p) (hA : Rds vi w A c ord) (hn : ¬ (thE kd p = 0 ∧ IsOrd ord (thN kd p))) :
    Calls Try.prog 10 [vi kd, pvl x p, .slice A ord.length c].toArray w (one (.bool true) w) := by
  have op := hp.old
  have oA := hA.old
  have cG : ∀ w, RdP w x p → Rds vi w A c ord → _ := fun w h1 h2 => greedyA_c (p := p) (x := x) (kd := kd) (l := ord) (A := A) (c := c) w h1 h2
  have cB : ∀ w, RdP w x p → Rds vi w A c ord → _ := fun w h1 h2 => bound_c (p := p) (x := x) (kd := kd) (l := ord) (A := A) (c := c) w h1 h2
  have cF : ∀ w, RdP w x p → _ := fun w h1 => floor_c (p := p) (x := x) (kd := kd) w h1
  have cT : ∀ w, RdP w x p → _ := fun w h => things_c (p := p) (x := x) (k := kd) w h
  have hL : grL kd p ord = [] := by
    unfold grL
    by_cases he : thE kd p = 0
    · rw [if_neg (not_not_intro he), if_pos (fun ho => hn ⟨he, ho⟩)]
    · rw [if_pos he]
  have hb1 : (boundS kd p ord).2 = grE kd p ord ∧ grE kd p ord ≠ 0 := by
    unfold boundS grE
    by_cases he : thE kd p = 0
    · rw [if_neg (not_not_intro he), if_pos (fun ho => hn ⟨he, ho⟩), if_neg (not_not_intro he), if_pos (fun ho => hn ⟨he, ho⟩)]
      exact ⟨rfl, by decide⟩
    · rw [if_pos he, if_pos he]; exact ⟨rfl, he⟩
  obtain ⟨hb1, hb2⟩ := hb1
  rw [hb1] at cB
  rw [hL, show numS [] = 0 from rfl] at cG
  have hz : ([] : List Int).length = 0 := rfl
  generalize grE kd p ord = ge at *
  generalize (boundS kd p ord).1 = b1 at *
  generalize (floorE kd p).1 = f1 at *
  generalize (floorE kd p).2 = f2 at *
  by_cases he : thE kd p = 0
  · have ho : ¬ IsOrd ord (thN kd p) := fun ho => hn ⟨he, ho⟩
    obtain ⟨g1, g2, g3⟩ := gr_gr he
    have h0 := g1.1.1.toHead.r0
    have h1 := g1.1.1.toHead.r1
    rw [if_pos he, he] at cT
    have hN0 : 0 ≤ thN kd p := by omega
    have hN1 : thN kd p ≤ 128 := by omega
    clear g1 g2 g3
    generalize thN kd p = N at *
    unfold pvl patV at *
    refine calls_wc [] [] [.tmp 6] (fun _ => [.bool true]) Try.func10 rfl rfl (fun _ => rfl) Try.ntmps10 rfl (Own.nil w) rfl ?_
    refine gg ?_
    refine wl_op (ok_box rfl rfl rfl rfl rfl ?_); intro bp
    refine gg ?_
    refine gc1 (fun w hst => alive_c w) (by exact rfl) ?_
    refine gg ?_
    refine gc3 [] (fun w hst hst1 => cG w (op.now hst) (oA.now hst)) (by exact rfl) ?_
    (repeat (first | refine gk1 ?_ | refine gk2 ?_ | refine gk3 ?_ | refine gk0 ?_ | refine gk4 ?_))
    rintro ⟨A2, c2, xs2⟩ hx2
    dsimp only at hx2
    subst hx2
    dsimp only [List.cons_append, List.nil_append]
    refine gg ?_
    refine gc1 (fun w hst => cB w (op.now hst) (oA.now hst)) (by exact rfl) ?_
    refine gg ?_
    refine gc1 (fun w hst => cF w (op.now hst)) (by exact rfl) ?_
    refine gg ?_
    refine gc3 [] (fun w hst hst1 => cT w (op.now hst)) (by exact rfl) ?_
    (repeat (first | refine gk1 ?_ | refine gk2 ?_ | refine gk3 ?_ | refine gk0 ?_ | refine gk4 ?_))
    rintro y2 _
    dsimp only [List.cons_append, List.nil_append]
    refine gg ?_
    refine wl_op (ok_alloc rfl rfl rfl rfl (ze_of rfl) ?_); intro q14
    refine gg ?_
    refine gc1 (fun w hst => isOrder_c w (oA.now hst) hN0 hN1 false (by simp [ho])) (by exact rfl) ?_
    refine gg ?_
    refine gc1 (fun w hst => num_c _ w) (by exact rfl) ?_
    refine gg ?_
    exact grt () trivial
  · rw [if_neg he] at cT
    generalize thE kd p = e at *
    unfold pvl patV at *
    refine calls_wc [] [] [.tmp 6] (fun _ => [.bool true]) Try.func10 rfl rfl (fun _ => rfl) Try.ntmps10 rfl (Own.nil w) rfl ?_
    refine gg ?_
    refine wl_op (ok_box rfl rfl rfl rfl rfl ?_); intro bp
    refine gg ?_
    refine gc1 (fun w hst => alive_c w) (by exact rfl) ?_
    refine gg ?_
    refine gc3 [] (fun w hst hst1 => cG w (op.now hst) (oA.now hst)) (by exact rfl) ?_
    (repeat (first | refine gk1 ?_ | refine gk2 ?_ | refine gk3 ?_ | refine gk0 ?_ | refine gk4 ?_))
    rintro ⟨A2, c2, xs2⟩ hx2
    dsimp only at hx2
    subst hx2
    dsimp only [List.cons_append, List.nil_append]
    refine gg ?_
    refine gc1 (fun w hst => cB w (op.now hst) (oA.now hst)) (by exact rfl) ?_
    refine gg ?_
    refine gc1 (fun w hst => cF w (op.now hst)) (by exact rfl) ?_
    refine gg ?_
    refine gc3 [] (fun w hst hst1 => cT w (op.now hst)) (by exact rfl) ?_
    (repeat (first | refine gk1 ?_ | refine gk2 ?_ | refine gk3 ?_ | refine gk0 ?_ | refine gk4 ?_))
    rintro y2 _
    dsimp only [List.cons_append, List.nil_append]
    refine gg ?_
    refine wl_op (ok_alloc rfl rfl rfl rfl (ze_of rfl) ?_); intro q14
    refine gg ?_
    refine gc1 (fun w hst => num_c _ w) (by exact rfl) ?_
    refine gg ?_
    exact grt () trivial
set_option maxRecDepth 100000 in
theorem glM_c (w : World) (hp : RdP w x p) (hA : Rds vi w A c ord) (he : thE kd p = 0) (ho : IsOrd ord (thN kd p)) :
    Calls Try.prog 10 [vi kd, pvl x p, .slice A ord.length c].toArray w (one (.bool true) w) := by
  have op := hp.old
  have oA := hA.old
  have HF := glf he ho
  obtain ⟨hm, hkd⟩ := thE_zero he
  obtain ⟨g1, g2, g3⟩ := gr_gr he
  have h0 := g1.1.1.toHead.r0
  have h1 := g1.1.1.toHead.r1
  have hN0 : 0 ≤ thN kd p := by omega
  have hN1 : thN kd p ≤ 128 := by omega
  have hol := ho.len
  have hor := ho.rng
  have cG : ∀ w, RdP w x p → Rds vi w A c ord → _ := fun w h1 h2 => greedyA_c (p := p) (x := x) (kd := kd) (l := ord) (A := A) (c := c) w h1 h2
  have cB : ∀ w, RdP w x p → Rds vi w A c ord → _ := fun w h1 h2 => bound_c (p := p) (x := x) (kd := kd) (l := ord) (A := A) (c := c) w h1 h2
  have cF : ∀ w, RdP w x p → _ := fun w h1 => floor_c (p := p) (x := x) (kd := kd) w h1
  have cT : ∀ w, RdP w x p → _ := fun w h => things_c (p := p) (x := x) (k := kd) w h
  rw [if_pos he, he] at cT
  have cC : ∀ (l : List Int) (A : Option Addr) (c : Nat), l.length ≤ 17592186043904 → ∀ w, RdP w x p → Rds vi w A c l → _ := fun l A c hl w h1 h2 => check_c (p := p) (x := x) (kd := kd) (l := l) (A := A) (c := c) w h1 h2 hl
  have cQ : ∀ (i : Int) (l : List Int) (y : PA) (A : Option Addr) (c : Nat), l.length ≤ 17592186043904 → ∀ w, RdP w y (partP kd p ord i) → Rds vi w A c l → _ := fun i l y A c hl w h1 h2 => check_c (p := partP kd p ord i) (x := y) (kd := kd) (l := l) (A := A) (c := c) w h1 h2 hl
  have cP : ∀ (i : Int) w, RdP w x p → Rds vi w A c ord → _ := fun i w h1 h2 => part_c (kd := kd) (i := i) (ord := ord) w h1 hm (by omega) (fun k2 k3 => by
    rcases hkd with ⟨_, hg⟩ | h | h
    · exact hg.1.2.1
    · exact (k2 h).elim
    · exact (k3 h).elim) h2 ho
  have hg0 : grE kd p ord = 0 := by unfold grE; rw [if_neg (not_not_intro he), if_neg (not_not_intro ho)]
  have hb0 : (boundS kd p ord).2 = 0 := by unfold boundS; rw [if_neg (not_not_intro he), if_neg (not_not_intro ho)]
  have hf0 : (floorE kd p).2 = 0 := by unfold floorE; rw [if_neg (not_not_intro he)]
  rw [hg0] at cG
  rw [hb0] at cB
  rw [hf0] at cF
  have cC1 := cC (grL kd p ord)
  rw [HF.chk] at cC1
  generalize (boundS kd p ord).1 = b1 at *
  generalize (floorE kd p).1 = f1 at *
  have hob : IsOrd ord (thN kd p) := ho
  clear cC hb0 hf0 hg0 g1 g2 g3 h0 h1
  generalize grL kd p ord = L at *
  obtain ⟨hbnd, hflo, hchk, hlen, hrng, hnum, hused, hprt, hlst⟩ := HF
  generalize numS L = M at *
  have hL4 : L.length ≤ 17592186043904 := by omega
  generalize thN kd p = N at *
  unfold pvl patV at *
  refine calls_wc [] [] [.tmp 6] (fun _ => [.bool true]) Try.func10 rfl rfl (fun _ => rfl) Try.ntmps10 rfl (Own.nil w) rfl ?_
  refine gg ?_
  refine wl_op (ok_box rfl rfl rfl rfl rfl ?_); intro bp
  refine gg ?_
  refine gc1 (fun w hst => alive_c w) (by exact rfl) ?_
  refine gg ?_
  refine gc3 [] (fun w hst hst1 => cG w (op.now hst) (oA.now hst)) (by exact rfl) ?_
  (repeat (first | refine gk1 ?_ | refine gk2 ?_ | refine gk3 ?_ | refine gk0 ?_ | refine gk4 ?_))
  rintro ⟨A2, c2, xs2⟩ hx2
  dsimp only at hx2
  subst hx2
  dsimp only [List.cons_append, List.nil_append]
  refine gg ?_
  refine gc1 (fun w hst => cB w (op.now hst) (oA.now hst)) (by exact rfl) ?_
  refine gg ?_
  refine gc1 (fun w hst => cF w (op.now hst)) (by exact rfl) ?_
  refine gg ?_
  refine gc3 [] (fun w hst hst1 => cT w (op.now hst)) (by exact rfl) ?_
  (repeat (first | refine gk1 ?_ | refine gk2 ?_ | refine gk3 ?_ | refine gk0 ?_ | refine gk4 ?_))
  rintro y2 _
  dsimp only [List.cons_append, List.nil_append]
  refine gg ?_
  refine wl_op (ok_alloc rfl rfl rfl rfl (ze_of rfl) ?_); intro q14
  refine gg ?_
  refine gc1 (fun w hst => isOrder_c w (oA.now hst) hN0 hN1 true (by simp [hob])) (by exact rfl) ?_
  refine gg ?_
  refine gc1 (fun w hst => num_c _ w) (by exact rfl) ?_
  refine gg ?_
  refine gc1 (fun w hst => num_c _ w) (by exact rfl) ?_
  refine gg ?_
  refine gc1 (fun w hst => num_c _ w) (by exact rfl) ?_
  refine gg ?_
  refine gc1 (fun w hst => cC1 A2 c2 hL4 w (op.now hst) (grd hst)) (by exact rfl) ?_
  refine gg ?_
  refine gmk vb false rfl rfl rfl rfl rfl rfl rfl rfl rfl rfl rfl (by omega) (Int.le_refl _) (by omega) (by omega) ?_
  intro sb
  rw [show ((xs2.length : Nat) : Int).toNat = xs2.length by omega]
  refine gg ?_
  refine glp (fun z : EdX => (0 ≤ z.u ∧ z.u ≤ xs2.length) ∧ z.L.length = xs2.length ∧ ∀ i : Int, 0 ≤ i → i < z.u → gt z.L (gt xs2 i) = true) (fun z => [(0, vi kd), (2, .slice A ord.length c), (4, .pointer (some ⟨bp, 0, none⟩)), (7, .slice A2 xs2.length c2), (8, vi M), (16, .slice (some ⟨sb, 0, none⟩) xs2.length xs2.length), (17, vi z.u)])
    (fun z => [osl TB vb (some ⟨sb, 0, none⟩) xs2.length z.L, osl TI vi A2 c2 xs2, blk bp (pcs x p) TP]) (fun z => (xs2.length - z.u).toNat) ⟨List.replicate xs2.length false, 0, 0⟩ ⟨by simp, by simp, fun i i0 i1 => by dsimp only at i1; omega⟩ ?_
  rintro ⟨S, _, u⟩ ⟨⟨hu0, hu1⟩, hS, hSt⟩
  dsimp only at hu0 hu1 hS hSt ⊢
  by_cases hu : u < xs2.length
  · have hr := hrng u hu0 hu
    refine gg ?_
    exact gnx (⟨S.set (gt xs2 u).toNat true, 0, u + 1⟩ : EdX) ⟨by dsimp only; omega, by rw [List.length_set]; exact hS, fun i i0 i1 => by
      dsimp only at i1 ⊢
      have hi := hrng i i0 (by omega)
      rw [gt_set hr.1 (by omega) hi.1]
      by_cases e : gt xs2 i = gt xs2 u
      · rw [if_pos e]
      · rw [if_neg e]; exact hSt i i0 (by
          by_cases e2 : i = u
          · exact (e (by rw [e2])).elim
          · omega)⟩ (by dsimp only; omega)
  obtain rfl : u = xs2.length := by omega
  have hSu : ∀ d : Int, 0 ≤ d → d < M → gt S d = true := fun d d0 d1 => by
    obtain ⟨v, v0, v1, rfl⟩ := hused d d0 d1
    exact hSt v v0 v1
  refine gg ?_
  refine glp (fun d : Int => 0 ≤ d ∧ d ≤ M) (fun d => [(0, vi kd), (2, .slice A ord.length c), (4, .pointer (some ⟨bp, 0, none⟩)), (7, .slice A2 xs2.length c2), (8, vi M), (16, .slice (some ⟨sb, 0, none⟩) xs2.length xs2.length), (18, vi d)])
    (fun d => [osl TB vb (some ⟨sb, 0, none⟩) xs2.length S, osl TI vi A2 c2 xs2, blk bp (pcs x p) TP]) (fun d => (M - d).toNat) 0 ⟨by omega, by omega⟩ ?_
  rintro d ⟨hd0, hd1⟩
  by_cases hd : d < M
  · have e := hSu d hd0 hd
    refine gg ?_
    rw [e]
    refine gg ?_
    exact gnx (d + 1) ⟨by omega, by omega⟩ (by omega)
  obtain rfl : d = M := by omega
  refine gg ?_
  refine glp (fun i : Int => 0 ≤ i ∧ i ≤ ord.length) (fun i => [(0, vi kd), (2, .slice A ord.length c), (4, .pointer (some ⟨bp, 0, none⟩)), (7, .slice A2 xs2.length c2), (19, vi i)])
    (fun i => [osl TI vi A2 c2 xs2, blk bp (pcs x p) TP]) (fun i => (ord.length - i).toNat) 0 ⟨by omega, by omega⟩ ?_
  rintro i ⟨hi0, hi1⟩
  by_cases hi : i < ord.length
  · have hv := hor i hi0 (by omega)
    have hcv := hrng (gt ord i) hv.1 (by omega)
    have hpi := hprt i hi0 hi
    have hli := hlst i
    have cP' := cP i
    have cQ1 := cQ i xs2
    have cQ2 := cQ i
    rw [hpi] at cQ1
    generalize partP kd p ord i = q at *
    refine gg ?_
    refine gc3 [] (fun w hst hst1 => cP' w (op.now hst) (oA.now hst)) (by exact rfl) ?_
    (repeat (first | refine gk1 ?_ | refine gk2 ?_ | refine gk3 ?_ | refine gk0 ?_ | refine gk4 ?_))
    rintro y3 _
    dsimp only [List.cons_append, List.nil_append]
    refine wl_op (ok_alloc rfl rfl rfl rfl (ze_of rfl) ?_); intro q20
    refine gg ?_
    refine gc1 (fun w hst => cQ1 y3 A2 c2 hL4 w (grdP hst) (grd hst)) (by exact rfl) ?_
    refine gg ?_
    refine glp (fun e : Int => 0 ≤ e ∧ e ≤ gt xs2 (gt ord i)) (fun e => [(0, vi kd), (2, .slice A ord.length c), (4, .pointer (some ⟨bp, 0, none⟩)), (7, .slice A2 xs2.length c2), (19, vi i), (20, .pointer (some ⟨q20, 0, none⟩)), (21, vi e)])
      (fun e => [osl TI vi A2 c2 xs2, blk bp (pcs x p) TP, blk q20 (pcs y3 q) TP, osl TI vi y3.A y3.c q.start, osl TI vi y3.B y3.d q.cols]) (fun e => (gt xs2 (gt ord i) - e).toNat) 0 ⟨by omega, hcv.1⟩ ?_
    rintro e ⟨he0, he1⟩
    by_cases hee : e < gt xs2 (gt ord i)
    · have hle := hli e hi0 hi he0 hee
      refine gg ?_
      refine gc3 [] (fun w hst hst1 => copyInts_c (xs := xs2) w (grd hst) (by omega)) (by exact rfl) ?_
      (repeat (first | refine gk1 ?_ | refine gk2 ?_ | refine gk3 ?_ | refine gk0 ?_ | refine gk4 ?_))
      rintro mb _
      dsimp only [List.cons_append, List.nil_append]
      have hsl : (xs2.set (gt ord i).toNat e).length = xs2.length := List.length_set
      have cQ3 := cQ2 (xs2.set (gt ord i).toNat e) y3 (some ⟨mb, 0, none⟩) (xs2.length + 3) (by omega)
      rw [hle, hsl] at cQ3
      refine gg ?_
      refine gc1 (fun w hst => cQ3 w (grdP hst) (grd hst)) (by exact rfl) ?_
      refine gg ?_
      refine gc1 (fun w hst => num_c _ w) (by exact rfl) ?_
      refine gg ?_
      exact gnx (e + 1) ⟨by omega, by omega⟩ (by omega)
    obtain rfl : e = gt xs2 (gt ord i) := by omega
    refine gg ?_
    exact gnx (i + 1) ⟨by omega, by omega⟩ (by omega)
  obtain rfl : i = ord.length := by omega
  refine gg ?_
  exact grt () trivial
theorem lawColourGreedyLeast_c (w : World) (hp : RdP w x p) (hA : Rds vi w A c ord) :
    Calls Try.prog 10 [vi kd, pvl x p, .slice A ord.length c].toArray w (one (.bool true) w) := by
  by_cases h : thE kd p = 0 ∧ IsOrd ord (thN kd p)
  · exact glM_c w hp hA h.1 h.2
  · exact glE_c w hp hA h
end
end Go.Proofs.Ytoiiellaoikojaa
