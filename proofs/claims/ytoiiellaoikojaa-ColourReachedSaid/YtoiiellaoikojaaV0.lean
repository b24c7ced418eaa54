/- Plain: a pattern's part, of what stands ahead in an order. Walks: colours: part. -/
import Derived.Test.YtoiiellaoikojaaUB
import Derived.Test.YtoiiellaoikojaaT15
set_option linter.unusedVariables false
set_option linter.unusedSimpArgs false
set_option maxHeartbeats 8000000
namespace Go.Proofs.Ytoiiellaoikojaa
open Go.RowKit Classical
/-- v stands among the first i + 1 of the order -/
def Ahd (ord : List Int) (i v : Int) : Prop := ∃ k : Int, 0 ≤ k ∧ k ≤ i ∧ k < ord.length ∧ gt ord k = v
def InP (kd : Int) (ord : List Int) (i r c : Int) : Prop := if kd = 2 then Ahd ord i c else if kd = 3 then Ahd ord i r else Ahd ord i r ∧ Ahd ord i c
noncomputable def partB (kd : Int) (p : Pat) (ord : List Int) (i r c : Int) : Bool := hasB p r c && decide (InP kd ord i r c)
noncomputable def partP (kd : Int) (p : Pat) (ord : List Int) (i : Int) : Pat := shutP p.rows.toNat p.width (partB kd p ord i)
/-- a graph among what stands ahead -/
noncomputable def resF (F : Int → Int → Bool) (ord : List Int) (i u v : Int) : Bool := F u v && decide (Ahd ord i u ∧ Ahd ord i v)
theorem resF_iff {F : Int → Int → Bool} {ord : List Int} {i u v : Int} : resF F ord i u v = true ↔ F u v = true ∧ Ahd ord i u ∧ Ahd ord i v := by
  unfold resF
  rw [Bool.and_eq_true, decide_eq_true_iff]
theorem partB_iff {kd : Int} {p : Pat} {ord : List Int} {i r c : Int} : partB kd p ord i r c = true ↔ HasP p r c ∧ InP kd ord i r c := by
  unfold partB
  rw [Bool.and_eq_true, decide_eq_true_iff, hasB_iff]
section
variable {kd i : Int} {p : Pat} {ord : List Int}
theorem part_in (hm : May p) : Within p.rows.toNat p.width (partB kd p ord i) := fun r hr c h => ((partB_iff.1 h).1.in_ hm).2
theorem part_may (hm : May p) : May (partP kd p ord i) := by
  have HG := hm.toHead
  have h0 := HG.r0
  have h1 := HG.r1
  exact shut_may (by omega) HG.w0 HG.w1 (part_in hm)
theorem part_rows (hm : May p) : (partP kd p ord i).rows = p.rows := by
  have h0 := hm.toHead.r0
  show ((p.rows.toNat : Nat) : Int) = p.rows
  omega
theorem part_width : (partP kd p ord i).width = p.width := rfl
theorem part_has (hm : May p) (r c : Int) : HasP (partP kd p ord i) r c ↔ HasP p r c ∧ InP kd ord i r c := by
  unfold partP
  rw [has_shut hm.toHead.w1 (part_in hm), partB_iff]
  constructor
  · exact And.right
  · intro h
    have := (h.1.in_ hm).1
    exact ⟨by omega, h⟩
theorem part_gr (hg : IsGr p) (h2 : kd ≠ 2) (h3 : kd ≠ 3) : IsGr (partP kd p ord i) ∧ hasB (partP kd p ord i) = resF (hasB p) ord i := by
  have hm := hg.1.1
  have hh : ∀ a b, hasB (partP kd p ord i) a b = resF (hasB p) ord i a b := fun a b => by
    rw [Bool.eq_iff_iff, hasB_iff, part_has hm, resF_iff, hasB_iff]
    unfold InP
    rw [if_neg h2, if_neg h3]
  have hf : hasB (partP kd p ord i) = resF (hasB p) ord i := by funext a b; exact hh a b
  refine ⟨gr_of (part_may hm) (by rw [part_rows hm]; exact hg.1.2.1) hf (fun a b h => ?_) (fun v => ?_), hf⟩
  · rw [resF_iff] at h ⊢
    exact ⟨by rw [← hg.sym]; exact h.1, h.2.2, h.2.1⟩
  · cases e : resF (hasB p) ord i v v with
    | false => rfl
    | true => have := (resF_iff.1 e).1; rw [hg.irr] at this; cases this
theorem part_th (he : thE kd p = 0) : thE kd (partP kd p ord i) = 0 ∧ thN kd (partP kd p ord i) = thN kd p ∧ thF kd (partP kd p ord i) = resF (thF kd p) ord i := by
  obtain ⟨hm, hk⟩ := thE_zero he
  have hn : thN kd (partP kd p ord i) = thN kd p := by
    unfold thN
    rw [part_rows hm]
    rfl
  have hz : ∀ g : Pat, May g → ((kd = 1 ∨ kd = 4 ∨ kd = 5) → IsGr g) → thE kd g = 0 := fun g hm' hg => by
    unfold thE
    rw [if_neg (not_not_intro hm')]
    by_cases h : kd = 2 ∨ kd = 3
    · rw [if_pos h]
    · have h1 : kd = 1 ∨ kd = 4 ∨ kd = 5 := by omega
      rw [if_neg h, if_pos h1, if_pos (hg h1)]
  rcases hk with ⟨hk, hg⟩ | rfl | rfl
  · obtain ⟨g1, g2⟩ := part_gr (kd := kd) (ord := ord) (i := i) hg (by omega) (by omega)
    refine ⟨hz _ (part_may hm) (fun _ => g1), hn, ?_⟩
    rw [show thF kd (partP kd p ord i) = hasB (partP kd p ord i) from (if_neg (by omega)).trans (if_neg (by omega)), show thF kd p = hasB p from (if_neg (by omega)).trans (if_neg (by omega))]
    exact g2
  · refine ⟨hz _ (part_may hm) (fun h => by omega), hn, ?_⟩
    rw [show thF 2 (partP 2 p ord i) = meetC (partP 2 p ord i) from if_pos rfl, show thF 2 p = meetC p from if_pos rfl]
    funext u v
    rw [Bool.eq_iff_iff, resF_iff]
    unfold meetC
    rw [decide_eq_true_iff, decide_eq_true_iff]
    constructor
    · rintro ⟨h1, k, h2, h3⟩
      rw [part_has hm] at h2 h3
      exact ⟨⟨h1, k, h2.1, h3.1⟩, h2.2, h3.2⟩
    · rintro ⟨⟨h1, k, h2, h3⟩, h4, h5⟩
      exact ⟨h1, k, (part_has hm _ _).2 ⟨h2, h4⟩, (part_has hm _ _).2 ⟨h3, h5⟩⟩
  · refine ⟨hz _ (part_may hm) (fun h => by omega), hn, ?_⟩
    rw [show thF 3 (partP 3 p ord i) = meetB (partP 3 p ord i) from (if_neg (by decide)).trans (if_pos rfl), show thF 3 p = meetB p from (if_neg (by decide)).trans (if_pos rfl)]
    funext u v
    rw [Bool.eq_iff_iff, resF_iff]
    unfold meetB
    rw [decide_eq_true_iff, decide_eq_true_iff]
    constructor
    · rintro ⟨h1, k, h2, h3⟩
      rw [part_has hm] at h2 h3
      exact ⟨⟨h1, k, h2.1, h3.1⟩, h2.2, h3.2⟩
    · rintro ⟨⟨h1, k, h2, h3⟩, h4, h5⟩
      exact ⟨h1, k, (part_has hm _ _).2 ⟨h2, h4⟩, (part_has hm _ _).2 ⟨h3, h5⟩⟩
end
/-- of fewer neighbours colours are still of the kind -/
theorem Fine.mono {kd : Int} {F F' : Int → Int → Bool} {n : Nat} {l : List Int} (h : Fine kd F n l) (hs : ∀ x y, F' x y = true → F x y = true) : Fine kd F' n l := by
  obtain ⟨h1, h2, h3⟩ := h
  refine ⟨fun x y h => h1 x y (hs x y h), fun hk a b c d h => h2 hk a b c d ⟨hs _ _ h.ab, hs _ _ h.bc, hs _ _ h.cd, h.ca, h.db, h.ad, h.kc, h.kd⟩, fun hk c d hcd => ?_⟩
  rintro ⟨S, k1, k2, k3⟩
  refine h3 hk c d hcd ⟨S, k1, k2, fun x hx => ?_⟩
  obtain ⟨a, b, e1, e2, e3, e4, e5⟩ := k3 x hx
  exact ⟨a, b, e1, e2, e3, hs _ _ e4, hs _ _ e5⟩
theorem lisB_snoc {rs cs : List Int} {x y : Int} (hl : rs.length = cs.length) : lisB (rs ++ [x]) (cs ++ [y]) (rs ++ [x]).length = fun a b => lisB rs cs rs.length a b || (a == x && b == y) := by
  have e : ((rs ++ [x]).length : Int) = rs.length + 1 := by simp
  rw [e, lisB_step (by omega)]
  funext a b
  rw [(gt_snoc (xs := rs) (y := x) (i := rs.length)).2 rfl, (gt_snoc (xs := cs) (y := y) (i := rs.length)).2 (by rw [hl])]
  congr 1
  unfold lisB
  exact decide_eq_decide.2 ⟨fun ⟨i, i0, i1, i2, i3⟩ => ⟨i, i0, i1, by rw [← i2, (gt_snoc (xs := rs)).1 i0 i1], by rw [← i3, (gt_snoc (xs := cs)).1 i0 (by omega)]⟩, fun ⟨i, i0, i1, i2, i3⟩ => ⟨i, i0, i1, by rw [(gt_snoc (xs := rs)).1 i0 i1]; exact i2, by rw [(gt_snoc (xs := cs)).1 i0 (by omega)]; exact i3⟩⟩
structure EdY where
  L : List Int
  k : Int
structure PrX where
  A : Option Addr
  c : Nat
  B : Option Addr
  d : Nat
  r : List Int
  s : List Int
  k : Int
section
variable {kd i N : Int} {p : Pat} {x : PA} {ord : List Int} {A : Option Addr} {c : Nat}
set_option maxRecDepth 100000 in
theorem part_c (w : World) (hp : RdP w x p) (hm : May p) (hk : kd = 1 ∨ kd = 2 ∨ kd = 3 ∨ kd = 4 ∨ kd = 5) (hsq : kd ≠ 2 → kd ≠ 3 → p.rows = p.width) (hA : Rds vi w A c ord) (ho : IsOrd ord (thN kd p)) :
    Calls Try.prog 44 [vi kd, pvl x p, .slice A ord.length c, vi i].toArray w (Ret [] (fun y : PA => pvl y (partP kd p ord i)) (fun y => PatR y (partP kd p ord i)) (fun _ => True) w) := by
  have op := hp.old
  have oA := hA.old
  have HG := hm.toHead
  have r0 := HG.r0
  have r1 := HG.r1
  have w0 := HG.w0
  have w1 := HG.w1
  have hsm := hm.small
  have hol := ho.len
  have hN : thN kd p ≤ 128 ∧ (kd = 2 → thN kd p = p.width) ∧ (kd ≠ 2 → thN kd p = p.rows) := by
    unfold thN
    by_cases h : kd = 2
    · rw [if_pos h]; exact ⟨w1, fun _ => rfl, fun h' => (h' h).elim⟩
    · rw [if_neg h]; exact ⟨r1, fun h' => (h h').elim, fun _ => rfl⟩
  obtain ⟨hN1, hN2, hN3⟩ := hN
  generalize thN kd p = N at *
  have hpl := fun w (h : RdP w x p) => refPlaces_t (p := p) (A := x.A) (c := x.c) (B := x.B) (d := x.d) w h.s h.c hm
  unfold pvl patV at *
  refine calls_wc [] [] [.cell 8 TP] (fun y : PA => [pvl y (partP kd p ord i)]) Try.func44 rfl rfl (fun _ => rfl) Try.ntmps44 rfl (Own.nil w) rfl ?_
  refine gg ?_
  refine wl_op (ok_box rfl rfl rfl rfl rfl ?_); intro bp
  refine wl_op (ok_alloc rfl rfl rfl rfl (ze_of rfl) ?_); intro q8
  refine gg ?_
  refine gc3 [] (fun w hst hst1 => hpl w (op.now hst)) (by exact rfl) ?_
  (repeat (first | refine gk1 ?_ | refine gk2 ?_ | refine gk3 ?_ | refine gk0 ?_ | refine gk4 ?_))
  rintro ⟨A1, c1, B1, d1, rs, cs⟩ ⟨hpr, hcs⟩
  dsimp only at hpr hcs
  subst hcs
  dsimp only [List.cons_append, List.nil_append]
  have hrl := hpr.len
  refine gg ?_
  refine gmk vi 0 rfl rfl rfl rfl rfl rfl rfl rfl rfl rfl rfl (by omega) (Int.le_refl _) (by omega) (by omega) ?_
  intro ab
  rw [show ((ord.length : Nat) : Int).toNat = ord.length by omega]
  refine gg ?_
  refine glp (fun z : EdY => (0 ≤ z.k ∧ z.k ≤ ord.length) ∧ z.L.length = ord.length ∧ ∀ q : Int, 0 ≤ q → q < z.k → gt z.L (gt ord q) = q) (fun z => [(0, vi kd), (2, .slice A ord.length c), (3, vi i), (5, .pointer (some ⟨bp, 0, none⟩)), (8, .pointer (some ⟨q8, 0, none⟩)), (9, .slice A1 rs.length c1), (10, .slice B1 p.cols.length d1), (12, .slice (some ⟨ab, 0, none⟩) ord.length ord.length), (13, vi z.k)])
    (fun z => [osl TI vi (some ⟨ab, 0, none⟩) ord.length z.L, osl TI vi A1 c1 rs, osl TI vi B1 d1 p.cols, blk q8 [vi 0, vi 0, .slice none 0 0, .slice none 0 0] TP, blk bp (pcs x p) TP]) (fun z => (ord.length - z.k).toNat) ⟨List.replicate ord.length 0, 0⟩ ⟨by simp, by simp, fun q q0 q1 => by dsimp only at q1; omega⟩ ?_
  rintro ⟨L, k⟩ ⟨⟨hk0, hk1⟩, hL, hat⟩
  dsimp only at hk0 hk1 hL hat ⊢
  by_cases hkl : k < ord.length
  · have hv := ho.rng k hk0 (by omega)
    refine gg ?_
    exact gnx (⟨L.set (gt ord k).toNat k, k + 1⟩ : EdY) ⟨by dsimp only; omega, by rw [List.length_set]; exact hL, fun q q0 q1 => by
      dsimp only at q1 ⊢
      have hq := ho.rng q q0 (by omega)
      rw [gt_setI hv.1 (by omega) hq.1]
      by_cases e : gt ord q = gt ord k
      · rw [if_pos e]; exact (ho.inj q k q0 (by omega) hk0 (by omega) e).symm
      · rw [if_neg e]; exact hat q q0 (by
          by_cases e2 : q = k
          · exact (e (by rw [e2])).elim
          · omega)⟩ (by dsimp only; omega)
  obtain rfl : k = ord.length := by omega
  have hah : ∀ v : Int, 0 ≤ v → v < N → ((gt L v ≤ i ↔ Ahd ord i v) ∧ 0 ≤ gt L v ∧ gt L v < 128) := fun v v0 v1 => by
    obtain ⟨q, q0, q1, rfl⟩ := ho.surj v0 v1
    rw [hat q q0 (by omega)]
    refine ⟨⟨fun h => ⟨q, q0, h, by omega, rfl⟩, fun ⟨k, k0, k1, k2, e⟩ => ?_⟩, q0, by omega⟩
    have := ho.inj k q k0 (by omega) q0 q1 e
    omega
  refine gnil ?_
  refine gnil ?_
  refine gg ?_
  refine glp (fun z : PrX => (0 ≤ z.k ∧ z.k ≤ rs.length) ∧ (z.r.length = z.s.length ∧ (z.r.length : Int) ≤ z.k) ∧ (lisB z.r z.s z.r.length = fun a b => lisB rs p.cols z.k a b && decide (InP kd ord i a b)) ∧ ∀ j : Int, 0 ≤ j → j < z.r.length → ¬ BadAt p.rows p.width z.r z.s j) (fun z => [(0, vi kd), (3, vi i), (5, .pointer (some ⟨bp, 0, none⟩)), (8, .pointer (some ⟨q8, 0, none⟩)), (9, .slice A1 rs.length c1), (10, .slice B1 p.cols.length d1), (12, .slice (some ⟨ab, 0, none⟩) ord.length ord.length), (14, .slice z.A z.r.length z.c), (15, .slice z.B z.s.length z.d), (16, vi z.k)])
    (fun z => [osl TI vi z.A z.c z.r, osl TI vi z.B z.d z.s, osl TI vi (some ⟨ab, 0, none⟩) ord.length L, osl TI vi A1 c1 rs, osl TI vi B1 d1 p.cols, blk q8 [vi 0, vi 0, .slice none 0 0, .slice none 0 0] TP, blk bp (pcs x p) TP]) (fun z => (rs.length - z.k).toNat) ⟨none, 0, none, 0, [], [], 0⟩ ⟨by simp, by simp, by dsimp only [List.length_nil]; rw [show ((0 : Nat) : Int) = 0 from rfl, lisB_zero, lisB_zero]; rfl, fun j j0 j1 => by simp at j1; omega⟩ ?_
  rintro ⟨A2, c2, B2, d2, r, s, k⟩ ⟨⟨hk0, hk1⟩, ⟨hrs, hrk⟩, hlis, hbad⟩
  dsimp only at hk0 hk1 hrs hrk hlis hbad ⊢
  by_cases hkl : k < rs.length
  · obtain ⟨ra, rb, rc, rd⟩ := hpr.row k hk0 (by omega)
    have hrow := hm.row (gt rs k) ra rb k rc rd
    have hlin : (r.length : Int) ≤ 16384 := by omega
    have keep : InP kd ord i (gt rs k) (gt p.cols k) → ∀ (A' : Option Addr) (c' : Nat) (B' : Option Addr) (d' : Nat), (0 ≤ k + 1 ∧ k + 1 ≤ (rs.length : Int)) ∧ ((r ++ [gt rs k]).length = (s ++ [gt p.cols k]).length ∧ ((r ++ [gt rs k]).length : Int) ≤ k + 1) ∧ (lisB (r ++ [gt rs k]) (s ++ [gt p.cols k]) (r ++ [gt rs k]).length = fun a b => lisB rs p.cols (k + 1) a b && decide (InP kd ord i a b)) ∧ ∀ j : Int, 0 ≤ j → j < (r ++ [gt rs k]).length → ¬ BadAt p.rows p.width (r ++ [gt rs k]) (s ++ [gt p.cols k]) j := fun hI _ _ _ _ => by
      refine ⟨by omega, by simp; omega, ?_, fun j j0 j1 => ?_⟩
      · rw [lisB_snoc hrs, hlis, lisB_step hk0]
        funext a b
        dsimp only
        by_cases e : a = gt rs k ∧ b = gt p.cols k
        · rw [e.1, e.2, decide_eq_true hI]; simp
        · rw [show (a == gt rs k && b == gt p.cols k) = false by
            rw [Bool.and_eq_false_iff]
            by_cases ha : a = gt rs k
            · right; simpa using fun hb => e ⟨ha, hb⟩
            · left; simpa using ha]
          rw [Bool.or_false, Bool.or_false]
      · rw [List.length_append, List.length_singleton] at j1
        unfold BadAt
        by_cases e : j = r.length
        · rw [(gt_snoc (xs := r)).2 e, (gt_snoc (xs := s)).2 (by rw [e, hrs])]; omega
        · rw [(gt_snoc (xs := r)).1 j0 (by omega), (gt_snoc (xs := s)).1 j0 (by omega)]
          exact hbad j j0 (by omega)
    have skip : ¬ InP kd ord i (gt rs k) (gt p.cols k) → (0 ≤ k + 1 ∧ k + 1 ≤ (rs.length : Int)) ∧ (r.length = s.length ∧ (r.length : Int) ≤ k + 1) ∧ (lisB r s r.length = fun a b => lisB rs p.cols (k + 1) a b && decide (InP kd ord i a b)) ∧ ∀ j : Int, 0 ≤ j → j < r.length → ¬ BadAt p.rows p.width r s j := fun hI => by
      refine ⟨by omega, by omega, ?_, hbad⟩
      rw [hlis, lisB_step hk0]
      funext a b
      dsimp only
      by_cases e : a = gt rs k ∧ b = gt p.cols k
      · rw [e.1, e.2, decide_eq_false hI]; simp
      · rw [show (a == gt rs k && b == gt p.cols k) = false by
          rw [Bool.and_eq_false_iff]
          by_cases ha : a = gt rs k
          · right; simpa using fun hb => e ⟨ha, hb⟩
          · left; simpa using ha]
        rw [Bool.or_false]
    by_cases k2 : kd = 2
    · subst k2
      have e1 := hN2 rfl
      have ha := hah (gt p.cols k) hrow.1 (by omega)
      by_cases hL : gt L (gt p.cols k) ≤ i
      · have hI : InP 2 ord i (gt rs k) (gt p.cols k) := by unfold InP; rw [if_pos rfl]; exact ha.1.1 hL
        refine gg ?_
        refine gpush (by exact rfl) (fun _ => by exact rfl) ?_ (hl := by omega)
        intro _ A' c'
        refine gg ?_
        refine gpush (by exact rfl) (fun _ => by exact rfl) ?_ (hl := by omega)
        intro _ B' d'
        refine gg ?_
        exact gnx (⟨A', c', B', d', r ++ [gt rs k], s ++ [gt p.cols k], k + 1⟩ : PrX) (keep hI A' c' B' d') (by dsimp only; omega)
      · have hI : ¬ InP 2 ord i (gt rs k) (gt p.cols k) := by unfold InP; rw [if_pos rfl]; exact fun h => hL (ha.1.2 h)
        refine gg ?_
        exact gnx (⟨A2, c2, B2, d2, r, s, k + 1⟩ : PrX) (skip hI) (by dsimp only; omega)
    by_cases k3 : kd = 3
    · subst k3
      have e1 := hN3 k2
      have ha := hah (gt rs k) ra (by omega)
      by_cases hL : gt L (gt rs k) ≤ i
      · have hI : InP 3 ord i (gt rs k) (gt p.cols k) := by unfold InP; rw [if_neg k2, if_pos rfl]; exact ha.1.1 hL
        refine gg ?_
        refine gpush (by exact rfl) (fun _ => by exact rfl) ?_ (hl := by omega)
        intro _ A' c'
        refine gg ?_
        refine gpush (by exact rfl) (fun _ => by exact rfl) ?_ (hl := by omega)
        intro _ B' d'
        refine gg ?_
        exact gnx (⟨A', c', B', d', r ++ [gt rs k], s ++ [gt p.cols k], k + 1⟩ : PrX) (keep hI A' c' B' d') (by dsimp only; omega)
      · have hI : ¬ InP 3 ord i (gt rs k) (gt p.cols k) := by unfold InP; rw [if_neg k2, if_pos rfl]; exact fun h => hL (ha.1.2 h)
        refine gg ?_
        exact gnx (⟨A2, c2, B2, d2, r, s, k + 1⟩ : PrX) (skip hI) (by dsimp only; omega)
    have e1 := hN3 k2
    have e2 := hsq k2 k3
    have ha := hah (gt rs k) ra (by omega)
    have hb := hah (gt p.cols k) hrow.1 (by omega)
    by_cases hL : gt L (gt rs k) ≤ i
    · by_cases hM : gt L (gt p.cols k) ≤ i
      · have hI : InP kd ord i (gt rs k) (gt p.cols k) := by unfold InP; rw [if_neg k2, if_neg k3]; exact ⟨ha.1.1 hL, hb.1.1 hM⟩
        refine gg ?_
        refine gpush (by exact rfl) (fun _ => by exact rfl) ?_ (hl := by omega)
        intro _ A' c'
        refine gg ?_
        refine gpush (by exact rfl) (fun _ => by exact rfl) ?_ (hl := by omega)
        intro _ B' d'
        refine gg ?_
        exact gnx (⟨A', c', B', d', r ++ [gt rs k], s ++ [gt p.cols k], k + 1⟩ : PrX) (keep hI A' c' B' d') (by dsimp only; omega)
      · have hI : ¬ InP kd ord i (gt rs k) (gt p.cols k) := by unfold InP; rw [if_neg k2, if_neg k3]; exact fun h => hM (hb.1.2 h.2)
        refine gg ?_
        exact gnx (⟨A2, c2, B2, d2, r, s, k + 1⟩ : PrX) (skip hI) (by dsimp only; omega)
    · have hI : ¬ InP kd ord i (gt rs k) (gt p.cols k) := by unfold InP; rw [if_neg k2, if_neg k3]; exact fun h => hL (ha.1.2 h.1)
      refine gg ?_
      exact gnx (⟨A2, c2, B2, d2, r, s, k + 1⟩ : PrX) (skip hI) (by dsimp only; omega)
  obtain rfl : k = rs.length := by omega
  have hbs : buildS p.rows p.width r s = (partP kd p ord i, 0) := by
    unfold buildS
    rw [if_neg (not_not_intro ⟨⟨r0, r1⟩, w0, w1⟩), if_neg (not_not_intro hrs), if_neg (fun ⟨j, j0, j1, h⟩ => hbad j j0 j1 h)]
    congr 1
    unfold partP
    refine shut_congr fun a ha b _ _ => ?_
    rw [hlis]
    dsimp only
    unfold partB
    congr 1
    rw [Bool.eq_iff_iff, hasB_iff]
    unfold lisB
    rw [decide_eq_true_iff]
    constructor
    · rintro ⟨j, j0, j1, ea, eb⟩
      obtain ⟨e1, e2, e3, e4⟩ := hpr.row j j0 (by omega)
      rw [ea] at e1 e2 e3 e4
      exact ⟨e1, e2, j, e3, e4, eb⟩
    · rintro ⟨e1, e2, j, j0, j1, rfl⟩
      have g1 := HG.lo e1 (by omega)
      have g2 := HG.hi (r := (a : Int) + 1) (by omega) (by omega)
      obtain ⟨f1, f2, f3, f4⟩ := hpr.row j (by omega) (by omega)
      exact ⟨j, by omega, by omega, row_uniq hm f1 f2 e1 e2 f3 f4 j0 j1, rfl⟩
  refine gg ?_
  refine gc3 [] (fun w hst hst1 => refBuild_c (rows := p.rows) (width := p.width) w (grd hst (xs := r)) (grd hst (xs := s)) (by omega) (partP kd p ord i, 0) hbs) (by exact rfl) ?_
  (repeat (first | refine gk1 ?_ | refine gk2 ?_ | refine gk3 ?_ | refine gk0 ?_ | refine gk4 ?_))
  rintro y _
  dsimp only [List.cons_append, List.nil_append]
  refine gg ?_
  refine wl_op (ok_alloc rfl rfl rfl rfl (ze_of rfl) ?_); intro q9
  refine gg ?_
  exact grt y trivial
end
end Go.Proofs.Ytoiiellaoikojaa
