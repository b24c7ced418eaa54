/- Plain: kinds of colourings: what follows from what; Greedy's colours are of the kind. -/
import Derived.Test.YtoiiellaoikojaaV0
import Derived.Test.YtoiiellaoikojaaU8
set_option linter.unusedVariables false
set_option linter.unusedSimpArgs false
set_option maxHeartbeats 8000000
namespace Go.Proofs.Ytoiiellaoikojaa
open Go.RowKit Classical
section
variable {F : Int → Int → Bool} {n : Nat} {l l' : List Int}
/-- a star colouring is acyclic -/
theorem fine_star (hev : ∀ a b, F a b = true → F b a = true) (h : Fine 4 F n l) : Fine 5 F n l := by
  obtain ⟨h1, h2, _⟩ := h
  have hp := h2 rfl
  refine ⟨h1, fun h => by omega, fun _ c d hcd => ?_⟩
  rintro ⟨S, ⟨x, hx⟩, hS, hc⟩
  obtain ⟨a, b, hab, ha, hb, hxa, hxb⟩ := hc x hx
  have hy : ∃ y, y ≠ x ∧ S y ∧ F a y = true := by
    obtain ⟨p, q, hpq, hp', hq, e1, e2⟩ := hc a ha
    by_cases e : p = x
    · exact ⟨q, fun h => hpq (by rw [e, h]), hq, e2⟩
    · exact ⟨p, e, hp', e1⟩
  obtain ⟨y, hyx, hys, hay⟩ := hy
  have k1 := h1 _ _ hxa
  have k2 := h1 _ _ hxb
  have k3 := h1 _ _ hay
  have c1 := (hS x hx).2
  have c2 := (hS a ha).2
  have c3 := (hS b hb).2
  have c4 := (hS y hys).2
  by_cases hlt : y < b
  · exact hp y a x b ⟨hev _ _ hay, hev _ _ hxa, hxb, fun e => hyx e.symm, fun e => hab e.symm, hlt, by omega, by omega⟩
  · by_cases heq : y = b
    · rw [heq] at c4 k3; omega
    · exact hp b x a y ⟨hev _ _ hxb, hxa, hay, hab, hyx, by omega, by omega, by omega⟩
theorem fine_proper {kd : Int} (h : Fine kd F n l) : Fine 1 F n l := ⟨h.1, fun h => by omega, fun h => by omega⟩
/-- a proper colouring of what is near is a star colouring -/
theorem fine_near {p : Pat} (hg : IsGr p) (h : Fine 1 (nearB p) n l) : Fine 4 (hasB p) n l := by
  have near : ∀ u v, u ≠ v → (HasP p u v ∨ ∃ k, HasP p u k ∧ HasP p k v) → gt l u ≠ gt l v := fun u v h1 h2 => h.1 u v (by unfold nearB; exact decide_eq_true ⟨h1, h2⟩)
  refine ⟨fun x y hxy => near x y (fun e => by rw [e, hg.irr] at hxy; cases hxy) (.inl (hasB_iff.1 hxy)), fun _ a b c d hp => ?_, fun h => by omega⟩
  exact near a c (fun e => hp.ca e.symm) (.inr ⟨b, hasB_iff.1 hp.ab, hasB_iff.1 hp.bc⟩) hp.kc.symm
/-- renamed colours are of the kind -/
theorem Fine.ren {kd : Int} (hin : ∀ x y, F x y = true → (0 ≤ x ∧ x < n) ∧ 0 ≤ y ∧ y < n) (hr : ∀ x y : Int, 0 ≤ x → x < n → 0 ≤ y → y < n → (gt l' x = gt l' y ↔ gt l x = gt l y)) (h : Fine kd F n l) : Fine kd F n l' := by
  obtain ⟨h1, h2, h3⟩ := h
  refine ⟨fun x y hxy e => ?_, fun hk a b c d hp => ?_, fun hk c d hcd => ?_⟩
  · have := hin _ _ hxy
    exact h1 x y hxy ((hr x y this.1.1 this.1.2 this.2.1 this.2.2).1 e)
  · have e1 := hin _ _ hp.ab
    have e2 := hin _ _ hp.cd
    exact h2 hk a b c d ⟨hp.ab, hp.bc, hp.cd, hp.ca, hp.db, hp.ad, (hr c a e2.1.1 e2.1.2 e1.1.1 e1.1.2).1 hp.kc, (hr d b e2.2.1 e2.2.2 e1.2.1 e1.2.2).1 hp.kd⟩
  · rintro ⟨S, ⟨s, hs⟩, hS, hc⟩
    have hsr := (hS s hs).1
    have go : ∀ t, S t → (∀ z, S z → gt l' z = gt l' s ∨ gt l' z = gt l' t) → False := fun t ht hz => by
      have htr := (hS t ht).1
      have hz2 : ∀ z, S z → gt l z = gt l s ∨ gt l z = gt l t := fun z hz' => by
        have hzr := (hS z hz').1
        exact (hz z hz').imp (hr z s hzr.1 hzr.2 hsr.1 hsr.2).1 (hr z t hzr.1 hzr.2 htr.1 htr.2).1
      by_cases hle : gt l s ≤ gt l t
      · exact h3 hk _ _ hle ⟨S, ⟨s, hs⟩, fun z hz' => ⟨(hS z hz').1, hz2 z hz'⟩, hc⟩
      · exact h3 hk (gt l t) (gt l s) (by omega) ⟨S, ⟨s, hs⟩, fun z hz' => ⟨(hS z hz').1, (hz2 z hz').symm⟩, hc⟩
    by_cases ht : ∃ t, S t ∧ gt l' t ≠ gt l' s
    · obtain ⟨t, ht, hne⟩ := ht
      exact go t ht fun z hz => by
        have := (hS z hz).2
        have := (hS s hs).2
        have := (hS t ht).2
        omega
    · exact go s hs fun z hz => .inl (Classical.byContradiction fun h => ht ⟨z, hz, h⟩)
theorem IsLe.le {kd kd' : Int} {F' : Int → Int → Bool} (hf : ∀ l, Fine kd' F' n l → Fine kd F n l) {k k' : Int} (h : IsLe kd F n k) (h' : IsLe kd' F' n k') : k ≤ k' := by
  have up : ∀ (m : Nat) (l : List Int) (used j : Int), SomeU kd' F' n m l used j → SomeU kd F n m l used j := by
    intro m
    induction m with
    | zero => exact fun l used j h => ⟨hf l h.1, h.2⟩
    | succ m ih => exact fun l used j ⟨c, c0, c1, h⟩ => ⟨c, c0, c1, ih _ _ _ h⟩
  rcases h'.2.1 with e | e
  · have := h.1; omega
  · exact h.2.2 _ (up _ _ _ _ e)
/-! ### Greedy's colours -/
/-- no path of four in two colours among what has a colour -/
def NoPc (F : Int → Int → Bool) (cs : List Int) : Prop := ∀ a b c d : Int, 0 ≤ gt cs a → 0 ≤ gt cs b → F a b = true → F b c = true → F c d = true → c ≠ a → d ≠ b → gt cs c = gt cs a → gt cs d ≠ gt cs b
structure GrK (kd : Int) (F : Int → Int → Bool) (n : Nat) (ord : List Int) (k : Nat) (cs : List Int) : Prop where
  gi : GI F n (ord.take k) cs
  acy : kd = 5 → Acy F n cs
  nop : kd = 4 → NoPc F cs
variable {kd : Int} {ord : List Int}
theorem ord_new (ho : IsOrd ord n) {k : Int} (k0 : 0 ≤ k) (k1 : k < n) : gt ord k ∉ ord.take k.toNat := fun hmem => by
  have hl := ho.len
  have htk : (ord.take k.toNat).length = k.toNat := by rw [List.length_take]; omega
  obtain ⟨i, i0, i1, e⟩ := mem_gt hmem
  rw [htk] at i1
  have e2 : gt (ord.take k.toNat) i = gt ord i := by
    rw [gt_elem i0 (by rw [htk]; exact i1), gt_elem i0 (by omega)]
    simp
  rw [e2] at e
  have := ho.inj i k i0 (by omega) k0 k1 e
  omega
theorem ord_next (ho : IsOrd ord n) {k : Int} (k0 : 0 ≤ k) (k1 : k < n) : ord.take (k + 1).toNat = ord.take k.toNat ++ [gt ord k] := by
  have hl := ho.len
  rw [show (k + 1).toNat = k.toNat + 1 by omega, List.take_add_one, List.getElem?_eq_getElem (by omega), gt_elem k0 (by omega)]
  rfl
/-- a step of Greedy's -/
theorem gr_step (hon : On n F) (ho : IsOrd ord n) {k : Int} (k0 : 0 ≤ k) (k1 : k < n) (hGI : GI F n (ord.take k.toNat) (greedyS kd F n (ord.take k.toNat))) :
    ∃ c : Int, 0 ≤ c ∧ c ≤ k ∧ greedyS kd F n (ord.take (k + 1).toNat) = (greedyS kd F n (ord.take k.toNat)).set (gt ord k).toNat c ∧ badB kd F n (greedyS kd F n (ord.take k.toNat)) (gt ord k) c = false ∧ ∀ d : Int, 0 ≤ d → d < c → badB kd F n (greedyS kd F n (ord.take k.toNat)) (gt ord k) d = true := by
  have hl := ho.len
  have htk : (ord.take k.toNat).length = k.toNat := by rw [List.length_take]; omega
  obtain ⟨c0, c00, c01, hfr⟩ := hGI.fresh hon
  rw [htk] at c01
  obtain ⟨a1, a2, a3, a4⟩ := leastC_spec (bad := badB kd F n (greedyS kd F n (ord.take k.toNat)) (gt ord k)) (k := n + 1) (c := 0) c00 (by omega) (hfr kd (gt ord k))
  refine ⟨_, a1, by omega, ?_, a3, a4⟩
  rw [ord_next ho k0 k1]
  show greedyL _ _ _ _ = _
  rw [greedyL_snoc]
  rfl
theorem grK (hon : On n F) (hev : ∀ a b, F a b = true → F b a = true) (hirr : ∀ u, F u u = false) (ho : IsOrd ord n) : ∀ k : Nat, k ≤ n → GrK kd F n ord k (greedyS kd F n (ord.take k))
  | 0, _ => by
    refine ⟨GI.zero hon, fun _ => Acy.zero, fun _ a b c d ha _ hab _ _ _ _ _ => ?_⟩
    have hr := hon _ _ hab
    have : gt (greedyS kd F n (ord.take 0)) a = -1 := by
      show gt (List.replicate n (-1)) a = -1
      rw [gt_elem hr.1 (by simp; omega)]; simp
    omega
  | k + 1, hk => by
    have h := grK hon hev hirr ho k (by omega)
    have hl := ho.len
    have hv := ho.rng (k : Int) (by omega) (by omega)
    have hnin := ord_new ho (k := (k : Int)) (by omega) (by omega)
    have hnx := ord_next ho (k := (k : Int)) (by omega) (by omega)
    rw [show ((k : Int)).toNat = k by omega] at hnin hnx
    rw [show ((k : Int) + 1).toNat = k + 1 by omega] at hnx
    have htk : (ord.take k).length = k := by rw [List.length_take]; omega
    obtain ⟨c, c0, c1, hset, hbad, hlow⟩ := gr_step (kd := kd) hon ho (k := (k : Int)) (by omega) (by omega) (by rw [show ((k : Int)).toNat = k by omega]; exact h.gi)
    rw [show ((k : Int)).toNat = k by omega, show ((k : Int) + 1).toNat = k + 1 by omega] at hset
    rw [show ((k : Int)).toNat = k by omega] at hbad hlow
    have hbN : badN F n (greedyS kd F n (ord.take k)) (gt ord (k : Int)) c = false := by
      unfold badB at hbad
      exact (Bool.or_eq_false_iff.1 hbad).1
    rw [hset]
    have hG := h.gi
    have hrb := (right_bad (kd := kd) (F := F) hon hev hirr hG hv.1 hv.2 hnin c0 h.acy).2 hbad
    have hcl := hG.len
    generalize greedyS kd F n (ord.take k) = cs at *
    generalize gt ord (k : Int) = v at *
    refine ⟨by rw [show ord.take (k + 1) = ord.take k ++ [v] from hnx]; exact hG.next hon hev hirr hv.1 hv.2 hnin (by rw [htk]; omega) c0 (by omega) hbN, fun h5 => Acy.next hon hev hirr hG hv.1 hv.2 (h.acy h5) hbN ?_, fun h4 => ?_⟩
    · unfold badB at hbad
      rw [decide_eq_true h5, Bool.true_and] at hbad
      exact (Bool.or_eq_false_iff.1 (Bool.or_eq_false_iff.1 hbad).2).2
    · have hns := hrb.2.1 h4
      have hgs : ∀ u : Int, 0 ≤ u → gt (cs.set v.toNat c) u = if u = v then c else gt cs u := fun u u0 => gt_setI hv.1 (by omega) u0
      intro a b e f ha hb hab hbe hef hea hfb hke hkf
      have r1 := hon _ _ hab
      have r2 := hon _ _ hef
      have P : ∀ x y : Int, 0 ≤ gt (cs.set v.toNat c) x → 0 ≤ gt (cs.set v.toNat c) y → F x y = true → prt F (cs.set v.toNat c) x y = true := fun x y hx hy h => prt_iff.2 ⟨hx, hy, h⟩
      have he : 0 ≤ gt (cs.set v.toNat c) e := by omega
      have hf : 0 ≤ gt (cs.set v.toNat c) f := by omega
      by_cases va : a = v
      · subst va
        exact hns ⟨b, r1.2.2.1, r1.2.2.2, P _ _ ha hb hab, e, r2.1, r2.2.1, P _ _ hb he hbe, hea, hke, f, r2.2.2.1, r2.2.2.2, hfb, .inl (P _ _ he hf hef), hkf⟩
      by_cases vf : f = v
      · subst vf
        exact hns ⟨e, r2.1, r2.2.1, P _ _ hf he (hev _ _ hef), b, r1.2.2.1, r1.2.2.2, P _ _ he hb (hev _ _ hbe), fun h => hfb h.symm, hkf.symm, a, r1.1, r1.2.1, fun h => hea h.symm, .inl (P _ _ hb ha (hev _ _ hab)), hke.symm⟩
      by_cases vb : b = v
      · subst vb
        exact hns ⟨e, r2.1, r2.2.1, P _ _ hb he hbe, f, r2.2.2.1, r2.2.2.2, P _ _ he hf hef, hfb, hkf, a, r1.1, r1.2.1, fun h => hea h.symm, .inr (P _ _ hb ha (hev _ _ hab)), hke.symm⟩
      by_cases ve : e = v
      · subst ve
        exact hns ⟨b, r1.2.2.1, r1.2.2.2, P _ _ he hb (hev _ _ hbe), a, r1.1, r1.2.1, P _ _ hb ha (hev _ _ hab), fun h => hea h.symm, hke.symm, f, r2.2.2.1, r2.2.2.2, hfb, .inr (P _ _ he hf hef), hkf⟩
      rw [hgs a r1.1, if_neg va] at ha hke
      rw [hgs b r1.2.2.1, if_neg vb] at hb hkf
      rw [hgs e r2.1, if_neg ve] at hke
      rw [hgs f r2.2.2.1, if_neg vf] at hkf
      exact h.nop h4 a b e f ha hb hab hbe hef hea hfb hke hkf
theorem ord_mem (ho : IsOrd ord n) {u : Int} (u0 : 0 ≤ u) (u1 : u < n) : u ∈ ord := by
  have hl := ho.len
  obtain ⟨k, k0, k1, rfl⟩ := ho.surj u0 u1
  rw [gt_elem k0 (by omega)]
  exact List.getElem_mem _
/-- Greedy's colours are of the kind -/
theorem greedy_fine (hon : On n F) (hev : ∀ a b, F a b = true → F b a = true) (hirr : ∀ u, F u u = false) (ho : IsOrd ord n) : (greedyS kd F n ord).length = n ∧ (∀ u : Int, 0 ≤ u → u < n → 0 ≤ gt (greedyS kd F n ord) u ∧ gt (greedyS kd F n ord) u < n) ∧ Fine kd F n (greedyS kd F n ord) := by
  have hl := ho.len
  have htk : ord.take n = ord := List.take_of_length_le (by omega)
  have h := grK (kd := kd) hon hev hirr ho n (Nat.le_refl _)
  rw [htk] at h
  have hc : ∀ u : Int, 0 ≤ u → u < n → 0 ≤ gt (greedyS kd F n ord) u ∧ gt (greedyS kd F n ord) u < n := fun u u0 u1 => h.gi.on u u0 u1 (by rw [htk]; exact ord_mem ho u0 u1)
  refine ⟨h.gi.len, hc, fun x y hxy => ?_, fun hk a b c d hp => ?_, fun hk c d hcd => ?_⟩
  · have hr := hon _ _ hxy
    exact h.gi.proper x y hxy (hc x hr.1 hr.2.1).1
  · have r1 := hon _ _ hp.ab
    exact h.nop hk a b c d (hc a r1.1 r1.2.1).1 (hc b r1.2.2.1 r1.2.2.2).1 hp.ab hp.bc hp.cd hp.ca hp.db hp.kc hp.kd
  · rintro ⟨S, ⟨s, hs⟩, hS, hco⟩
    have hg0 : ∀ z, S z → 0 ≤ gt (greedyS kd F n ord) z := fun z hz => (hc z (hS z hz).1.1 (hS z hz).1.2).1
    by_cases c0 : 0 ≤ c
    · exact h.acy hk c d c0 (by omega) ⟨S, ⟨s, hs⟩, hS, hco⟩
    · by_cases d0 : 0 ≤ d
      · exact h.acy hk d d d0 d0 ⟨S, ⟨s, hs⟩, fun z hz => ⟨(hS z hz).1, by have := (hS z hz).2; have := hg0 z hz; omega⟩, hco⟩
      · have := (hS s hs).2
        have := hg0 s hs
        omega
end
end Go.Proofs.Ytoiiellaoikojaa
