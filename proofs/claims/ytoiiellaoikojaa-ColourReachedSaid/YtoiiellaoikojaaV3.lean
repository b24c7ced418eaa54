/- Plain: how many colours Greedy takes, and that none could be lesser. -/
import Derived.Test.YtoiiellaoikojaaV1
set_option linter.unusedVariables false
set_option linter.unusedSimpArgs false
set_option maxHeartbeats 8000000
namespace Go.Proofs.Ytoiiellaoikojaa
open Go.RowKit Classical
theorem numS_att : ∀ (l : List Int), 0 < numS l → ∃ c ∈ l, c + 1 = numS l
  | [], h => by simp [numS] at h
  | c :: l, h => by
    rw [numS_cons] at h ⊢
    by_cases h1 : numS l ≤ c + 1
    · exact ⟨c, by simp, by omega⟩
    · obtain ⟨d, h2, h3⟩ := numS_att l (by omega)
      exact ⟨d, by simp [h2], by omega⟩
theorem nodup_cnt {Q : Int → Prop} : ∀ (n : Nat) (l : List Int), l.Nodup → (∀ x ∈ l, (0 ≤ x ∧ x < n) ∧ Q x) → l.length ≤ cntQ Q n
  | 0, l, _, h => by
    cases l with
    | nil => simp
    | cons a l => have := (h a (by simp)).1; omega
  | n + 1, l, hnd, h => by
    have hrest : (l.erase (n : Int)).length ≤ cntQ Q n := nodup_cnt n (l.erase (n : Int)) (hnd.erase _) fun x hx => by
      have hx2 := (List.Nodup.mem_erase_iff hnd).1 hx
      have := h x hx2.2
      exact ⟨by have := this.1; have := hx2.1; omega, this.2⟩
    by_cases hm : (n : Int) ∈ l
    · rw [List.length_erase_of_mem hm] at hrest
      have := (cntQ_succ Q n).1 (h _ hm).2
      have : 0 < l.length := List.length_pos_of_mem hm
      omega
    · rw [List.erase_of_not_mem hm] at hrest
      by_cases hq : Q n
      · have := (cntQ_succ Q n).1 hq; omega
      · have := (cntQ_succ Q n).2 hq; omega
section
variable {F : Int → Int → Bool} {n : Nat} {kd : Int} {ord : List Int}
theorem take_ahd (ho : IsOrd ord n) {k u : Int} (k0 : 0 ≤ k) (k1 : k ≤ n) : u ∈ ord.take k.toNat ↔ ∃ i : Int, 0 ≤ i ∧ i < k ∧ gt ord i = u := by
  have hl := ho.len
  have htk : (ord.take k.toNat).length = k.toNat := by rw [List.length_take]; omega
  constructor
  · intro h
    obtain ⟨i, i0, i1, e⟩ := mem_gt h
    rw [htk] at i1
    refine ⟨i, i0, by omega, ?_⟩
    rw [← e, gt_elem i0 (by omega), gt_elem i0 (by rw [htk]; exact i1)]
    simp
  · rintro ⟨i, i0, i1, rfl⟩
    exact take_mem i0 i1 (by omega)
/-- a bad colour stands on something near and ahead -/
theorem bad_near (hon : On n F) (ho : IsOrd ord n) {k : Int} (k0 : 0 ≤ k) (k1 : k < n) {cs : List Int} (hGI : GI F n (ord.take k.toNat) cs) {d : Int} (d0 : 0 ≤ d) (hb : badB kd F n cs (gt ord k) d = true) : ∃ x : Int, (0 ≤ x ∧ x < n) ∧ NearP kd F ord k x ∧ gt cs x = d := by
  have ahead : ∀ x : Int, 0 ≤ x → x < n → 0 ≤ gt cs x → ∃ i : Int, 0 ≤ i ∧ i < k ∧ gt ord i = x := fun x x0 x1 h => by
    refine (take_ahd ho k0 (by omega)).1 (Classical.byContradiction fun hn => ?_)
    have := hGI.off x x0 x1 hn
    omega
  unfold badB at hb
  rw [Bool.or_eq_true] at hb
  rcases hb with hb | hb
  · obtain ⟨u, ⟨u0, u1⟩, h⟩ := anyI_iff.1 hb
    rw [Bool.and_eq_true, beq_iff_eq] at h
    exact ⟨u, ⟨u0, u1⟩, ⟨ahead u u0 u1 (by omega), .inl h.1⟩, h.2⟩
  · rw [Bool.or_eq_true] at hb
    rcases hb with hb | hb
    · rw [Bool.and_eq_true, decide_eq_true_iff] at hb
      obtain ⟨u, ⟨u0, u1⟩, h⟩ := anyI_iff.1 hb.2
      rw [Bool.and_eq_true, Bool.and_eq_true, decide_eq_true_iff] at h
      obtain ⟨x, ⟨x0, x1⟩, h2⟩ := anyI_iff.1 h.2
      rw [Bool.and_eq_true, Bool.and_eq_true, Bool.and_eq_true, beq_iff_eq] at h2
      obtain ⟨m, m0, m1, e⟩ := ahead u u0 u1 h.1.2
      exact ⟨x, ⟨x0, x1⟩, ⟨ahead x x0 x1 (by omega), .inr ⟨.inl hb.1, m, m0, m1, by rw [e]; exact h.1.1, by rw [e]; exact h2.1.1⟩⟩, h2.1.2.2⟩
    · rw [Bool.and_eq_true, decide_eq_true_iff] at hb
      unfold badA at hb
      obtain ⟨u, w, h1, h2, h3, h4, h5, h6, h7⟩ := of_decide_eq_true hb.2
      obtain ⟨y, hy⟩ := way_first h7 (by omega)
      rw [Bool.and_eq_true, Bool.or_eq_true, decide_eq_true_iff, decide_eq_true_iff] at hy
      have hr := hon _ _ hy.1
      have hne := hGI.proper u y hy.1 h4
      have hyd : gt cs y = d := hy.2.resolve_right fun e => hne e.symm
      obtain ⟨m, m0, m1, e⟩ := ahead u hr.1 hr.2.1 h4
      exact ⟨y, ⟨hr.2.2.1, hr.2.2.2⟩, ⟨ahead y hr.2.2.1 hr.2.2.2 (by omega), .inr ⟨.inr hb.1, m, m0, m1, by rw [e]; exact h1, by rw [e]; exact hy.1⟩⟩, hyd⟩
theorem bndTo_mono (j : Nat) : ∀ m : Nat, bndTo kd F n ord j ≤ bndTo kd F n ord (j + m)
  | 0 => Int.le_refl _
  | m + 1 => by
    have := bndTo_mono j m
    have e : bndTo kd F n ord (j + (m + 1)) = max (bndTo kd F n ord (j + m)) (nearN kd F n ord ((j + m : Nat) : Int) + 1) := rfl
    rw [e]
    omega
variable (hon : On n F) (hev : ∀ a b, F a b = true → F b a = true) (hirr : ∀ u, F u u = false) (ho : IsOrd ord n)
include hon hev hirr ho
/-- what one step says of the whole -/
theorem gr_at {k : Int} (k0 : 0 ≤ k) (k1 : k < n) : let cs := greedyS kd F n (ord.take k.toNat); let L := greedyS kd F n ord; GI F n (ord.take k.toNat) cs ∧ (∀ x : Int, 0 ≤ x → x < n → 0 ≤ gt cs x → gt L x = gt cs x) ∧ (kd = 5 → Acy F n cs) ∧ ∀ d : Int, 0 ≤ d → d < gt L (gt ord k) → badB kd F n cs (gt ord k) d = true := by
  intro cs L
  have hl := ho.len
  have hG := grK (kd := kd) hon hev hirr ho k.toNat (by omega)
  have stay : ∀ m : Nat, k.toNat + m ≤ n → ∀ x : Int, 0 ≤ x → x < n → 0 ≤ gt cs x → gt (greedyS kd F n (ord.take (k.toNat + m))) x = gt cs x := by
    intro m
    induction m with
    | zero => intro _ x _ _ _; rfl
    | succ m ih =>
      intro hm x x0 x1 hx
      have h1 := grK (kd := kd) hon hev hirr ho (k.toNat + m) (by omega)
      obtain ⟨c, c0, _, hset, _⟩ := gr_step (kd := kd) hon ho (k := ((k.toNat + m : Nat) : Int)) (by omega) (by omega) (by rw [show (((k.toNat + m : Nat) : Int)).toNat = k.toNat + m by omega]; exact h1.gi)
      rw [show (((k.toNat + m : Nat) : Int)).toNat = k.toNat + m by omega, show (((k.toNat + m : Nat) : Int) + 1).toNat = k.toNat + (m + 1) by omega] at hset
      have hv := ho.rng ((k.toNat + m : Nat) : Int) (by omega) (by omega)
      have hlen := h1.gi.len
      rw [hset, gt_setI hv.1 (by omega) x0]
      by_cases e : x = gt ord ((k.toNat + m : Nat) : Int)
      · exfalso
        have hin : x ∈ ord.take k.toNat := Classical.byContradiction fun hn => by
          have : gt cs x = -1 := hG.gi.off x x0 x1 hn
          omega
        obtain ⟨i, i0, i1, e2⟩ := (take_ahd ho k0 (by omega)).1 hin
        have := ho.inj i _ i0 (by omega) (by omega) (by omega) (e2.trans e)
        omega
      · rw [if_neg e]; exact ih (by omega) x x0 x1 hx
  have hfull : greedyS kd F n (ord.take (k.toNat + (n - k.toNat))) = L := by
    rw [List.take_of_length_le (by omega)]
  obtain ⟨c, c0, c1, hset, hbad, hlow⟩ := gr_step (kd := kd) hon ho k0 k1 hG.gi
  have hv := ho.rng k k0 k1
  have hlen := hG.gi.len
  have hLv : gt L (gt ord k) = c := by
    have h1 := grK (kd := kd) hon hev hirr ho (k.toNat + 1) (by omega)
    have : ∀ m : Nat, k.toNat + 1 + m ≤ n → gt (greedyS kd F n (ord.take (k.toNat + 1 + m))) (gt ord k) = c := by
      intro m
      induction m with
      | zero =>
        intro _
        rw [show k.toNat + 1 + 0 = (k + 1).toNat by omega, hset, gt_setI hv.1 (by omega) hv.1, if_pos rfl]
      | succ m ih =>
        intro hm
        have h1 := grK (kd := kd) hon hev hirr ho (k.toNat + 1 + m) (by omega)
        obtain ⟨c', _, _, hset', _⟩ := gr_step (kd := kd) hon ho (k := ((k.toNat + 1 + m : Nat) : Int)) (by omega) (by omega) (by rw [show (((k.toNat + 1 + m : Nat) : Int)).toNat = k.toNat + 1 + m by omega]; exact h1.gi)
        rw [show (((k.toNat + 1 + m : Nat) : Int)).toNat = k.toNat + 1 + m by omega, show (((k.toNat + 1 + m : Nat) : Int) + 1).toNat = k.toNat + 1 + (m + 1) by omega] at hset'
        have hv' := ho.rng ((k.toNat + 1 + m : Nat) : Int) (by omega) (by omega)
        have hlen' := h1.gi.len
        rw [hset', gt_setI hv'.1 (by omega) hv.1, if_neg (fun e => by
          have := ho.inj k _ k0 k1 (by omega) (by omega) e
          omega)]
        exact ih (by omega)
    have h2 := this (n - (k.toNat + 1)) (by omega)
    rw [List.take_of_length_le (by omega)] at h2
    exact h2
  refine ⟨hG.gi, fun x x0 x1 hx => ?_, hG.acy, fun d d0 d1 => hlow d d0 (by omega)⟩
  rw [← hfull]
  exact stay _ (by omega) x x0 x1 hx
/-- no more than Bound -/
theorem greedy_bound : numS (greedyS kd F n ord) ≤ bndTo kd F n ord n := by
  have hl := ho.len
  obtain ⟨f1, f2, _⟩ := greedy_fine (kd := kd) hon hev hirr ho
  have hb0 := bndTo_rng kd F n ord n
  by_cases h0 : 0 < numS (greedyS kd F n ord)
  · obtain ⟨c, hc, e⟩ := numS_att _ h0
    obtain ⟨v, v0, v1, rfl⟩ := mem_gt hc
    rw [f1] at v1
    obtain ⟨k, k0, k1, rfl⟩ := ho.surj v0 v1
    obtain ⟨hG, hst, _, hlow⟩ := gr_at (kd := kd) hon hev hirr ho k0 k1
    generalize hcc : gt (greedyS kd F n ord) (gt ord k) = cc at *
    have hch : ∀ d : Int, ∃ x : Int, 0 ≤ d → d < cc → (0 ≤ x ∧ x < n) ∧ NearP kd F ord k x ∧ gt (greedyS kd F n (ord.take k.toNat)) x = d := fun d => by
      by_cases h : 0 ≤ d ∧ d < cc
      · obtain ⟨x, hx⟩ := bad_near hon ho k0 k1 hG h.1 (hlow d h.1 h.2)
        exact ⟨x, fun _ _ => hx⟩
      · exact ⟨0, fun h1 h2 => (h ⟨h1, h2⟩).elim⟩
    obtain ⟨φ, hφ⟩ := Classical.axiomOfChoice hch
    have hlen := nodup_cnt (Q := NearP kd F ord k) n ((rng cc.toNat).map φ) (by
      refine List.pairwise_map.2 ?_
      have hnd : (rng cc.toNat).Nodup := by
        unfold rng
        refine List.pairwise_map.2 (List.nodup_range.imp ?_)
        intro a b h e
        exact h (by omega)
      refine hnd.imp_of_mem fun {a b} ha hb hne e => hne ?_
      have a1 := mem_rng.1 ha
      have b1 := mem_rng.1 hb
      have a2 := (hφ a a1.1 (by omega)).2.2
      have b2 := (hφ b b1.1 (by omega)).2.2
      rw [← a2, ← b2, e]) (fun x hx => by
      obtain ⟨d, hd, rfl⟩ := List.mem_map.1 hx
      have d1 := mem_rng.1 hd
      have := hφ d d1.1 (by omega)
      exact ⟨this.1, this.2.1⟩)
    rw [List.length_map, show (rng cc.toNat).length = cc.toNat by simp [rng]] at hlen
    have hm := bndTo_mono (kd := kd) (F := F) (n := n) (ord := ord) (k.toNat + 1) (n - (k.toNat + 1))
    rw [show k.toNat + 1 + (n - (k.toNat + 1)) = n by omega] at hm
    have hs : bndTo kd F n ord (k.toNat + 1) = max (bndTo kd F n ord k.toNat) (nearN kd F n ord (k.toNat : Int) + 1) := rfl
    rw [show ((k.toNat : Nat) : Int) = k by omega] at hs
    unfold nearN at hs
    omega
  · omega
/-- none below their number is nobody's -/
theorem greedy_used {d : Int} (d0 : 0 ≤ d) (d1 : d < numS (greedyS kd F n ord)) : ∃ v : Int, 0 ≤ v ∧ v < n ∧ gt (greedyS kd F n ord) v = d := by
  obtain ⟨f1, f2, _⟩ := greedy_fine (kd := kd) hon hev hirr ho
  obtain ⟨c, hc, e⟩ := numS_att (greedyS kd F n ord) (by omega)
  obtain ⟨v, v0, v1, rfl⟩ := mem_gt hc
  rw [f1] at v1
  by_cases h : gt (greedyS kd F n ord) v = d
  · exact ⟨v, v0, v1, h⟩
  · obtain ⟨k, k0, k1, rfl⟩ := ho.surj v0 v1
    obtain ⟨hG, hst, _, hlow⟩ := gr_at (kd := kd) hon hev hirr ho k0 k1
    obtain ⟨x, hx, _, hxd⟩ := bad_near hon ho k0 k1 hG d0 (hlow d d0 (by omega))
    exact ⟨x, hx.1, hx.2, by rw [hst x hx.1 hx.2 (by omega), hxd]⟩
/-- no lesser colour among those ahead -/
theorem greedy_least {k c : Int} (k0 : 0 ≤ k) (k1 : k < n) (c0 : 0 ≤ c) (c1 : c < gt (greedyS kd F n ord) (gt ord k)) : ¬ Fine kd (resF F ord k) n ((greedyS kd F n ord).set (gt ord k).toNat c) := by
  intro hf
  have hol := ho.len
  obtain ⟨f1, f2, _⟩ := greedy_fine (kd := kd) hon hev hirr ho
  obtain ⟨hG, hst, hacy, hlow⟩ := gr_at (kd := kd) hon hev hirr ho k0 k1
  have hbad := hlow c c0 c1
  have hv := ho.rng k k0 k1
  have hnin := ord_new ho k0 k1
  have hnr : ¬ RightP kd F n ((greedyS kd F n (ord.take k.toNat)).set (gt ord k).toNat c) (gt ord k) := fun h => by
    rw [(right_bad (kd := kd) (F := F) hon hev hirr hG hv.1 hv.2 hnin c0 hacy).1 h] at hbad
    cases hbad
  have hvk : Ahd ord k (gt ord k) := ⟨k, k0, Int.le_refl _, by omega, rfl⟩
  have hcl := hG.len
  have hoff := hG.off
  generalize hcs : greedyS kd F n (ord.take k.toNat) = cs at *
  generalize greedyS kd F n ord = L at *
  have hgK : ∀ u : Int, 0 ≤ u → gt (cs.set (gt ord k).toNat c) u = if u = gt ord k then c else gt cs u := fun u u0 => gt_setI hv.1 (by omega) u0
  have hgM : ∀ u : Int, 0 ≤ u → gt (L.set (gt ord k).toNat c) u = if u = gt ord k then c else gt L u := fun u u0 => gt_setI hv.1 (by omega) u0
  have same : ∀ x : Int, 0 ≤ x → x < n → 0 ≤ gt (cs.set (gt ord k).toNat c) x → Ahd ord k x ∧ gt (L.set (gt ord k).toNat c) x = gt (cs.set (gt ord k).toNat c) x := fun x x0 x1 h => by
    rw [hgK x x0] at h ⊢
    rw [hgM x x0]
    by_cases e : x = gt ord k
    · rw [if_pos e, if_pos e, e]; exact ⟨hvk, rfl⟩
    · rw [if_neg e] at h
      rw [if_neg e, if_neg e]
      have hin : x ∈ ord.take k.toNat := Classical.byContradiction fun hn => by
        have := hoff x x0 x1 hn
        omega
      obtain ⟨i, i0, i1, e2⟩ := (take_ahd ho k0 (by omega)).1 hin
      exact ⟨⟨i, i0, by omega, by omega, e2⟩, hst x x0 x1 h⟩
  have hKv : gt (cs.set (gt ord k).toNat c) (gt ord k) = c := by rw [hgK _ hv.1, if_pos rfl]
  generalize cs.set (gt ord k).toNat c = K at *
  generalize L.set (gt ord k).toNat c = M at *
  generalize gt ord k = v at *
  have hfp : ∀ x y : Int, F x y = true → 0 ≤ gt K x → 0 ≤ gt K y → gt K x ≠ gt K y ∧ resF F ord k x y = true := fun x y h hx hy => by
    have hr := hon _ _ h
    have s1 := same x hr.1 hr.2.1 hx
    have s2 := same y hr.2.2.1 hr.2.2.2 hy
    have hR : resF F ord k x y = true := resF_iff.2 ⟨h, s1.1, s2.1⟩
    exact ⟨by rw [← s1.2, ← s2.2]; exact hf.1 x y hR, hR⟩
  refine hnr ⟨fun u u0 u1 h => ?_, fun hk hs => ?_, fun hk u u0 u1 hu => ?_⟩
  · exact (hfp u v h.1 (by omega) (by omega)).1 h.2
  · obtain ⟨b, b0, b1, hvb, e, e0, e1, hbe, hev', hke, f, g0, g1, hfb, hcf, hkf⟩ := hs
    rw [prt_iff] at hvb hbe
    have q1 := hfp v b hvb.2.2 hvb.1 hvb.2.1
    have q2 := hfp b e hbe.2.2 hbe.1 hbe.2.1
    have sv := same v hv.1 hv.2 hvb.1
    have sb := same b b0 b1 hvb.2.1
    have se := same e e0 e1 hbe.2.1
    have sf := same f g0 g1 (by omega)
    have hp4 := hf.2.1 hk
    have hRs : ∀ x y, resF F ord k x y = true → resF F ord k y x = true := fun x y h => by
      rw [resF_iff] at h ⊢
      exact ⟨hev _ _ h.1, h.2.2, h.2.1⟩
    rcases hcf with hcf | hcf
    · rw [prt_iff] at hcf
      have q3 := hfp e f hcf.2.2 hcf.1 hcf.2.1
      by_cases hlt : v < f
      · exact hp4 v b e f ⟨q1.2, q2.2, q3.2, hev', hfb, hlt, by rw [se.2, sv.2]; exact hke, by rw [sf.2, sb.2]; exact hkf⟩
      · by_cases heq : v = f
        · rw [← heq] at hkf; exact q1.1 hkf
        · exact hp4 f e b v ⟨hRs _ _ q3.2, hRs _ _ q2.2, hRs _ _ q1.2, fun h => hfb h.symm, fun h => hev' h.symm, by omega, by rw [sf.2, sb.2]; exact hkf.symm, by rw [se.2, sv.2]; exact hke.symm⟩
    · rw [prt_iff] at hcf
      have q3 := hfp v f hcf.2.2 hcf.1 hcf.2.1
      by_cases hlt : f < e
      · exact hp4 f v b e ⟨hRs _ _ q3.2, q1.2, q2.2, fun h => hfb h.symm, hev', hlt, by rw [sf.2, sb.2]; exact hkf.symm, by rw [se.2, sv.2]; exact hke⟩
      · by_cases heq : f = e
        · rw [heq] at hkf; exact q2.1 hkf.symm
        · exact hp4 e b v f ⟨hRs _ _ q2.2, hRs _ _ q1.2, q3.2, fun h => hev' h.symm, hfb, by omega, by rw [se.2, sv.2]; exact hke.symm, by rw [sf.2, sb.2]; exact hkf⟩
  · rw [prt_iff] at hu
    rintro ⟨S, ⟨s, hs⟩, hS, hco⟩
    have key : ∀ x, S x → 0 ≤ gt K x := fun x hx => by
      obtain ⟨a, _, _, _, _, h, _⟩ := hco x hx
      exact (prt_iff.1 h).1
    have hR : Core (resF F ord k) S := fun x hx => by
      obtain ⟨a, b, h1, h2, h3, h4, h5⟩ := hco x hx
      rw [prt_iff] at h4 h5
      exact ⟨a, b, h1, h2, h3, (hfp x a h4.2.2 h4.1 h4.2.1).2, (hfp x b h5.2.2 h5.1 h5.2.1).2⟩
    have hcol : ∀ x, S x → gt M x = gt K u ∨ gt M x = gt K v := fun x hx => by
      rw [(same x (hS x hx).1.1 (hS x hx).1.2 (key x hx)).2]
      exact (hS x hx).2
    by_cases hle : gt K u ≤ gt K v
    · exact hf.2.2 hk _ _ hle ⟨S, ⟨s, hs⟩, fun x hx => ⟨(hS x hx).1, hcol x hx⟩, hR⟩
    · exact hf.2.2 hk (gt K v) (gt K u) (by omega) ⟨S, ⟨s, hs⟩, fun x hx => ⟨(hS x hx).1, (hcol x hx).symm⟩, hR⟩
end
/-- rows of things that meet: as many colours -/
theorem floTo_le {g : Pat} (hm : May g) {l : List Int} {N : Int} (hN : 1 ≤ N) (hcol : ∀ r u v : Int, HasP g r u → HasP g r v → u ≠ v → gt l u ≠ gt l v) (hr : ∀ u : Int, 0 ≤ u → u < g.width → 0 ≤ gt l u ∧ gt l u < N) : ∀ r : Nat, (r : Int) ≤ g.rows → floTo g r ≤ N
  | 0, _ => hN
  | r + 1, h => by
    have ih := floTo_le hm hN hcol hr r (by omega)
    have HG := hm.toHead
    have e1 := HG.lo (r := (r : Int)) (by omega) (by omega)
    have e2 := HG.hi (r := (r : Int) + 1) (by omega) (by omega)
    have e3 := HG.step (r := (r : Int)) (by omega) (by omega)
    have hlq : ((rowL g r).length : Int) = gt g.start ((r : Int) + 1) - gt g.start r := by
      unfold rowL
      rw [sub_length g.cols e1 e3 e2]; omega
    have mem : ∀ q : Int, 0 ≤ q → q < (rowL g r).length → HasP g r (gt (rowL g r) q) := fun q q0 q1 => hasB_iff.1 ((rowL_mem hm (by omega) (by omega)).2 ⟨q, q0, q1, rfl⟩)
    have hnd := nodup_le N.toNat ((rng (rowL g r).length).map fun q => gt l (gt (rowL g r) q)) (by
      refine List.pairwise_map.2 ?_
      have hnd : (rng (rowL g r).length).Nodup := by
        unfold rng
        refine List.pairwise_map.2 (List.nodup_range.imp ?_)
        intro a b h e
        exact h (by omega)
      refine hnd.imp_of_mem fun {a b} ha hb hne e => ?_
      have a1 := mem_rng.1 ha
      have b1 := mem_rng.1 hb
      refine hcol r _ _ (mem a a1.1 a1.2) (mem b b1.1 b1.2) (fun e2 => ?_) e
      rcases (show a < b ∨ b < a by omega) with h | h
      · have := rowL_mono hm (show 0 ≤ (r : Int) by omega) (by omega) a1.1 h b1.2; omega
      · have := rowL_mono hm (show 0 ≤ (r : Int) by omega) (by omega) b1.1 h a1.2; omega) (fun x hx => by
      obtain ⟨q, hq, rfl⟩ := List.mem_map.1 hx
      have q1 := mem_rng.1 hq
      have hc := ((mem q q1.1 q1.2).in_ hm).2
      have := hr _ hc.1 hc.2
      omega)
    rw [List.length_map, show (rng (rowL g r).length).length = (rowL g r).length by simp [rng]] at hnd
    show max _ _ ≤ N
    omega
end Go.Proofs.Ytoiiellaoikojaa
