/- Walks: colours: edges; the law ColourShown. -/
import Derived.Test.YtoiiellaoikojaaUB
set_option linter.unusedVariables false
set_option linter.unusedSimpArgs false
set_option maxHeartbeats 8000000
namespace Go.Proofs.Ytoiiellaoikojaa
open Go.RowKit Classical
theorem cntB_three {L : List Bool} {x a b : Int} (x0 : 0 ≤ x) (x1 : x < L.length) (a0 : 0 ≤ a) (a1 : a < L.length) (b0 : 0 ≤ b) (b1 : b < L.length) (hxa : x ≠ a) (hxb : x ≠ b) (hab : a ≠ b) (hx : gt L x = true) (ha : gt L a = true) (hb : gt L b = true) : 3 ≤ cntB true L := by
  have h1 := cntB_dec x0 x1 hx
  have h2 := cntB_dec (L := L.set x.toNat false) a0 (by rw [List.length_set]; exact a1) (by rw [gt_set x0 (by omega) a0, if_neg (fun e => hxa e.symm)]; exact ha)
  have h3 := cntB_dec (L := (L.set x.toNat false).set a.toNat false) b0 (by rw [List.length_set, List.length_set]; exact b1) (by rw [gt_set a0 (by rw [List.length_set]; omega) b0, if_neg (fun e => hab e.symm), gt_set x0 (by omega) b0, if_neg (fun e => hxb e.symm)]; exact hb)
  omega
def lt1 (a u : Int) : Int := if a < u then 1 else 0
theorem lt1_next {a u : Int} (h : a ≠ u) : lt1 a (u + 1) = lt1 a u := by
  unfold lt1
  by_cases e : a < u
  · rw [if_pos e, if_pos (by omega)]
  · rw [if_neg e, if_neg (by omega)]
theorem lt1_at (u : Int) : lt1 u (u + 1) = 1 ∧ lt1 u u = 0 := by
  unfold lt1
  rw [if_pos (by omega), if_neg (by omega)]
  exact ⟨rfl, rfl⟩
theorem lt1_t {a u : Int} (h : a < u) : lt1 a u = 1 := if_pos h
theorem lt1_f {a u : Int} (h : u ≤ a) : lt1 a u = 0 := if_neg (by omega)
structure EdX where
  L : List Bool
  k : Int
  u : Int
section
variable {p : Pat} {x : PA} {A : Option Addr} {cc n : Nat} {K : List Int} {c d : Int}
theorem edges_c (w : World) (hp : RdP w x p) (hm : May p) (hn : p.rows = n) (hsq : p.rows = p.width) (hev : ∀ a b, hasB p a b = true → hasB p b a = true) (hirr : ∀ u, hasB p u u = false) (hK : Rds vi w A cc K) (hl : K.length = n) (hc : ¬ NoCore (hasB p) n K c d) :
    Calls Try.prog 41 [pvl x p, .slice A K.length cc, vi c, vi d].toArray w (one (.bool true) w) := by
  have op := hp.old
  have oK := hK.old
  have HG := hm.toHead
  have hn2 := HG.r1
  unfold NoCore at hc
  rw [Classical.not_not] at hc
  obtain ⟨S, ⟨x0, hx0⟩, hS, hcore⟩ := hc
  unfold pvl patV
  refine calls_wc [] [] [.tmp 8] (fun _ => [.bool true]) Try.func41 rfl rfl (fun _ => rfl) Try.ntmps41 rfl (Own.nil w) rfl ?_
  refine gg ?_
  refine wl_op (ok_box rfl rfl rfl rfl rfl ?_); intro bp
  refine gg ?_
  refine gmk vb false rfl rfl rfl rfl rfl rfl rfl rfl rfl rfl rfl (by omega) (Int.le_refl _) (by omega) (by omega) ?_
  intro lb
  rw [show ((K.length : Nat) : Int).toNat = K.length by omega]
  refine gg ?_
  refine glp (fun z : EdX => (0 ≤ z.u ∧ z.u ≤ n) ∧ z.L.length = n ∧ z.k = cntB true z.L ∧ (∀ i : Int, 0 ≤ i → i < z.u → (gt K i = c ∨ gt K i = d) → gt z.L i = true) ∧ (∀ i : Int, z.u ≤ i → i < n → gt z.L i = false)) (fun z => [(1, .slice A K.length cc), (2, vi c), (3, vi d), (4, .pointer (some ⟨bp, 0, none⟩)), (9, .slice (some ⟨lb, 0, none⟩) K.length K.length), (10, vi z.k), (11, vi z.u)])
    (fun z => [osl TB vb (some ⟨lb, 0, none⟩) K.length z.L, blk bp (pcs x p) TP]) (fun z => (n - z.u).toNat) ⟨List.replicate K.length false, 0, 0⟩ ⟨by simp, by simpa using hl, by rw [show cntB true (List.replicate K.length false) = 0 from cntB_zero.2 (fun x hx => by rw [(List.mem_replicate.1 hx).2]; simp)]; rfl, fun i i0 i1 => by dsimp only at i1; omega, fun i i0 i1 => by dsimp only at i0 ⊢; rw [gt_elem i0 (by simp; omega)]; simp⟩ ?_
  rintro ⟨L, k, v⟩ ⟨⟨hv0, hv1⟩, hL, hk, hin, hout⟩
  dsimp only at hv0 hv1 hL hk hin hout ⊢
  by_cases hv : v < n
  · have hset : ∀ b : Bool, ∀ i : Int, 0 ≤ i → gt (L.set v.toNat b) i = if i = v then b else gt L i := fun b i i0 => gt_set hv0 (by omega) i0
    have hov := hout v (Int.le_refl _) hv
    have hkb := cntB_le true L
    by_cases h1 : gt K v = c ∨ gt K v = d
    · have hc1 := cntB_inc hv0 (by omega) hov
      have nx : (0 ≤ v + 1 ∧ v + 1 ≤ n) ∧ (L.set v.toNat true).length = n ∧ k + 1 = cntB true (L.set v.toNat true) ∧ (∀ i : Int, 0 ≤ i → i < v + 1 → (gt K i = c ∨ gt K i = d) → gt (L.set v.toNat true) i = true) ∧ (∀ i : Int, v + 1 ≤ i → i < n → gt (L.set v.toNat true) i = false) := by
        refine ⟨by omega, by rw [List.length_set]; exact hL, by omega, fun i i0 i1 h => ?_, fun i i0 i1 => ?_⟩
        · rw [hset _ i i0]
          by_cases e : i = v
          · rw [if_pos e]
          · rw [if_neg e]; exact hin i i0 (by omega) h
        · rw [hset _ i (by omega), if_neg (by omega)]; exact hout i (by omega) i1
      by_cases h2 : gt K v = c
      · refine gg ?_
        rw [hset true v hv0, if_pos rfl]
        refine gg ?_
        exact gnx (⟨L.set v.toNat true, k + 1, v + 1⟩ : EdX) nx (by dsimp only; omega)
      · have h3 : gt K v = d := h1.resolve_left h2
        refine gg ?_
        rw [hset true v hv0, if_pos rfl]
        refine gg ?_
        exact gnx (⟨L.set v.toNat true, k + 1, v + 1⟩ : EdX) nx (by dsimp only; omega)
    · have h2 : gt K v ≠ c := fun h => h1 (.inl h)
      have h3 : gt K v ≠ d := fun h => h1 (.inr h)
      have hsm := set_same hv0 (by omega) hov
      have hs3 : (L.set v.toNat false).length = n := by rw [List.length_set]; exact hL
      refine gg ?_
      rw [hset false v hv0, if_pos rfl]
      refine gg ?_
      exact gnx (⟨L.set v.toNat false, k, v + 1⟩ : EdX) ⟨by dsimp only; omega, by rw [List.length_set]; exact hL, by dsimp only; rw [hsm]; exact hk, fun i i0 i1 h => by
        dsimp only at i1 ⊢
        rw [hset _ i i0]
        by_cases e : i = v
        · rw [e] at h; exact (h1 h).elim
        · rw [if_neg e]; exact hin i i0 (by omega) h, fun i i0 i1 => by
        dsimp only at i0 ⊢
        rw [hset _ i (by omega), if_neg (by omega)]; exact hout i (by omega) i1⟩ (by dsimp only; omega)
  obtain rfl : v = n := by omega
  have hSL : ∀ i, S i → gt L i = true := fun i hi => hin i (hS i hi).1.1 (hS i hi).1.2 (hS i hi).2
  clear hin hout
  refine gg ?_
  refine glp (fun z : EdX => (0 ≤ z.u ∧ z.u ≤ n) ∧ z.L.length = n ∧ z.k = cntB true z.L ∧ (∀ i, S i → gt z.L i = true)) (fun z => [(1, .slice A K.length cc), (4, .pointer (some ⟨bp, 0, none⟩)), (9, .slice (some ⟨lb, 0, none⟩) K.length K.length), (10, vi z.k), (12, vi z.u)])
    (fun z => [osl TB vb (some ⟨lb, 0, none⟩) K.length z.L, blk bp (pcs x p) TP]) (fun z => (n - z.u).toNat) ⟨L, k, 0⟩ ⟨by simp, hL, hk, hSL⟩ ?_
  clear hL hk hSL L k
  rintro ⟨L, k, r⟩ ⟨⟨hr0, hr1⟩, hL, hk, hSL⟩
  dsimp only at hr0 hr1 hL hk hSL ⊢
  by_cases hr : r < n
  · refine gg ?_
    refine glp (fun z : EdX => (0 ≤ z.u ∧ z.u ≤ n) ∧ z.L.length = n ∧ z.k = cntB true z.L ∧ (∀ i, S i → gt z.L i = true)) (fun z => [(1, .slice A K.length cc), (4, .pointer (some ⟨bp, 0, none⟩)), (9, .slice (some ⟨lb, 0, none⟩) K.length K.length), (10, vi z.k), (12, vi r), (13, vi z.u)])
      (fun z => [osl TB vb (some ⟨lb, 0, none⟩) K.length z.L, blk bp (pcs x p) TP]) (fun z => (n - z.u).toNat) ⟨L, k, 0⟩ ⟨by simp, hL, hk, hSL⟩ ?_
    clear hL hk hSL L k
    rintro ⟨L, k, v⟩ ⟨⟨hv0, hv1⟩, hL, hk, hSL⟩
    dsimp only at hv0 hv1 hL hk hSL ⊢
    by_cases hv : v < n
    · have hset : ∀ b : Bool, ∀ i : Int, 0 ≤ i → gt (L.set v.toNat b) i = if i = v then b else gt L i := fun b i i0 => gt_set hv0 (by omega) i0
      have hkb := cntB_le true L
      refine gg ?_
      refine glp (fun z : EdX => (0 ≤ z.u ∧ z.u ≤ n) ∧ (0 ≤ z.k ∧ z.k ≤ z.u) ∧ (S v → ∀ a b : Int, a ≠ b → S a → S b → hasB p v a = true → hasB p v b = true → lt1 a z.u + lt1 b z.u ≤ z.k)) (fun z => [(1, .slice A K.length cc), (4, .pointer (some ⟨bp, 0, none⟩)), (9, .slice (some ⟨lb, 0, none⟩) K.length K.length), (10, vi k), (12, vi r), (13, vi v), (14, vi z.k), (15, vi z.u)])
        (fun z => [osl TB vb (some ⟨lb, 0, none⟩) K.length L, blk bp (pcs x p) TP]) (fun z => (n - z.u).toNat) ⟨[], 0, 0⟩ ⟨by simp, by simp, fun _ a b _ ha hb _ _ => by
          have := (hS a ha).1
          have := (hS b hb).1
          rw [lt1_f (by dsimp only; omega), lt1_f (by dsimp only; omega)]; simp⟩ ?_
      rintro ⟨_, q, u⟩ ⟨⟨hu0, hu1⟩, ⟨hq0, hq1⟩, hcnt⟩
      dsimp only at hu0 hu1 hq0 hq1 hcnt ⊢
      by_cases hu : u < n
      · have inc : ((S v → ¬ (S u ∧ hasB p v u = true)) → S v → ∀ a b : Int, a ≠ b → S a → S b → hasB p v a = true → hasB p v b = true → lt1 a (u + 1) + lt1 b (u + 1) ≤ q) := fun h hsv a b hab ha hb hva hvb => by
          have h0 := hcnt hsv a b hab ha hb hva hvb
          have e1 : a ≠ u := fun e => h hsv (by rw [← e]; exact ⟨ha, hva⟩)
          have e2 : b ≠ u := fun e => h hsv (by rw [← e]; exact ⟨hb, hvb⟩)
          rw [lt1_next e1, lt1_next e2]
          exact h0
        have inc1 : S v → ∀ a b : Int, a ≠ b → S a → S b → hasB p v a = true → hasB p v b = true → lt1 a (u + 1) + lt1 b (u + 1) ≤ q + 1 := fun hsv a b hab ha hb hva hvb => by
          have h0 := hcnt hsv a b hab ha hb hva hvb
          have hat := lt1_at u
          by_cases e1 : a = u
          · have e2 : b ≠ u := fun e => hab (by rw [e1, e])
            rw [e1] at h0 ⊢
            rw [lt1_next e2]
            omega
          · rw [lt1_next e1]
            by_cases e2 : b = u
            · rw [e2] at h0 ⊢
              omega
            · rw [lt1_next e2]
              omega
        cases hLu : gt L u with
        | false =>
          refine gg ?_
          rw [hLu]
          refine gg ?_
          exact gnx (⟨[], q, u + 1⟩ : EdX) ⟨by dsimp only; omega, by dsimp only; omega, inc fun _ h => by rw [hSL u h.1] at hLu; cases hLu⟩ (by dsimp only; omega)
        | true =>
          cases hLv : gt L v with
          | false =>
            refine gg ?_
            rw [hLu]
            refine gg ?_
            rw [hLv]
            refine gg ?_
            exact gnx (⟨[], q, u + 1⟩ : EdX) ⟨by dsimp only; omega, by dsimp only; omega, inc fun h _ => by rw [hSL v h] at hLv; cases hLv⟩ (by dsimp only; omega)
          | true =>
            by_cases hb : HasP p u v
            · refine gg ?_
              rw [hLu]
              refine gg ?_
              rw [hLv]
              refine gg ?_
              refine gc1 (fun w hst => has_c (p := p) (r := u) (x := v) w (op.s.now hst) (op.c.now hst) true (by simp [hm, hb])) (by exact rfl) ?_
              refine gg ?_
              exact gnx (⟨[], q + 1, u + 1⟩ : EdX) ⟨by dsimp only; omega, by dsimp only; omega, inc1⟩ (by dsimp only; omega)
            · refine gg ?_
              rw [hLu]
              refine gg ?_
              rw [hLv]
              refine gg ?_
              refine gc1 (fun w hst => has_c (p := p) (r := u) (x := v) w (op.s.now hst) (op.c.now hst) false (by simp [hb])) (by exact rfl) ?_
              refine gg ?_
              exact gnx (⟨[], q, u + 1⟩ : EdX) ⟨by dsimp only; omega, by dsimp only; omega, inc fun _ h => hb (hasB_iff.1 (hev _ _ h.2))⟩ (by dsimp only; omega)
      obtain rfl : u = n := by omega
      have htwo : S v → 2 ≤ q := fun hsv => by
        obtain ⟨a, b, h1, h2, h3, h4, h5⟩ := hcore v hsv
        have h0 := hcnt hsv a b h1 h2 h3 h4 h5
        rw [lt1_t (hS a h2).1.2, lt1_t (hS b h3).1.2] at h0
        omega
      cases hLv : gt L v with
      | false =>
        refine gg ?_
        rw [hLv]
        refine gg ?_
        exact gnx (⟨L, k, v + 1⟩ : EdX) ⟨by dsimp only; omega, hL, hk, hSL⟩ (by dsimp only; omega)
      | true =>
        by_cases hq2 : q < 2
        · have hdec := cntB_dec hv0 (by omega) hLv
          refine gg ?_
          rw [hLv]
          refine gg ?_
          exact gnx (⟨L.set v.toNat false, k - 1, v + 1⟩ : EdX) ⟨by dsimp only; omega, by rw [List.length_set]; exact hL, by dsimp only; omega, fun i hi => by
            rw [hset _ i (hS i hi).1.1]
            by_cases e : i = v
            · rw [e] at hi; have := htwo hi; omega
            · rw [if_neg e]; exact hSL i hi⟩ (by dsimp only; omega)
        · refine gg ?_
          rw [hLv]
          refine gg ?_
          exact gnx (⟨L, k, v + 1⟩ : EdX) ⟨by dsimp only; omega, hL, hk, hSL⟩ (by dsimp only; omega)
    obtain rfl : v = n := by omega
    refine gg ?_
    exact gnx (⟨L, k, r + 1⟩ : EdX) ⟨by dsimp only; omega, hL, hk, hSL⟩ (by dsimp only; omega)
  obtain rfl : r = n := by omega
  have h3 : 3 ≤ cntB true L := by
    obtain ⟨a, b, h1, h2, h3, h4, h5⟩ := hcore x0 hx0
    have e0 := (hS x0 hx0).1
    have ea := (hS a h2).1
    have eb := (hS b h3).1
    exact cntB_three e0.1 (by omega) ea.1 (by omega) eb.1 (by omega) (fun e => by rw [← e, hirr] at h4; cases h4) (fun e => by rw [← e, hirr] at h5; cases h5) h1 (hSL _ hx0) (hSL _ h2) (hSL _ h3)
  refine gg ?_
  exact grt () trivial
end
section
variable {p : Pat} {x : PA} {kd : Int} {A : Option Addr} {c : Nat} {l : List Int}
theorem lines_c (w : World) (b : Bool) (hb : b = true ↔ kd = 2 ∨ kd = 3) : Calls Try.prog 37 [vi kd].toArray w (one (.bool b) w) := by
  refine calls_wc [] [] [.tmp 2] (fun _ => [.bool b]) Try.func37 rfl rfl (fun _ => rfl) Try.ntmps37 rfl (Own.nil w) rfl ?_
  by_cases h2 : kd = 2
  · obtain rfl : b = true := hb.2 (.inl h2)
    refine gg ?_
    exact grt () trivial
  · by_cases h3 : kd = 3
    · obtain rfl : b = true := hb.2 (.inr h3)
      refine gg ?_
      exact grt () trivial
    · obtain rfl : b = false := by
        cases b with
        | false => rfl
        | true => have := hb.1 rfl; omega
      refine gg ?_
      exact grt () trivial
theorem lawColourShown_c (w : World) (hp : RdP w x p) (hA : Rds vi w A c l) (hl3 : l.length ≤ 17592186043904) :
    Calls Try.prog 9 [vi kd, pvl x p, .slice A l.length c].toArray w (one (.bool true) w) := by
  have op := hp.old
  have oA := hA.old
  have hb : ∀ (w : World), RdP w x p → Rds vi w A c l → _ := fun w h1 h2 => fault_c (p := p) (kd := kd) (l := l) (x := x) (A := A) (c := c) w h1 h2 hl3
  have hf : ∀ (w : World), RdP w x p → Rds vi w A c l → _ := fun w h1 h2 => check_c (p := p) (kd := kd) (l := l) (x := x) (A := A) (c := c) w h1 h2 hl3
  have hck : ∀ xs : List Int, _ → _ → _ := fun xs h1 h2 => ckA_of (kd := kd) (p := p) (l := l) (xs := xs) h1 h2
  have hed : ∀ w, RdP w x p → Rds vi w A c l → ∀ (hm : May p) (hsq : p.rows = p.width) (hev : ∀ a b, hasB p a b = true → hasB p b a = true) (hirr : ∀ u, hasB p u u = false) (hl : (l.length : Int) = p.rows) (a b : Int), ¬ NoCore (hasB p) l.length l a b → Calls Try.prog 41 [pvl x p, .slice A l.length c, vi a, vi b].toArray w (one (.bool true) w) := fun w h1 h2 hm hsq hev hirr hl a b hc => edges_c w h1 hm hl.symm hsq hev hirr h2 rfl hc
  unfold pvl patV at *
  refine calls_wc [] [] [.tmp 6] (fun _ => [.bool true]) Try.func9 rfl rfl (fun _ => rfl) Try.ntmps9 rfl (Own.nil w) rfl ?_
  refine gg ?_
  refine wl_op (ok_box rfl rfl rfl rfl rfl ?_); intro bp
  refine gg ?_
  refine gc1 (fun w hst => alive_c w) (by exact rfl) ?_
  refine gg ?_
  refine gc3 [] (fun w hst hst1 => hb w (op.now hst) (oA.now hst)) (by exact rfl) ?_
  (repeat (first | refine gk1 ?_ | refine gk2 ?_ | refine gk3 ?_ | refine gk0 ?_ | refine gk4 ?_))
  rintro ⟨B, d, xs⟩ ⟨hz1, hz2⟩
  dsimp only [List.cons_append, List.nil_append] at hz1 hz2 ⊢
  obtain ⟨k1, k2, k3⟩ := hck xs hz1 hz2
  refine gg ?_
  refine gc1 (fun w hst => num_c _ w) (by exact rfl) ?_
  refine gg ?_
  by_cases he : faE kd p l = 0
  rotate_left
  · have hx := hz2 he
    have hxl : xs.length = 0 := by rw [hx]; rfl
    have e3 := k3 he
    refine gg ?_
    refine gc1 (fun w hst => hf w (op.now hst) (oA.now hst)) (by exact rfl) ?_
    refine gg ?_
    exact grt () trivial
  by_cases hx : xs = []
  · have hxl : xs.length = 0 := by rw [hx]; rfl
    have e3 := k2 he hx
    refine gg ?_
    refine gc1 (fun w hst => hf w (op.now hst) (oA.now hst)) (by exact rfl) ?_
    refine gg ?_
    exact grt () trivial
  have e3 := k1 he hx
  have hxl : 0 < xs.length := List.length_pos_iff.2 hx
  have ht : thE kd p = 0 := by
    unfold faE at he
    by_cases ht : thE kd p = 0
    · exact ht
    · rw [if_pos ht] at he; exact he
  have hcol : ColOK (thN kd p) l := by
    unfold faE at he
    rw [if_neg (not_not_intro ht)] at he
    unfold ftE at he
    by_cases h : ColOK (thN kd p) l
    · exact h
    · rw [if_neg h] at he; cases he
  obtain ⟨hm, hkd⟩ := thE_zero ht
  obtain ⟨g1, g2, g3⟩ := gr_gr ht
  have h0 := g1.1.1.toHead.r0
  have hll : l.length = (gr kd p).rows.toNat := by have := hcol.1; omega
  have hin : ∀ x y, hasB (gr kd p) x y = true → (0 ≤ x ∧ x < (l.length : Int)) ∧ 0 ≤ y ∧ y < (l.length : Int) := fun x y h => by
    have := (hasB_iff.1 h).in_ g1.1.1
    have := g1.1.2.1
    omega
  have hev : ∀ a b, hasB (gr kd p) a b = true → hasB (gr kd p) b a = true := fun a b h => by rw [← g1.sym]; exact h
  have hirr := g1.irr
  have hfa := hz1 he
  rw [← hll] at hfa
  have hcm := hcol.2
  have hmax : l.length ≤ 128 := by have := g1.1.1.toHead.r1; omega
  refine gg ?_
  refine gc1 (fun w hst => hf w (op.now hst) (oA.now hst)) (by exact rfl) ?_
  refine gg ?_
  rw [e3]
  refine gc1 (fun w hst => num_c _ w) (by exact rfl) ?_
  refine gg ?_
  rcases hfa with ⟨a1, a2, a3, a4⟩ | ⟨u, v, u0, uv, vn, hb', he', hno, hxx⟩
  · have hpr := noAl_proper hev hin hirr a1
    have hk45 : kd = 4 ∨ kd = 5 := by
      by_cases e4 : kd = 4
      · exact .inl e4
      · by_cases e5 : kd = 5
        · exact .inr e5
        · exact (hx (a2 e4 e5)).elim
    have e : gr kd p = p := by unfold gr; rw [if_neg (by omega), if_neg (by omega)]
    rw [e] at hin hev hirr a1 a3 a4 hpr g1 hll
    rcases hk45 with rfl | rfl
    · rcases a3 rfl with ⟨h, _⟩ | ⟨a, b, e, f, hxe, hpa, _⟩
      · exact (hx h).elim
      have hx4 : xs.length = 4 := by rw [hxe]; rfl
      have i0 : a = gt xs 0 := by rw [hxe]; rfl
      have i1 : b = gt xs 1 := by rw [hxe]; rfl
      have i2 : e = gt xs 2 := by rw [hxe]; rfl
      have i3 : f = gt xs 3 := by rw [hxe]; rfl
      rw [i0, i1, i2, i3] at hpa
      obtain ⟨pab, pbc, pcd, pca, pdb, pad, pkc, pkd⟩ := hpa
      have r1 := hin _ _ pab
      have r2 := hin _ _ pbc
      have r3 := hin _ _ pcd
      have q1 := hasB_iff.1 pab
      have q2 := hasB_iff.1 pbc
      have q3 := hasB_iff.1 pcd
      refine gg ?_
      refine wc_quiet mixed (by kernel_rfl) ?_
      refine gg ?_
      refine wc_quiet mixed (by kernel_rfl) ?_
      refine gg ?_
      refine gc2 (fun w hst => has_c (p := p) (r := gt xs 0) (x := gt xs 1) w (op.s.now hst) (op.c.now hst) true (by simp [hm, q1])) (by exact rfl) ?_
      refine gg ?_
      refine gc2 (fun w hst => has_c (p := p) (r := gt xs 1) (x := gt xs 2) w (op.s.now hst) (op.c.now hst) true (by simp [hm, q2])) (by exact rfl) ?_
      refine gg ?_
      refine gc2 (fun w hst => has_c (p := p) (r := gt xs 2) (x := gt xs 3) w (op.s.now hst) (op.c.now hst) true (by simp [hm, q3])) (by exact rfl) ?_
      refine gg ?_
      exact grt () trivial
    · rcases a4 rfl with ⟨h, _⟩ | ⟨a, b, hxe, hle, hnc, _⟩
      · exact (hx h).elim
      have hx2 : xs.length = 2 := by rw [hxe]; rfl
      have i0 : a = gt xs 0 := by rw [hxe]; rfl
      have i1 : b = gt xs 1 := by rw [hxe]; rfl
      rw [i0, i1] at hle hnc
      have hcore := hnc
      unfold NoCore at hcore
      rw [Classical.not_not] at hcore
      obtain ⟨S, ⟨s, hs⟩, hS, hco⟩ := hcore
      obtain ⟨t, _, _, ht1, _, ht2, _⟩ := hco s hs
      have e1 := hpr _ _ ht2
      have e2 := hS s hs
      have e4 := hS t ht1
      have c1 := hcm s e2.1.1 e2.1.2
      have c2 := hcm t e4.1.1 e4.1.2
      have hlt : gt xs 0 < gt xs 1 := by omega
      have h00 : 0 ≤ gt xs 0 := by omega
      have hgo : ∀ w, RdP w x p → Rds vi w A c l → _ := fun w h1 h2 => hed w h1 h2 hm g1.1.2.1 hev hirr (by omega) (gt xs 0) (gt xs 1) hnc
      by_cases hdn : gt xs 1 < l.length
      · by_cases hh : HasP p (gt xs 0) (gt xs 1)
        · have hne := hpr _ _ (hasB_iff.2 hh)
          refine gg ?_
          refine gc1 (fun w hst => lines_c (kd := 5) w false (by simp)) (by exact rfl) ?_
          refine gg ?_
          refine wc_quiet mixed (by kernel_rfl) ?_
          refine gg ?_
          refine gc2 (fun w hst => has_c (p := p) (r := gt xs 0) (x := gt xs 1) w (op.s.now hst) (op.c.now hst) true (by simp [hm, hh])) (by exact rfl) ?_
          refine gg ?_
          refine wc_quiet mixed (by kernel_rfl) ?_
          refine gg ?_
          refine gc2 (fun w hst => hgo w (op.now hst) (oA.now hst)) (by exact rfl) ?_
          refine gg ?_
          exact grt () trivial
        · refine gg ?_
          refine gc1 (fun w hst => lines_c (kd := 5) w false (by simp)) (by exact rfl) ?_
          refine gg ?_
          refine wc_quiet mixed (by kernel_rfl) ?_
          refine gg ?_
          refine gc2 (fun w hst => has_c (p := p) (r := gt xs 0) (x := gt xs 1) w (op.s.now hst) (op.c.now hst) false (by simp [hh])) (by exact rfl) ?_
          refine gg ?_
          refine wc_quiet mixed (by kernel_rfl) ?_
          refine gg ?_
          refine gc2 (fun w hst => hgo w (op.now hst) (oA.now hst)) (by exact rfl) ?_
          refine gg ?_
          exact grt () trivial
      · refine gg ?_
        refine gc1 (fun w hst => lines_c (kd := 5) w false (by simp)) (by exact rfl) ?_
        refine gg ?_
        refine wc_quiet mixed (by kernel_rfl) ?_
        refine gg ?_
        refine wc_quiet mixed (by kernel_rfl) ?_
        refine gg ?_
        refine gc2 (fun w hst => hgo w (op.now hst) (oA.now hst)) (by exact rfl) ?_
        refine gg ?_
        exact grt () trivial
  · obtain ⟨mf2, mf3⟩ := meet_facts ht
    rcases hxx with ⟨hk, hxe⟩ | ⟨rfl, k, hxe, hmt⟩ | ⟨rfl, k, hxe, hmt⟩
    · have e : gr kd p = p := by unfold gr; rw [if_neg (by omega), if_neg (by omega)]
      rw [e] at hb'
      have hx2 : xs.length = 2 := by rw [hxe]; rfl
      have i0 : u = gt xs 0 := by rw [hxe]; rfl
      have i1 : v = gt xs 1 := by rw [hxe]; rfl
      rw [i0, i1] at hb' he'
      rw [i0] at u0 uv
      rw [i1] at uv vn
      have q1 := hasB_iff.1 hb'
      have k23 : ¬ (kd = 2 ∨ kd = 3) := by omega
      refine gg ?_
      refine gc1 (fun w hst => lines_c (kd := kd) w false (by simp [k23])) (by exact rfl) ?_
      refine gg ?_
      refine wc_quiet mixed (by kernel_rfl) ?_
      refine gg ?_
      refine gc2 (fun w hst => has_c (p := p) (r := gt xs 0) (x := gt xs 1) w (op.s.now hst) (op.c.now hst) true (by simp [hm, q1])) (by exact rfl) ?_
      refine gg ?_
      exact grt () trivial
    · have hx3 : xs.length = 3 := by rw [hxe]; rfl
      have i0 : u = gt xs 0 := by rw [hxe]; rfl
      have i1 : v = gt xs 1 := by rw [hxe]; rfl
      have i2 : k = gt xs 2 := by rw [hxe]; rfl
      obtain ⟨q1, q2, _⟩ := hmt (mf2 rfl u v hb')
      rw [i0, i1] at he'
      rw [i0] at u0 uv
      rw [i1] at uv vn
      rw [i2, i0] at q1
      rw [i2, i1] at q2
      refine gg ?_
      refine gc1 (fun w hst => lines_c (kd := 2) w true (by simp)) (by exact rfl) ?_
      refine gg ?_
      refine wc_quiet mixed (by kernel_rfl) ?_
      refine gg ?_
      refine wc_quiet mixed (by kernel_rfl) ?_
      refine gg ?_
      refine gc1 (fun w hst => has_c (p := p) (r := gt xs 2) (x := gt xs 0) w (op.s.now hst) (op.c.now hst) true (by simp [hm, q1])) (by exact rfl) ?_
      refine gg ?_
      refine gc1 (fun w hst => has_c (p := p) (r := gt xs 2) (x := gt xs 1) w (op.s.now hst) (op.c.now hst) true (by simp [hm, q2])) (by exact rfl) ?_
      refine gg ?_
      exact grt () trivial
    · have hx3 : xs.length = 3 := by rw [hxe]; rfl
      have i0 : u = gt xs 0 := by rw [hxe]; rfl
      have i1 : v = gt xs 1 := by rw [hxe]; rfl
      have i2 : k = gt xs 2 := by rw [hxe]; rfl
      obtain ⟨q1, q2, _⟩ := hmt (mf3 rfl u v hb')
      have q1 := (has_turn hm).1 q1
      have q2 := (has_turn hm).1 q2
      rw [i0, i1] at he'
      rw [i0] at u0 uv
      rw [i1] at uv vn
      rw [i2, i0] at q1
      rw [i2, i1] at q2
      refine gg ?_
      refine gc1 (fun w hst => lines_c (kd := 3) w true (by simp)) (by exact rfl) ?_
      refine gg ?_
      refine wc_quiet mixed (by kernel_rfl) ?_
      refine gg ?_
      refine wc_quiet mixed (by kernel_rfl) ?_
      refine gg ?_
      refine gc1 (fun w hst => has_c (p := p) (r := gt xs 0) (x := gt xs 2) w (op.s.now hst) (op.c.now hst) true (by simp [hm, q1])) (by exact rfl) ?_
      refine gg ?_
      refine gc1 (fun w hst => has_c (p := p) (r := gt xs 1) (x := gt xs 2) w (op.s.now hst) (op.c.now hst) true (by simp [hm, q2])) (by exact rfl) ?_
      refine gg ?_
      exact grt () trivial
end
end Go.Proofs.Ytoiiellaoikojaa
