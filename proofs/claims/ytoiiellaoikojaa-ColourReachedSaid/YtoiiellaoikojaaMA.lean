/- Plain: how many are near. Walks: colours: Bound. Walks: colours: the reference's Bound. -/
import Derived.Test.YtoiiellaoikojaaKC
set_option linter.unusedVariables false
set_option linter.unusedSimpArgs false
set_option maxHeartbeats 8000000
namespace Go.Proofs.Ytoiiellaoikojaa
open Go.RowKit
theorem cntQ_congr {Q R : Int → Prop} {n : Nat} (h : ∀ u : Int, 0 ≤ u → u < n → (Q u ↔ R u)) : cntQ Q n = cntQ R n :=
  Nat.le_antisymm (cntQ_le fun u u0 u1 => (h u u0 u1).1) (cntQ_le fun u u0 u1 => (h u u0 u1).2)
theorem cntQ_ins {Q Q' : Int → Prop} {a : Int} (a0 : 0 ≤ a) (hn : ¬ Q a) (h : ∀ x, Q' x ↔ Q x ∨ x = a) : ∀ n : Nat, cntQ Q' n = cntQ Q n + (if a < n then 1 else 0)
  | 0 => by rw [if_neg (by omega)]; rfl
  | n + 1 => by
    have ih := cntQ_ins a0 hn h n
    unfold cntQ
    rw [ih]
    by_cases e : (n : Int) = a
    · rw [if_neg (by omega), if_pos ((h _).2 (.inr e)), if_neg (by rw [e]; exact hn), if_pos (by omega)]
    · by_cases hq : Q n
      · rw [if_pos ((h _).2 (.inl hq)), if_pos hq]
        by_cases hlt : a < n
        · rw [if_pos hlt, if_pos (by omega)]; try omega
        · rw [if_neg hlt, if_neg (by omega)]; try omega
      · rw [if_neg (fun h2 => ((h _).1 h2).elim hq e), if_neg hq]
        by_cases hlt : a < n
        · rw [if_pos hlt, if_pos (by omega)]; try omega
        · rw [if_neg hlt, if_neg (by omega)]; try omega
theorem cntQ_succ (Q : Int → Prop) (i : Nat) : (Q i → cntQ Q (i + 1) = cntQ Q i + 1) ∧ (¬ Q i → cntQ Q (i + 1) = cntQ Q i) := by
  constructor
  · intro hq
    show cntQ Q i + _ = _
    rw [if_pos hq]
  · intro hq
    show cntQ Q i + _ = _
    rw [if_neg hq]
    rfl
/-- x stands ahead of place j, and is near what stands there -/
def NearP (kd : Int) (g : Int → Int → Bool) (l : List Int) (j x : Int) : Prop := (∃ i : Int, 0 ≤ i ∧ i < j ∧ gt l i = x) ∧ (g (gt l j) x = true ∨ ((kd = 4 ∨ kd = 5) ∧ ∃ m : Int, 0 ≤ m ∧ m < j ∧ g (gt l j) (gt l m) = true ∧ g (gt l m) x = true))
noncomputable def nearN (kd : Int) (g : Int → Int → Bool) (n : Nat) (l : List Int) (j : Int) : Nat := cntQ (NearP kd g l j) n
noncomputable def bndTo (kd : Int) (g : Int → Int → Bool) (n : Nat) (l : List Int) : Nat → Int
  | 0 => 0
  | j + 1 => max (bndTo kd g n l j) (nearN kd g n l j + 1)
theorem bndTo_rng (kd : Int) (g : Int → Int → Bool) (n : Nat) (l : List Int) : ∀ j, 0 ≤ bndTo kd g n l j ∧ bndTo kd g n l j ≤ n + 1
  | 0 => ⟨Int.le_refl _, by show (0 : Int) ≤ _; omega⟩
  | j + 1 => by
    have h1 := bndTo_rng kd g n l j
    have h2 := cntQ_max (NearP kd g l j) n
    show 0 ≤ max (bndTo kd g n l j) ((nearN kd g n l j : Int) + 1) ∧ max (bndTo kd g n l j) ((nearN kd g n l j : Int) + 1) ≤ n + 1
    unfold nearN
    omega
theorem bndTo_next {kd : Int} {g : Int → Int → Bool} {n : Nat} {l : List Int} {j : Int} (h : 0 ≤ j) : bndTo kd g n l (j + 1).toNat = max (bndTo kd g n l j.toNat) (nearN kd g n l j + 1) := by
  rw [show (j + 1).toNat = j.toNat + 1 by omega]
  show max (bndTo kd g n l j.toNat) ((nearN kd g n l (j.toNat : Int) : Int) + 1) = _
  rw [show ((j.toNat : Nat) : Int) = j by omega]
/-- counted along the order -/
theorem near_idx {kd : Int} {g : Int → Int → Bool} {n : Nat} {l : List Int} {j : Int} (ho : IsOrd l n) (j0 : 0 ≤ j) (j1 : j < n) : ∀ i : Nat, (i : Int) ≤ j →
    cntQ (fun q => NearP kd g l j (gt l q)) i = cntQ (fun x => (∃ q : Int, 0 ≤ q ∧ q < i ∧ gt l q = x) ∧ NearP kd g l j x) n
  | 0, h => by
    have : cntQ (fun x => (∃ q : Int, 0 ≤ q ∧ q < ((0 : Nat) : Int) ∧ gt l q = x) ∧ NearP kd g l j x) n = cntQ (fun _ => False) n := cntQ_congr fun u _ _ => ⟨fun ⟨⟨q, q0, q1, _⟩, _⟩ => by omega, fun h => h.elim⟩
    rw [this]
    have z : ∀ m, cntQ (fun _ => False) m = 0 := by
      intro m
      induction m with
      | zero => rfl
      | succ m ih => unfold cntQ; rw [ih, if_neg id]
    rw [z]; rfl
  | i + 1, h => by
    have ih := near_idx (kd := kd) (g := g) (l := l) ho j0 j1 i (by omega)
    have hi := ho.rng i (by omega) (by omega)
    have hsucc := cntQ_succ (fun q => NearP kd g l j (gt l q)) i
    have hnot : ¬ ((∃ q : Int, 0 ≤ q ∧ q < (i : Int) ∧ gt l q = gt l i) ∧ NearP kd g l j (gt l i)) := fun ⟨⟨q, q0, q1, e⟩, _⟩ => by
      have := ho.inj q i q0 (by omega) (by omega) (by omega) e
      omega
    by_cases hP : NearP kd g l j (gt l i)
    · rw [hsucc.1 hP, ih]
      have := cntQ_ins (Q := fun x => (∃ q : Int, 0 ≤ q ∧ q < (i : Int) ∧ gt l q = x) ∧ NearP kd g l j x) (Q' := fun x => (∃ q : Int, 0 ≤ q ∧ q < ((i + 1 : Nat) : Int) ∧ gt l q = x) ∧ NearP kd g l j x) hi.1 hnot (fun x => by
        constructor
        · rintro ⟨⟨q, q0, q1, e⟩, hx⟩
          by_cases e2 : q = i
          · rw [e2] at e; exact .inr e.symm
          · exact .inl ⟨⟨q, q0, by omega, e⟩, hx⟩
        · rintro (⟨⟨q, q0, q1, e⟩, hx⟩ | rfl)
          · exact ⟨⟨q, q0, by omega, e⟩, hx⟩
          · exact ⟨⟨i, by omega, by omega, rfl⟩, hP⟩) n
      rw [this, if_pos (by omega)]
    · rw [hsucc.2 hP, ih]
      refine cntQ_congr fun x _ _ => ⟨fun ⟨⟨q, q0, q1, e⟩, hx⟩ => ⟨⟨q, q0, by omega, e⟩, hx⟩, fun ⟨⟨q, q0, q1, e⟩, hx⟩ => ⟨⟨q, q0, ?_, e⟩, hx⟩⟩
      by_cases e2 : q = i
      · rw [e2] at e; rw [← e] at hx; exact (hP hx).elim
      · omega
theorem near_all {kd : Int} {g : Int → Int → Bool} {n : Nat} {l : List Int} {j : Int} (ho : IsOrd l n) (j0 : 0 ≤ j) (j1 : j < n) : cntQ (fun q => NearP kd g l j (gt l q)) j.toNat = nearN kd g n l j := by
  rw [near_idx ho j0 j1 j.toNat (by omega)]
  refine cntQ_congr fun x _ _ => ⟨fun h => h.2, fun h => ⟨?_, h⟩⟩
  obtain ⟨⟨q, q0, q1, e⟩, _⟩ := h
  exact ⟨q, q0, by omega, e⟩
theorem cntQ_next (Q : Int → Prop) {k : Int} (h : 0 ≤ k) : (Q k → cntQ Q (k + 1).toNat = cntQ Q k.toNat + 1) ∧ (¬ Q k → cntQ Q (k + 1).toNat = cntQ Q k.toNat) := by
  rw [show (k + 1).toNat = k.toNat + 1 by omega]
  constructor
  · intro hq
    show cntQ Q k.toNat + _ = _
    rw [if_pos (by rw [show ((k.toNat : Nat) : Int) = k by omega]; exact hq)]
  · intro hq
    show cntQ Q k.toNat + _ = _
    rw [if_neg (by rw [show ((k.toNat : Nat) : Int) = k by omega]; exact hq)]
    rfl
structure BlI (n : Nat) (L : List Bool) (S : Int → Prop) : Prop where
  len : L.length = n
  at_ : ∀ x : Int, 0 ≤ x → x < n → (gt L x = true ↔ S x)
theorem BlI.zero {n : Nat} : BlI n (List.replicate n false) (fun _ => False) := ⟨by simp, fun x x0 x1 => by rw [gt_elem x0 (by simpa using x1)]; simp⟩
theorem BlI.congr {n : Nat} {L : List Bool} {S S' : Int → Prop} (h : BlI n L S) (e : ∀ x : Int, 0 ≤ x → x < n → (S x ↔ S' x)) : BlI n L S' := ⟨h.len, fun x x0 x1 => (h.at_ x x0 x1).trans (e x x0 x1)⟩
theorem BlI.put {n : Nat} {L : List Bool} {S S' : Int → Prop} {a : Int} (h : BlI n L S) (a0 : 0 ≤ a) (a1 : a < n) (e : ∀ x : Int, 0 ≤ x → x < n → (S' x ↔ S x ∨ x = a)) : BlI n (L.set a.toNat true) S' := by
  have hl := h.len
  refine ⟨by rw [List.length_set]; exact hl, fun x x0 x1 => ?_⟩
  rw [gt_set a0 (by omega) x0, e x x0 x1]
  by_cases ex : x = a
  · rw [if_pos ex]; exact ⟨fun _ => .inr ex, fun _ => rfl⟩
  · rw [if_neg ex, h.at_ x x0 x1]; exact ⟨.inl, fun h => h.resolve_right ex⟩
/-- what the first i beside v make near -/
def nrTo (kd : Int) (g : Pat) (cah : List Bool) (v i x : Int) : Prop := ∃ q : Int, 0 ≤ q ∧ q < i ∧ gt cah (gt (rowL g v) q) = true ∧ (x = gt (rowL g v) q ∨ ((kd = 4 ∨ kd = 5) ∧ gt cah x = true ∧ hasB g (gt (rowL g v) q) x = true))
open Classical in
theorem nrTo_next {kd : Int} {g : Pat} {cah : List Bool} {v i x : Int} (h : 0 ≤ i) : nrTo kd g cah v (i + 1) x ↔ (if gt cah (gt (rowL g v) i) = true then (if kd = 4 ∨ kd = 5 then nrTo kd g cah v i x ∨ x = gt (rowL g v) i ∨ (gt cah x = true ∧ hasB g (gt (rowL g v) i) x = true) else nrTo kd g cah v i x ∨ x = gt (rowL g v) i) else nrTo kd g cah v i x) := by
  have old : nrTo kd g cah v i x → nrTo kd g cah v (i + 1) x := fun ⟨q, a, b, d⟩ => ⟨q, a, by omega, d⟩
  have cas : nrTo kd g cah v (i + 1) x → nrTo kd g cah v i x ∨ (gt cah (gt (rowL g v) i) = true ∧ (x = gt (rowL g v) i ∨ ((kd = 4 ∨ kd = 5) ∧ gt cah x = true ∧ hasB g (gt (rowL g v) i) x = true))) := fun ⟨q, a, b, d⟩ => by
    by_cases e : q = i
    · rw [e] at d; exact .inr d
    · exact .inl ⟨q, a, by omega, d⟩
  split
  · rename_i h1
    split
    · rename_i h2
      constructor
      · intro hx
        rcases cas hx with hx | ⟨_, hx | hx⟩
        · exact .inl hx
        · exact .inr (.inl hx)
        · exact .inr (.inr hx.2)
      · rintro (hx | hx | hx)
        · exact old hx
        · exact ⟨i, h, by omega, h1, .inl hx⟩
        · exact ⟨i, h, by omega, h1, .inr ⟨h2, hx⟩⟩
    · rename_i h2
      constructor
      · intro hx
        rcases cas hx with hx | ⟨_, hx | hx⟩
        · exact .inl hx
        · exact .inr hx
        · exact (h2 hx.1).elim
      · rintro (hx | hx)
        · exact old hx
        · exact ⟨i, h, by omega, h1, .inl hx⟩
  · rename_i h1
    constructor
    · intro hx
      rcases cas hx with hx | ⟨hx, _⟩
      · exact hx
      · exact (h1 hx).elim
    · exact old
structure BdX where
  k : Int
  NR : List Bool
structure BoX where
  k : Int
  most : Int
  ah : List Bool
section
variable {p g : Pat} {x : PA} {kd : Int} {A : Option Addr} {c n : Nat} {l : List Int} {R : TX → List Res} {yf : TX → PA}
theorem bound_ok (w : World) (hm : May g) (hn : g.rows = n) (hsq : g.rows = g.width) (hl : Rds vi w A c l) (ho : IsOrd l n)
    (hord : ∀ w', Only [] w w' → Calls Try.prog 60 [vi kd, pvl x p, .slice A l.length c].toArray w' (Ret [] (fun t : TX => .tuple #[.pointer (some ⟨t.tb, 0, none⟩), vi 0]) (ThR R yf kd g) (fun _ => True) w')) (hrd : ∀ t, RdB w [] (R t) (yf t) g) :
    Calls Try.prog 28 [vi kd, pvl x p, .slice A l.length c].toArray w (one (.tuple #[vi (bndTo kd (hasB g) n l n), vi 0]) w) := by
  have HG := hm.toHead
  have hn2 := HG.r1
  have hn0 := HG.r0
  have oL := hl.old
  have hll := ho.len
  unfold pvl patV at *
  refine calls_wc [] [] [.tmp 6, .tmp 7] (fun _ => [vi (bndTo kd (hasB g) n l n), vi 0]) Try.func28 rfl rfl (fun _ => rfl) Try.ntmps28 rfl (Own.nil w) rfl ?_
  refine gg ?_
  refine wl_op (ok_box rfl rfl rfl rfl rfl ?_); intro bp
  refine gg ?_
  refine gc3 [] (fun w hst hst1 => hord w hst1.only) (by exact rfl) ?_
  (repeat (first | refine gk1 ?_ | refine gk2 ?_ | refine gk3 ?_ | refine gk0 ?_ | refine gk4 ?_))
  rintro ⟨tb, NA, nc, y⟩ _
  dsimp only [List.cons_append, List.nil_append]
  generalize hRy : R ⟨tb, NA, nc, y⟩ = RR
  have hrd' := hrd ⟨tb, NA, nc, y⟩
  rw [hRy] at hrd'
  generalize yf ⟨tb, NA, nc, y⟩ = yy at hrd'
  have hnl := nearTo_len yy g (k := g.rows) hn0
  by_cases hz : n = 0
  · have hz2 : g.rows = 0 := by omega
    rw [hz]
    refine gg ?_
    exact grt () trivial
  have rowR : ∀ {a : Int}, 0 ≤ a → a < n → ∀ {w' : World} {σ : List Res}, St w [] σ w' → HasR σ (bun RR) → Rds vi w' (rowB yy g a) (rowL g a).length (rowL g a) := fun a0 a1 _ _ hst hb => rowL_rd HG a0 (by omega) (hrd'.now hst hb)
  have rowN : ∀ {a : Int}, 0 ≤ a → a < n → ∀ j : Int, 0 ≤ j → j < (rowL g a).length → 0 ≤ gt (rowL g a) j ∧ gt (rowL g a) j < n := fun a0 a1 j j0 j1 => by
    have hb := (rowL_mem hm a0 (by omega)).2 ⟨j, j0, j1, rfl⟩
    have := ((hasB_iff.1 hb).in_ hm).2
    omega
  refine gg ?_
  refine gmk vb false rfl rfl rfl rfl rfl rfl rfl rfl rfl rfl rfl hn0 (Int.le_refl _) (by omega) (by omega) ?_
  intro ab
  rw [show g.rows.toNat = n by omega]
  refine gg ?_
  refine glp (fun s : BoX => 0 ≤ s.k ∧ s.k ≤ n ∧ 0 ≤ s.most ∧ (s.k = 0 → s.most = 0) ∧ (0 < s.k → s.most + 1 = bndTo kd (hasB g) n l s.k.toNat) ∧ BlI n s.ah (fun x => ∃ i : Int, 0 ≤ i ∧ i < s.k ∧ gt l i = x)) (fun s => [(0, vi kd), (8, .pointer (some ⟨tb, 0, none⟩)), (10, .slice (some ⟨ab, 0, none⟩) n n), (11, vi s.most), (44, .slice A l.length c), (45, vi l.length), (46, vi s.k)])
    (fun s => [osl TB vb (some ⟨ab, 0, none⟩) n s.ah, blk tb (thC g.rows NA (nearTo yy g g.rows).length nc kd) TTh, osl TIs sv NA nc (nearTo yy g g.rows), bun RR]) (fun s => (n - s.k).toNat) ⟨0, 0, List.replicate n false⟩ ⟨by simp, by simp, by simp, fun _ => rfl, fun h => by dsimp only at h; omega, BlI.zero.congr fun x _ _ => ⟨fun h => h.elim, fun ⟨i, i0, i1, _⟩ => by dsimp only at i1; omega⟩⟩ ?_
  rintro ⟨j, most, cah⟩ ⟨hj0, hj1, hm0, hmz, hmp, hah⟩
  dsimp only at hj0 hj1 hm0 hmz hmp hah ⊢
  have hal := hah.len
  have hbr := bndTo_rng kd (hasB g) n l j.toNat
  have hmost : most ≤ n := by
    by_cases h : 0 < j
    · have := hmp h; omega
    · have := hmz (by omega); omega
  by_cases hj : j < n
  · have hv := ho.rng j hj0 hj
    refine gg ?_
    generalize hvv : gt l j = v at hv
    have hsv := rowL_small (v := v) hm hv.1 (by omega)
    refine gmk vb false rfl rfl rfl rfl rfl rfl rfl rfl rfl rfl rfl hn0 (Int.le_refl _) (by omega) (by omega) ?_
    intro nb
    rw [show g.rows.toNat = n by omega]
    refine gg ?_
    rw [nearTo_at yy g hv.1 (by omega), rowV_eq HG hv.1 (by omega)]
    dsimp only [sv]
    refine glp (fun s : BdX => 0 ≤ s.k ∧ s.k ≤ (rowL g v).length ∧ BlI n s.NR (nrTo kd g cah v s.k)) (fun s => [(0, vi kd), (8, .pointer (some ⟨tb, 0, none⟩)), (10, .slice (some ⟨ab, 0, none⟩) n n), (11, vi most), (13, vi v), (14, .slice (some ⟨nb, 0, none⟩) n n), (44, .slice A l.length c), (45, vi l.length), (46, vi j), (61, .slice (rowB yy g v) (rowL g v).length (rowL g v).length), (62, vi (rowL g v).length), (63, vi s.k)])
      (fun s => [osl TB vb (some ⟨nb, 0, none⟩) n s.NR, osl TB vb (some ⟨ab, 0, none⟩) n cah, blk tb (thC g.rows NA (nearTo yy g g.rows).length nc kd) TTh, osl TIs sv NA nc (nearTo yy g g.rows), bun RR]) (fun s => ((rowL g v).length - s.k).toNat) ⟨0, List.replicate n false⟩ ⟨by simp, by simp, BlI.zero.congr fun x _ _ => ⟨fun h => h.elim, fun ⟨i, i0, i1, _⟩ => by dsimp only at i1; omega⟩⟩ ?_
    rintro ⟨i, NR⟩ ⟨hi0, hi1, hB⟩
    dsimp only at hi0 hi1 hB ⊢
    have hNl := hB.len
    by_cases hi : i < (rowL g v).length
    · have hx := rowN hv.1 hv.2 i hi0 hi
      refine wc_know (φ := ∃ ad, rowB yy g v = some ad) (fun w hst => (rowR hv.1 hv.2 hst (by (repeat (first | exact .here | refine .there ?_)))).ad_ (by omega)) ?_
      rintro ⟨sa, hsa⟩
      rw [hsa]
      refine gg ?_
      refine wl_v rfl rfl rfl (val_load rfl rfl (ag_of rfl) (fun w hst => by rw [← hsa]; exact (rowR hv.1 hv.2 hst (by (repeat (first | exact .here | refine .there ?_)))).cell hi0 hi)) ?_
      cases hah' : gt cah (gt (rowL g v) i) with
      | false =>
        refine gg ?_
        rw [hah']
        refine gg ?_
        exact gnx (⟨i + 1, NR⟩ : BdX) ⟨by dsimp only; omega, by dsimp only; omega, hB.congr fun x _ _ => by rw [nrTo_next hi0, if_neg (by rw [hah']; simp)]⟩ (by dsimp only; omega)
      | true =>
        refine gg ?_
        rw [hah']
        refine gg ?_
        generalize hxx : gt (rowL g v) i = u at hx hah'
        have hah := hah'
        have hsu := rowL_small (v := u) hm hx.1 (by omega)
        by_cases hk45 : kd = 4 ∨ kd = 5
        · by_cases hk4 : kd = 4
          · refine gg ?_
            rw [nearTo_at yy g hx.1 (by omega), rowV_eq HG hx.1 (by omega)]
            dsimp only [sv]
            refine glp (fun s : BdX => 0 ≤ s.k ∧ s.k ≤ (rowL g u).length ∧ BlI n s.NR (fun x => nrTo kd g cah v i x ∨ x = u ∨ ∃ q : Int, 0 ≤ q ∧ q < s.k ∧ gt (rowL g u) q = x ∧ gt cah x = true)) (fun s => [(0, vi kd), (8, .pointer (some ⟨tb, 0, none⟩)), (10, .slice (some ⟨ab, 0, none⟩) n n), (11, vi most), (13, vi v), (14, .slice (some ⟨nb, 0, none⟩) n n), (44, .slice A l.length c), (45, vi l.length), (46, vi j), (61, .slice (some sa) (rowL g v).length (rowL g v).length), (62, vi (rowL g v).length), (63, vi i), (87, .slice (rowB yy g u) (rowL g u).length (rowL g u).length), (88, vi (rowL g u).length), (89, vi s.k)])
              (fun s => [osl TB vb (some ⟨nb, 0, none⟩) n s.NR, osl TB vb (some ⟨ab, 0, none⟩) n cah, blk tb (thC g.rows NA (nearTo yy g g.rows).length nc kd) TTh, osl TIs sv NA nc (nearTo yy g g.rows), bun RR]) (fun s => ((rowL g u).length - s.k).toNat) ⟨0, NR.set u.toNat true⟩ ⟨by simp, by simp, hB.put hx.1 hx.2 fun x _ _ => ⟨fun h => by
                  rcases h with h | h | ⟨q, q0, q1, _⟩
                  · exact .inl h
                  · exact .inr h
                  · dsimp only at q1; omega, fun h => by
                  rcases h with h | h
                  · exact .inl h
                  · exact .inr (.inl h)⟩⟩ ?_
            rintro ⟨q, NR2⟩ ⟨hq0, hq1, hB2⟩
            dsimp only at hq0 hq1 hB2 ⊢
            have hNl2 := hB2.len
            by_cases hq : q < (rowL g u).length
            · have hy := rowN hx.1 hx.2 q hq0 hq
              refine wc_know (φ := ∃ ad, rowB yy g u = some ad) (fun w hst => (rowR hx.1 hx.2 hst (by (repeat (first | exact .here | refine .there ?_)))).ad_ (by omega)) ?_
              rintro ⟨sb, hsb⟩
              rw [hsb]
              refine gg ?_
              refine wl_v rfl rfl rfl (val_load rfl rfl (ag_of rfl) (fun w hst => by rw [← hsb]; exact (rowR hx.1 hx.2 hst (by (repeat (first | exact .here | refine .there ?_)))).cell hq0 hq)) ?_
              have hstep : BlI n (NR2.set (gt (rowL g u) q).toNat (gt NR2 (gt (rowL g u) q) || gt cah (gt (rowL g u) q))) (fun x => nrTo kd g cah v i x ∨ x = u ∨ ∃ q' : Int, 0 ≤ q' ∧ q' < q + 1 ∧ gt (rowL g u) q' = x ∧ gt cah x = true) := by
                refine ⟨by rw [List.length_set]; exact hNl2, fun x x0 x1 => ?_⟩
                rw [gt_set hy.1 (by omega) x0]
                have h1 := hB2.at_ x x0 x1
                by_cases e : x = gt (rowL g u) q
                · rw [if_pos e, ← e, Bool.or_eq_true, h1]
                  constructor
                  · rintro ((h | h | ⟨q', a, b, d⟩) | h)
                    · exact .inl h
                    · exact .inr (.inl h)
                    · exact .inr (.inr ⟨q', a, by omega, d⟩)
                    · exact .inr (.inr ⟨q, hq0, by omega, e.symm, h⟩)
                  · rintro (h | h | ⟨q', a, b, d1, d2⟩)
                    · exact .inl (.inl h)
                    · exact .inl (.inr (.inl h))
                    · exact .inr d2
                · rw [if_neg e, h1]
                  constructor
                  · rintro (h | h | ⟨q', a, b, d⟩)
                    · exact .inl h
                    · exact .inr (.inl h)
                    · exact .inr (.inr ⟨q', a, by omega, d⟩)
                  · rintro (h | h | ⟨q', a, b, d1, d2⟩)
                    · exact .inl h
                    · exact .inr (.inl h)
                    · refine .inr (.inr ⟨q', a, ?_, d1, d2⟩)
                      by_cases e2 : q' = q
                      · rw [e2] at d1; exact (e d1.symm).elim
                      · omega
              generalize gt (rowL g u) q = xx at hy hstep
              cases hn1 : gt NR2 xx with
              | true =>
                rw [hn1, Bool.true_or] at hstep
                refine gg ?_
                rw [hn1]
                refine gg ?_
                exact gnx (⟨q + 1, NR2.set xx.toNat true⟩ : BdX) ⟨by dsimp only; omega, by dsimp only; omega, hstep⟩ (by dsimp only; omega)
              | false =>
                rw [hn1, Bool.false_or] at hstep
                refine gg ?_
                rw [hn1]
                refine gg ?_
                exact gnx (⟨q + 1, NR2.set xx.toNat (gt cah xx)⟩ : BdX) ⟨by dsimp only; omega, by dsimp only; omega, hstep⟩ (by dsimp only; omega)
            obtain rfl : q = (rowL g u).length := by omega
            refine gg ?_
            exact gnx (⟨i + 1, NR2⟩ : BdX) ⟨by dsimp only; omega, by dsimp only; omega, hB2.congr fun x x0 x1 => by
              rw [nrTo_next hi0, hxx]
              rw [if_pos hah, if_pos hk45]
              refine or_congr_right (or_congr_right ?_)
              rw [rowL_mem hm hx.1 (by omega)]
              exact ⟨fun ⟨q, a, b, d1, d2⟩ => ⟨d2, q, a, b, d1⟩, fun ⟨d2, q, a, b, d1⟩ => ⟨q, a, b, d1, d2⟩⟩⟩ (by dsimp only; omega)
          · have hk5 : kd = 5 := by omega
            refine gg ?_
            rw [nearTo_at yy g hx.1 (by omega), rowV_eq HG hx.1 (by omega)]
            dsimp only [sv]
            refine glp (fun s : BdX => 0 ≤ s.k ∧ s.k ≤ (rowL g u).length ∧ BlI n s.NR (fun x => nrTo kd g cah v i x ∨ x = u ∨ ∃ q : Int, 0 ≤ q ∧ q < s.k ∧ gt (rowL g u) q = x ∧ gt cah x = true)) (fun s => [(0, vi kd), (8, .pointer (some ⟨tb, 0, none⟩)), (10, .slice (some ⟨ab, 0, none⟩) n n), (11, vi most), (13, vi v), (14, .slice (some ⟨nb, 0, none⟩) n n), (44, .slice A l.length c), (45, vi l.length), (46, vi j), (61, .slice (some sa) (rowL g v).length (rowL g v).length), (62, vi (rowL g v).length), (63, vi i), (87, .slice (rowB yy g u) (rowL g u).length (rowL g u).length), (88, vi (rowL g u).length), (89, vi s.k)])
              (fun s => [osl TB vb (some ⟨nb, 0, none⟩) n s.NR, osl TB vb (some ⟨ab, 0, none⟩) n cah, blk tb (thC g.rows NA (nearTo yy g g.rows).length nc kd) TTh, osl TIs sv NA nc (nearTo yy g g.rows), bun RR]) (fun s => ((rowL g u).length - s.k).toNat) ⟨0, NR.set u.toNat true⟩ ⟨by simp, by simp, hB.put hx.1 hx.2 fun x _ _ => ⟨fun h => by
                  rcases h with h | h | ⟨q, q0, q1, _⟩
                  · exact .inl h
                  · exact .inr h
                  · dsimp only at q1; omega, fun h => by
                  rcases h with h | h
                  · exact .inl h
                  · exact .inr (.inl h)⟩⟩ ?_
            rintro ⟨q, NR2⟩ ⟨hq0, hq1, hB2⟩
            dsimp only at hq0 hq1 hB2 ⊢
            have hNl2 := hB2.len
            by_cases hq : q < (rowL g u).length
            · have hy := rowN hx.1 hx.2 q hq0 hq
              refine wc_know (φ := ∃ ad, rowB yy g u = some ad) (fun w hst => (rowR hx.1 hx.2 hst (by (repeat (first | exact .here | refine .there ?_)))).ad_ (by omega)) ?_
              rintro ⟨sb, hsb⟩
              rw [hsb]
              refine gg ?_
              refine wl_v rfl rfl rfl (val_load rfl rfl (ag_of rfl) (fun w hst => by rw [← hsb]; exact (rowR hx.1 hx.2 hst (by (repeat (first | exact .here | refine .there ?_)))).cell hq0 hq)) ?_
              have hstep : BlI n (NR2.set (gt (rowL g u) q).toNat (gt NR2 (gt (rowL g u) q) || gt cah (gt (rowL g u) q))) (fun x => nrTo kd g cah v i x ∨ x = u ∨ ∃ q' : Int, 0 ≤ q' ∧ q' < q + 1 ∧ gt (rowL g u) q' = x ∧ gt cah x = true) := by
                refine ⟨by rw [List.length_set]; exact hNl2, fun x x0 x1 => ?_⟩
                rw [gt_set hy.1 (by omega) x0]
                have h1 := hB2.at_ x x0 x1
                by_cases e : x = gt (rowL g u) q
                · rw [if_pos e, ← e, Bool.or_eq_true, h1]
                  constructor
                  · rintro ((h | h | ⟨q', a, b, d⟩) | h)
                    · exact .inl h
                    · exact .inr (.inl h)
                    · exact .inr (.inr ⟨q', a, by omega, d⟩)
                    · exact .inr (.inr ⟨q, hq0, by omega, e.symm, h⟩)
                  · rintro (h | h | ⟨q', a, b, d1, d2⟩)
                    · exact .inl (.inl h)
                    · exact .inl (.inr (.inl h))
                    · exact .inr d2
                · rw [if_neg e, h1]
                  constructor
                  · rintro (h | h | ⟨q', a, b, d⟩)
                    · exact .inl h
                    · exact .inr (.inl h)
                    · exact .inr (.inr ⟨q', a, by omega, d⟩)
                  · rintro (h | h | ⟨q', a, b, d1, d2⟩)
                    · exact .inl h
                    · exact .inr (.inl h)
                    · refine .inr (.inr ⟨q', a, ?_, d1, d2⟩)
                      by_cases e2 : q' = q
                      · rw [e2] at d1; exact (e d1.symm).elim
                      · omega
              generalize gt (rowL g u) q = xx at hy hstep
              cases hn1 : gt NR2 xx with
              | true =>
                rw [hn1, Bool.true_or] at hstep
                refine gg ?_
                rw [hn1]
                refine gg ?_
                exact gnx (⟨q + 1, NR2.set xx.toNat true⟩ : BdX) ⟨by dsimp only; omega, by dsimp only; omega, hstep⟩ (by dsimp only; omega)
              | false =>
                rw [hn1, Bool.false_or] at hstep
                refine gg ?_
                rw [hn1]
                refine gg ?_
                exact gnx (⟨q + 1, NR2.set xx.toNat (gt cah xx)⟩ : BdX) ⟨by dsimp only; omega, by dsimp only; omega, hstep⟩ (by dsimp only; omega)
            obtain rfl : q = (rowL g u).length := by omega
            refine gg ?_
            exact gnx (⟨i + 1, NR2⟩ : BdX) ⟨by dsimp only; omega, by dsimp only; omega, hB2.congr fun x x0 x1 => by
              rw [nrTo_next hi0, hxx]
              rw [if_pos hah, if_pos hk45]
              refine or_congr_right (or_congr_right ?_)
              rw [rowL_mem hm hx.1 (by omega)]
              exact ⟨fun ⟨q, a, b, d1, d2⟩ => ⟨d2, q, a, b, d1⟩, fun ⟨d2, q, a, b, d1⟩ => ⟨q, a, b, d1, d2⟩⟩⟩ (by dsimp only; omega)
        · have hk4 : kd ≠ 4 := fun h => hk45 (.inl h)
          have hk5 : kd ≠ 5 := fun h => hk45 (.inr h)
          refine gg ?_
          exact gnx (⟨i + 1, NR.set u.toNat true⟩ : BdX) ⟨by dsimp only; omega, by dsimp only; omega, hB.put hx.1 hx.2 fun x _ _ => by rw [nrTo_next hi0, hxx, if_pos hah, if_neg hk45]⟩ (by dsimp only; omega)
    obtain rfl : i = (rowL g v).length := by omega
    have hfin : ∀ x : Int, 0 ≤ x → x < n → (gt NR x = true ↔ NearP kd (hasB g) l j x) := fun x x0 x1 => by
      rw [hB.at_ x x0 x1]
      unfold NearP
      rw [hvv]
      constructor
      · rintro ⟨q, q0, q1, h1, h2⟩
        have hq := rowN hv.1 hv.2 q q0 q1
        have hgu := (rowL_mem hm hv.1 (by omega)).2 ⟨q, q0, q1, rfl⟩
        have hau := (hah.at_ _ hq.1 hq.2).1 h1
        rcases h2 with h2 | ⟨h3, h4, h5⟩
        · rw [h2]; exact ⟨hau, .inl hgu⟩
        · obtain ⟨i, i0, i1, e⟩ := hau
          exact ⟨(hah.at_ x x0 x1).1 h4, .inr ⟨h3, i, i0, i1, by rw [e]; exact hgu, by rw [e]; exact h5⟩⟩
      · rintro ⟨hax, h2 | ⟨h3, i, i0, i1, h4, h5⟩⟩
        · obtain ⟨q, q0, q1, e⟩ := (rowL_mem hm hv.1 (by omega)).1 h2
          exact ⟨q, q0, q1, by rw [e]; exact (hah.at_ x x0 x1).2 hax, .inl e.symm⟩
        · obtain ⟨q, q0, q1, e⟩ := (rowL_mem hm hv.1 (by omega)).1 h4
          have hi := ho.rng i i0 (by omega)
          exact ⟨q, q0, q1, by rw [e]; exact (hah.at_ _ hi.1 hi.2).2 ⟨i, i0, i1, rfl⟩, .inr ⟨h3, (hah.at_ x x0 x1).2 hax, by rw [e]; exact h5⟩⟩
    refine gg ?_
    refine glp (fun k : Int => 0 ≤ k ∧ k ≤ n) (fun k => [(0, vi kd), (8, .pointer (some ⟨tb, 0, none⟩)), (10, .slice (some ⟨ab, 0, none⟩) n n), (11, vi most), (13, vi v), (19, vi (cntQ (NearP kd (hasB g) l j) k.toNat)), (44, .slice A l.length c), (45, vi l.length), (46, vi j), (108, .slice (some ⟨nb, 0, none⟩) n n), (109, vi n), (110, vi k)])
      (fun k => [osl TB vb (some ⟨nb, 0, none⟩) n NR, osl TB vb (some ⟨ab, 0, none⟩) n cah, blk tb (thC g.rows NA (nearTo yy g g.rows).length nc kd) TTh, osl TIs sv NA nc (nearTo yy g g.rows), bun RR]) (fun k => (n - k).toNat) 0 ⟨by omega, by omega⟩ ?_
    rintro k ⟨hk0, hk1⟩
    by_cases hk : k < n
    · have hq := cntQ_next (NearP kd (hasB g) l j) hk0
      have hmx := cntQ_max (NearP kd (hasB g) l j) k.toNat
      cases hnk : gt NR k with
      | true =>
        have := hq.1 ((hfin k hk0 hk).1 hnk)
        refine gg ?_
        rw [hnk]
        refine gg ?_
        rw [show ((cntQ (NearP kd (hasB g) l j) k.toNat : Nat) : Int) + 1 = ((cntQ (NearP kd (hasB g) l j) (k + 1).toNat : Nat) : Int) by omega]
        exact gnx (k + 1) ⟨by omega, by omega⟩ (by omega)
      | false =>
        have := hq.2 (fun h => by rw [(hfin k hk0 hk).2 h] at hnk; cases hnk)
        refine gg ?_
        rw [hnk]
        refine gg ?_
        rw [← this]
        exact gnx (k + 1) ⟨by omega, by omega⟩ (by omega)
    obtain rfl : k = n := by omega
    rw [Int.toNat_natCast]
    have hmx := cntQ_max (NearP kd (hasB g) l j) n
    have hnb := bndTo_next (kd := kd) (g := hasB g) (n := n) (l := l) hj0
    unfold nearN at hnb
    have hput : BlI n (cah.set v.toNat true) (fun x => ∃ i : Int, 0 ≤ i ∧ i < j + 1 ∧ gt l i = x) := hah.put hv.1 hv.2 fun x _ _ => ⟨fun ⟨i, i0, i1, e⟩ => by
      by_cases e2 : i = j
      · rw [e2, hvv] at e; exact .inr e.symm
      · exact .inl ⟨i, i0, by omega, e⟩, fun h => by
      rcases h with ⟨i, i0, i1, e⟩ | h
      · exact ⟨i, i0, by omega, e⟩
      · exact ⟨j, hj0, by omega, by rw [hvv, h]⟩⟩
    refine gg ?_
    refine wl_v rfl rfl rfl (val_max rfl rfl rfl) ?_
    refine gg ?_
    exact gnx (⟨j + 1, max most (cntQ (NearP kd (hasB g) l j) n), cah.set v.toNat true⟩ : BoX) ⟨by dsimp only; omega, by dsimp only; omega, by dsimp only; omega, fun h => by dsimp only at h; omega, fun _ => by
      dsimp only
      rw [hnb]
      by_cases h : 0 < j
      · have := hmp h; omega
      · have := hmz (by omega)
        have e0 : j.toNat = 0 := by omega
        rw [e0]
        show _ = max 0 _
        omega, hput⟩ (by dsimp only; omega)
  obtain rfl : j = n := by omega
  have hfin := hmp (by omega)
  rw [Int.toNat_natCast] at hfin
  rw [← hfin]
  refine gg ?_
  exact grt () trivial
end
open Classical in
noncomputable def nrB (kd : Int) (g : Int → Int → Bool) (l : List Int) (i j m : Int) : Bool := decide (g (gt l i) (gt l j) = true ∨ ((kd = 4 ∨ kd = 5) ∧ ∃ q : Int, 0 ≤ q ∧ q < m ∧ g (gt l i) (gt l q) = true ∧ g (gt l q) (gt l j) = true))
open Classical in
theorem nrB_zero (kd : Int) (g : Int → Int → Bool) (l : List Int) (i j : Int) : nrB kd g l i j 0 = g (gt l i) (gt l j) := by
  unfold nrB
  rw [Bool.eq_iff_iff, decide_eq_true_iff]
  exact ⟨fun h => h.elim id (fun ⟨_, q, a, b, _⟩ => by omega), .inl⟩
open Classical in
theorem nrB_next {kd : Int} {g : Int → Int → Bool} {l : List Int} {i j m : Int} (hk : kd = 4 ∨ kd = 5) (h : 0 ≤ m) : nrB kd g l i j (m + 1) = (nrB kd g l i j m || (g (gt l i) (gt l m) && g (gt l m) (gt l j))) := by
  rw [Bool.eq_iff_iff, Bool.or_eq_true, Bool.and_eq_true]
  unfold nrB
  rw [decide_eq_true_iff, decide_eq_true_iff]
  constructor
  · rintro (h1 | ⟨_, q, a, b, d⟩)
    · exact .inl (.inl h1)
    · by_cases e : q = m
      · rw [e] at d; exact .inr d
      · exact .inl (.inr ⟨hk, q, a, by omega, d⟩)
  · rintro ((h1 | ⟨_, q, a, b, d⟩) | d)
    · exact .inl h1
    · exact .inr ⟨hk, q, a, by omega, d⟩
    · exact .inr ⟨hk, m, h, by omega, d⟩
open Classical in
theorem nrB_not {kd : Int} {g : Int → Int → Bool} {l : List Int} {i j m : Int} (hk : ¬ (kd = 4 ∨ kd = 5)) : nrB kd g l i j m = nrB kd g l i j 0 := by
  unfold nrB
  refine decide_eq_decide.2 ?_
  exact ⟨fun h => h.elim .inl (fun h => (hk h.1).elim), fun h => h.elim .inl (fun h => (hk h.1).elim)⟩
open Classical in
theorem nrB_all {kd : Int} {g : Int → Int → Bool} {l : List Int} {i j : Int} (j0 : 0 ≤ j) (j1 : j < i) : nrB kd g l i j i = true ↔ NearP kd g l i (gt l j) := by
  unfold nrB NearP
  rw [decide_eq_true_iff]
  exact ⟨fun h => ⟨⟨j, j0, j1, rfl⟩, h⟩, fun h => h.2⟩
section
variable {p : Pat} {x : PA} {kd : Int} {A : Option Addr} {c n : Nat} {l : List Int}
theorem refBoundE_c (w : World) (hp : RdP w x p) (he : thE kd p ≠ 0) :
    Calls Try.prog 29 [vi kd, pvl x p, .slice A l.length c].toArray w (one (.tuple #[vi 0, vi (thE kd p)]) w) := by
  have op := hp.old
  have hth : ∀ w, RdP w x p → _ := fun w h => things_c (p := p) (x := x) (k := kd) w h
  rw [if_neg he] at hth
  generalize thE kd p = e at *
  unfold pvl patV at *
  refine calls_wc [] [] [.tmp 6, .tmp 7] (fun _ => [vi 0, vi e]) Try.func29 rfl rfl (fun _ => rfl) Try.ntmps29 rfl (Own.nil w) rfl ?_
  refine gg ?_
  refine wl_op (ok_box rfl rfl rfl rfl rfl ?_); intro bp
  refine gg ?_
  refine gc3 [] (fun w hst hst1 => hth w (op.now hst)) (by exact rfl) ?_
  (repeat (first | refine gk1 ?_ | refine gk2 ?_ | refine gk3 ?_ | refine gk0 ?_ | refine gk4 ?_))
  rintro y _
  dsimp only [List.cons_append, List.nil_append]
  refine gg ?_
  refine wl_op (ok_alloc rfl rfl rfl rfl (ze_of rfl) ?_); intro q8
  refine gg ?_
  exact grt () trivial
theorem refBoundN_c (w : World) (hp : RdP w x p) (hl : Rds vi w A c l) (he : thE kd p = 0) (h0 : 0 ≤ thN kd p) (h1 : thN kd p ≤ 128) (ho : ¬ IsOrd l (thN kd p)) :
    Calls Try.prog 29 [vi kd, pvl x p, .slice A l.length c].toArray w (one (.tuple #[vi 0, vi 182]) w) := by
  have op := hp.old
  have oL := hl.old
  have hth : ∀ w, RdP w x p → _ := fun w h => things_c (p := p) (x := x) (k := kd) w h
  rw [if_pos he, he] at hth
  generalize thN kd p = N at *
  unfold pvl patV at *
  refine calls_wc [] [] [.tmp 6, .tmp 7] (fun _ => [vi 0, vi 182]) Try.func29 rfl rfl (fun _ => rfl) Try.ntmps29 rfl (Own.nil w) rfl ?_
  refine gg ?_
  refine wl_op (ok_box rfl rfl rfl rfl rfl ?_); intro bp
  refine gg ?_
  refine gc3 [] (fun w hst hst1 => hth w (op.now hst)) (by exact rfl) ?_
  (repeat (first | refine gk1 ?_ | refine gk2 ?_ | refine gk3 ?_ | refine gk0 ?_ | refine gk4 ?_))
  rintro y _
  dsimp only [List.cons_append, List.nil_append]
  refine gg ?_
  refine wl_op (ok_alloc rfl rfl rfl rfl (ze_of rfl) ?_); intro q8
  refine gg ?_
  refine gc1 (fun w hst => isOrder_c w (oL.now hst) h0 h1 false (by simp [ho])) (by exact rfl) ?_
  refine gg ?_
  exact grt () trivial
theorem refBound_ok (w : World) (hp : RdP w x p) (hl : Rds vi w A c l) (he : thE kd p = 0) (hN : thN kd p = n) (h1 : n ≤ 128) (ho : IsOrd l n) :
    Calls Try.prog 29 [vi kd, pvl x p, .slice A l.length c].toArray w (one (.tuple #[vi (bndTo kd (thF kd p) n l n), vi 0]) w) := by
  have op := hp.old
  have oL := hl.old
  have hll := ho.len
  have hth : ∀ w, RdP w x p → _ := fun w h => things_c (p := p) (x := x) (k := kd) w h
  rw [if_pos he, he, hN] at hth
  generalize thF kd p = F at *
  unfold pvl patV at *
  refine calls_wc [] [] [.tmp 6, .tmp 7] (fun _ => [vi (bndTo kd F n l n), vi 0]) Try.func29 rfl rfl (fun _ => rfl) Try.ntmps29 rfl (Own.nil w) rfl ?_
  refine gg ?_
  refine wl_op (ok_box rfl rfl rfl rfl rfl ?_); intro bp
  refine gg ?_
  refine gc3 [] (fun w hst hst1 => hth w (op.now hst)) (by exact rfl) ?_
  (repeat (first | refine gk1 ?_ | refine gk2 ?_ | refine gk3 ?_ | refine gk0 ?_ | refine gk4 ?_))
  rintro ⟨A1, c1, on1⟩ ⟨hg, _⟩
  have hg := hg rfl
  dsimp only [List.cons_append, List.nil_append] at hg ⊢
  have hgl := hg.len
  refine gg ?_
  refine wl_op (ok_alloc rfl rfl rfl rfl (ze_of rfl) ?_); intro q8
  refine gg ?_
  refine gc1 (fun w hst => isOrder_c (n := (n : Int)) w (oL.now hst) (by omega) (by omega) true (by simp [ho])) (by exact rfl) ?_
  refine gg ?_
  refine glp (fun i : Int => 0 ≤ i ∧ i ≤ n) (fun i => [(0, vi kd), (2, .slice A l.length c), (8, .pointer (some ⟨q8, 0, none⟩)), (10, vi (bndTo kd F n l i.toNat)), (11, vi i)])
    (fun i => [osl TB vb A1 c1 on1, blk q8 (graC n A1 on1.length c1) TGh]) (fun i => (n - i).toNat) 0 ⟨by omega, by omega⟩ ?_
  rintro i ⟨hi0, hi1⟩
  have hbr := bndTo_rng kd F n l i.toNat
  by_cases hi : i < n
  · have hli := ho.rng i hi0 hi
    obtain ⟨m0, m1⟩ := mul_small (x := gt l i) (y := n) hli.1 (by omega) (by omega) (by omega)
    have hall := near_all (kd := kd) (g := F) ho hi0 hi
    have hnb := bndTo_next (kd := kd) (g := F) (n := n) (l := l) hi0
    rw [← hall] at hnb
    refine gg ?_
    refine glp (fun j : Int => 0 ≤ j ∧ j ≤ i) (fun j => [(0, vi kd), (2, .slice A l.length c), (8, .pointer (some ⟨q8, 0, none⟩)), (10, vi (bndTo kd F n l i.toNat)), (11, vi i), (12, vi (cntQ (fun q => NearP kd F l i (gt l q)) j.toNat)), (13, vi j)])
      (fun j => [osl TB vb A1 c1 on1, blk q8 (graC n A1 on1.length c1) TGh]) (fun j => (i - j).toNat) 0 ⟨by omega, by omega⟩ ?_
    rintro j ⟨hj0, hj1⟩
    have hmx := cntQ_max (fun q => NearP kd F l i (gt l q)) j.toNat
    by_cases hj : j < i
    · have hlj := ho.rng j hj0 (by omega)
      have hij := hg.at_ (gt l i) (gt l j) hli.1 hli.2 hlj.1 hlj.2
      have lij := cell_lt hli.1 hli.2 hlj.1 hlj.2
      rw [← nrB_zero kd F l i j] at hij
      have hcn := cntQ_succ (fun q => NearP kd F l i (gt l q)) j.toNat
      rw [show ((j.toNat : Nat) : Int) = j by omega, show j.toNat + 1 = (j + 1).toNat by omega] at hcn
      refine gg ?_
      refine wc_quiet mixed (by kernel_rfl) ?_
      refine gg ?_
      refine gc2 (fun w hst => meet_c (n := n) (r := gt l i) (x := gt l j) w (grd hst) (by omega) (by omega) hli.1 (by omega) hlj.1 (by omega) (by omega) _ hij) (by exact rfl) ?_
      refine gg ?_
      refine glp (fun s : NrX => 0 ≤ s.k ∧ s.k ≤ i ∧ s.b = nrB kd F l i j s.k) (fun s => [(0, vi kd), (2, .slice A l.length c), (8, .pointer (some ⟨q8, 0, none⟩)), (10, vi (bndTo kd F n l i.toNat)), (11, vi i), (12, vi (cntQ (fun q => NearP kd F l i (gt l q)) j.toNat)), (13, vi j), (14, .bool s.b), (15, vi s.k)])
        (fun s => [osl TB vb A1 c1 on1, blk q8 (graC n A1 on1.length c1) TGh]) (fun s => (i - s.k).toNat) ⟨0, nrB kd F l i j 0⟩ ⟨by simp, hi0, rfl⟩ ?_
      rintro ⟨m, b⟩ ⟨hm0, hm1, hb⟩
      dsimp only at hm0 hm1 hb ⊢
      have fin : nrB kd F l i j m = nrB kd F l i j i → (b = true ↔ NearP kd F l i (gt l j)) := fun e => by
        rw [hb, e]
        exact nrB_all hj0 hj
      by_cases hk4 : kd = 4
      · by_cases hm : m < i
        · have hlm := ho.rng m hm0 (by omega)
          obtain ⟨m2, m3⟩ := mul_small (x := gt l m) (y := n) hlm.1 (by omega) (by omega) (by omega)
          have him := hg.at_ (gt l i) (gt l m) hli.1 hli.2 hlm.1 hlm.2
          have lim := cell_lt hli.1 hli.2 hlm.1 hlm.2
          have hmj := hg.at_ (gt l m) (gt l j) hlm.1 hlm.2 hlj.1 hlj.2
          have lmj := cell_lt hlm.1 hlm.2 hlj.1 hlj.2
          have hnx := nrB_next (kd := kd) (g := F) (l := l) (i := i) (j := j) (.inl hk4) hm0
          cases b with
          | true =>
            rw [← hb, Bool.true_or] at hnx
            refine gg ?_
            refine wc_quiet mixed (by kernel_rfl) ?_
            refine gg ?_
            exact gnx (⟨m + 1, true⟩ : NrX) ⟨by dsimp only; omega, by dsimp only; omega, hnx.symm⟩ (by dsimp only; omega)
          | false =>
            rw [← hb, Bool.false_or] at hnx
            cases h1' : F (gt l i) (gt l m) with
            | false =>
              rw [h1'] at him hnx
              rw [Bool.false_and] at hnx
              refine gg ?_
              refine wc_quiet mixed (by kernel_rfl) ?_
              refine gg ?_
              refine gc2 (fun w hst => meet_c (n := n) (r := gt l i) (x := gt l m) w (grd hst) (by omega) (by omega) hli.1 (by omega) hlm.1 (by omega) (by omega) _ him) (by exact rfl) ?_
              refine gg ?_
              exact gnx (⟨m + 1, false⟩ : NrX) ⟨by dsimp only; omega, by dsimp only; omega, hnx.symm⟩ (by dsimp only; omega)
            | true =>
              rw [h1'] at him hnx
              rw [Bool.true_and] at hnx
              refine gg ?_
              refine wc_quiet mixed (by kernel_rfl) ?_
              refine gg ?_
              refine gc2 (fun w hst => meet_c (n := n) (r := gt l i) (x := gt l m) w (grd hst) (by omega) (by omega) hli.1 (by omega) hlm.1 (by omega) (by omega) _ him) (by exact rfl) ?_
              refine gg ?_
              refine gc2 (fun w hst => meet_c (n := n) (r := gt l m) (x := gt l j) w (grd hst) (by omega) (by omega) hlm.1 (by omega) hlj.1 (by omega) (by omega) _ hmj) (by exact rfl) ?_
              refine gg ?_
              exact gnx (⟨m + 1, F (gt l m) (gt l j)⟩ : NrX) ⟨by dsimp only; omega, by dsimp only; omega, hnx.symm⟩ (by dsimp only; omega)
        · obtain rfl : m = i := by omega
          cases b with
          | true =>
            have hP := (fin rfl).1 rfl
            have := hcn.1 hP
            refine gg ?_
            rw [show ((cntQ (fun q => NearP kd F l m (gt l q)) j.toNat : Nat) : Int) + 1 = ((cntQ (fun q => NearP kd F l m (gt l q)) (j + 1).toNat : Nat) : Int) by omega]
            exact gnx (j + 1) ⟨by omega, by omega⟩ (by omega)
          | false =>
            have := hcn.2 (fun hP => by have := (fin rfl).2 hP; cases this)
            refine gg ?_
            rw [← this]
            exact gnx (j + 1) ⟨by omega, by omega⟩ (by omega)
      by_cases hk5 : kd = 5
      · by_cases hm : m < i
        · have hlm := ho.rng m hm0 (by omega)
          obtain ⟨m2, m3⟩ := mul_small (x := gt l m) (y := n) hlm.1 (by omega) (by omega) (by omega)
          have him := hg.at_ (gt l i) (gt l m) hli.1 hli.2 hlm.1 hlm.2
          have lim := cell_lt hli.1 hli.2 hlm.1 hlm.2
          have hmj := hg.at_ (gt l m) (gt l j) hlm.1 hlm.2 hlj.1 hlj.2
          have lmj := cell_lt hlm.1 hlm.2 hlj.1 hlj.2
          have hnx := nrB_next (kd := kd) (g := F) (l := l) (i := i) (j := j) (.inr hk5) hm0
          cases b with
          | true =>
            rw [← hb, Bool.true_or] at hnx
            refine gg ?_
            refine wc_quiet mixed (by kernel_rfl) ?_
            refine gg ?_
            exact gnx (⟨m + 1, true⟩ : NrX) ⟨by dsimp only; omega, by dsimp only; omega, hnx.symm⟩ (by dsimp only; omega)
          | false =>
            rw [← hb, Bool.false_or] at hnx
            cases h1' : F (gt l i) (gt l m) with
            | false =>
              rw [h1'] at him hnx
              rw [Bool.false_and] at hnx
              refine gg ?_
              refine wc_quiet mixed (by kernel_rfl) ?_
              refine gg ?_
              refine gc2 (fun w hst => meet_c (n := n) (r := gt l i) (x := gt l m) w (grd hst) (by omega) (by omega) hli.1 (by omega) hlm.1 (by omega) (by omega) _ him) (by exact rfl) ?_
              refine gg ?_
              exact gnx (⟨m + 1, false⟩ : NrX) ⟨by dsimp only; omega, by dsimp only; omega, hnx.symm⟩ (by dsimp only; omega)
            | true =>
              rw [h1'] at him hnx
              rw [Bool.true_and] at hnx
              refine gg ?_
              refine wc_quiet mixed (by kernel_rfl) ?_
              refine gg ?_
              refine gc2 (fun w hst => meet_c (n := n) (r := gt l i) (x := gt l m) w (grd hst) (by omega) (by omega) hli.1 (by omega) hlm.1 (by omega) (by omega) _ him) (by exact rfl) ?_
              refine gg ?_
              refine gc2 (fun w hst => meet_c (n := n) (r := gt l m) (x := gt l j) w (grd hst) (by omega) (by omega) hlm.1 (by omega) hlj.1 (by omega) (by omega) _ hmj) (by exact rfl) ?_
              refine gg ?_
              exact gnx (⟨m + 1, F (gt l m) (gt l j)⟩ : NrX) ⟨by dsimp only; omega, by dsimp only; omega, hnx.symm⟩ (by dsimp only; omega)
        · obtain rfl : m = i := by omega
          cases b with
          | true =>
            have hP := (fin rfl).1 rfl
            have := hcn.1 hP
            refine gg ?_
            rw [show ((cntQ (fun q => NearP kd F l m (gt l q)) j.toNat : Nat) : Int) + 1 = ((cntQ (fun q => NearP kd F l m (gt l q)) (j + 1).toNat : Nat) : Int) by omega]
            exact gnx (j + 1) ⟨by omega, by omega⟩ (by omega)
          | false =>
            have := hcn.2 (fun hP => by have := (fin rfl).2 hP; cases this)
            refine gg ?_
            rw [← this]
            exact gnx (j + 1) ⟨by omega, by omega⟩ (by omega)
      have hno : ¬ (kd = 4 ∨ kd = 5) := fun h => h.elim hk4 hk5
      cases b with
      | true =>
        have hP := (fin ((nrB_not hno).trans (nrB_not hno).symm)).1 rfl
        have := hcn.1 hP
        refine gg ?_
        rw [show ((cntQ (fun q => NearP kd F l i (gt l q)) j.toNat : Nat) : Int) + 1 = ((cntQ (fun q => NearP kd F l i (gt l q)) (j + 1).toNat : Nat) : Int) by omega]
        exact gnx (j + 1) ⟨by omega, by omega⟩ (by omega)
      | false =>
        have := hcn.2 (fun hP => by have := (fin ((nrB_not hno).trans (nrB_not hno).symm)).2 hP; cases this)
        refine gg ?_
        rw [← this]
        exact gnx (j + 1) ⟨by omega, by omega⟩ (by omega)
    obtain rfl : j = i := by omega
    by_cases hgt : bndTo kd F n l j.toNat < (cntQ (fun q => NearP kd F l j (gt l q)) j.toNat : Int) + 1
    · rw [show max (bndTo kd F n l j.toNat) ((cntQ (fun q => NearP kd F l j (gt l q)) j.toNat : Int) + 1) = (cntQ (fun q => NearP kd F l j (gt l q)) j.toNat : Int) + 1 by omega] at hnb
      refine gg ?_
      rw [← hnb]
      exact gnx (j + 1) ⟨by omega, by omega⟩ (by omega)
    · rw [show max (bndTo kd F n l j.toNat) ((cntQ (fun q => NearP kd F l j (gt l q)) j.toNat : Int) + 1) = bndTo kd F n l j.toNat by omega] at hnb
      refine gg ?_
      rw [← hnb]
      exact gnx (j + 1) ⟨by omega, by omega⟩ (by omega)
  obtain rfl : i = n := by omega
  rw [Int.toNat_natCast]
  refine gg ?_
  exact grt () trivial
end
end Go.Proofs.Ytoiiellaoikojaa
