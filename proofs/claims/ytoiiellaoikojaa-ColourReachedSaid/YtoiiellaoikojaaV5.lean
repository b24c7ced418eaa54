/- Plain: some order reaches the least number of colours by Greedy; none takes fewer. -/
import Derived.Test.YtoiiellaoikojaaV3
set_option linter.unusedVariables false
set_option linter.unusedSimpArgs false
set_option maxHeartbeats 8000000
namespace Go.Proofs.Ytoiiellaoikojaa
open Go.RowKit Classical
theorem gt_inj {l : List Int} (h : l.Nodup) {i j : Int} (i0 : 0 ≤ i) (i1 : i < l.length) (j0 : 0 ≤ j) (j1 : j < l.length) (e : gt l i = gt l j) : i = j := by
  rw [gt_elem i0 i1, gt_elem j0 j1] at e
  have := (List.getElem_inj h).1 e
  omega
theorem rng_len (n : Nat) : (rng n).length = n := by simp [rng]
theorem rng_nodup (n : Nat) : (rng n).Nodup := by
  unfold rng
  refine List.pairwise_map.2 (List.nodup_range.imp ?_)
  intro a b h e
  exact h (by omega)
theorem rng_at {n : Nat} {i : Int} (i0 : 0 ≤ i) (i1 : i < n) : gt (rng n) i = i := by
  rw [gt_elem i0 (by rw [rng_len]; exact i1)]
  simp [rng]
  omega
section
variable {kd : Int} {F : Int → Int → Bool} {n : Nat}
/-- colours of the kind, renamed by where they come first -/
theorem some_of (hin : ∀ x y, F x y = true → (0 ≤ x ∧ x < n) ∧ 0 ≤ y ∧ y < n) {l : List Int} (hl : l.length = n) (hc : ∀ c ∈ l, 0 ≤ c) (hf : Fine kd F n l) : ∃ j, j ≤ numS l ∧ SomeU kd F n n [] 0 j := by
  have key : ∀ (m v : Nat) (l' reps : List Int), v + m = n → l'.length = v → reps.Nodup → (∀ r ∈ reps, r ∈ l) → (∀ i : Int, 0 ≤ i → i < v → (0 ≤ gt l' i ∧ gt l' i < reps.length) ∧ gt reps (gt l' i) = gt l i) → ∃ j, j ≤ numS l ∧ SomeU kd F n m l' reps.length j := by
    intro m
    induction m with
    | zero =>
      intro v l' reps hv hl' hnd hr hi
      obtain rfl : v = n := by omega
      refine ⟨reps.length, ?_, ?_, rfl⟩
      · have h0 : 0 ≤ numS l := (numS_rng l (m := numS l) (fun c h => by have := hc c h; have := numS_max l c h; omega) (by
          cases l with
          | nil => exact Int.le_refl _
          | cons a l => rw [numS_cons]; omega)).1
        have := nodup_le (numS l).toNat reps hnd (fun x hx => by
          have h1 := hc x (hr x hx)
          have h2 := numS_max l x (hr x hx)
          omega)
        omega
      · refine Fine.ren hin (fun x y x0 x1 y0 y1 => ?_) hf
        have hx := hi x x0 x1
        have hy := hi y y0 y1
        constructor
        · intro e
          rw [← hx.2, ← hy.2, e]
        · intro e
          exact gt_inj hnd hx.1.1 hx.1.2 hy.1.1 hy.1.2 (by rw [hx.2, hy.2, e])
    | succ m ih =>
      intro v l' reps hv hl' hnd hr hi
      by_cases hmem : gt l (v : Int) ∈ reps
      · obtain ⟨j, j0, j1, e⟩ := mem_gt hmem
        obtain ⟨k, k1, k2⟩ := ih (v + 1) (l' ++ [j]) reps (by omega) (by simp [hl']) hnd hr (fun i i0 i1 => by
          by_cases e2 : i = v
          · rw [(gt_snoc (xs := l') (y := j) (i := i)).2 (by omega), e2]; exact ⟨⟨j0, j1⟩, e⟩
          · rw [(gt_snoc (xs := l') (y := j) (i := i)).1 i0 (by omega)]; exact hi i i0 (by omega))
        refine ⟨k, k1, j, j0, by omega, ?_⟩
        rw [show max (reps.length : Int) (j + 1) = reps.length by omega]
        exact k2
      · have hlen : (reps ++ [gt l (v : Int)]).length = reps.length + 1 := by simp
        obtain ⟨k, k1, k2⟩ := ih (v + 1) (l' ++ [(reps.length : Int)]) (reps ++ [gt l (v : Int)]) (by omega) (by simp [hl']) (by
          refine List.nodup_append.2 ⟨hnd, by simp, fun a ha b hb e => hmem ?_⟩
          rw [← List.mem_singleton.1 hb, ← e]
          exact ha) (fun r hr' => by
          rcases List.mem_append.1 hr' with h | h
          · exact hr r h
          · rw [List.mem_singleton.1 h, gt_elem (by omega) (by omega)]
            exact List.getElem_mem _) (fun i i0 i1 => by
          rw [hlen]
          by_cases e2 : i = v
          · rw [(gt_snoc (xs := l') (y := _) (i := i)).2 (by omega), (gt_snoc (xs := reps) (y := _) (i := reps.length)).2 rfl, e2]; exact ⟨by omega, rfl⟩
          · have h := hi i i0 (by omega)
            rw [(gt_snoc (xs := l') (y := _) (i := i)).1 i0 (by omega), (gt_snoc (xs := reps) (y := _) (i := gt l' i)).1 h.1.1 h.1.2]; exact ⟨by omega, h.2⟩)
        refine ⟨k, k1, reps.length, by omega, by omega, ?_⟩
        rw [show max (reps.length : Int) (reps.length + 1) = ((reps ++ [gt l (v : Int)]).length : Int) by rw [hlen]; omega]
        exact k2
  obtain ⟨j, h1, h2⟩ := key n 0 [] [] (by omega) rfl List.nodup_nil (fun r h => by cases h) (fun i i0 i1 => by omega)
  exact ⟨j, h1, h2⟩
theorem SomeU.get : ∀ {m : Nat} {l : List Int} {used k : Int}, SomeU kd F n m l used k → (∀ c ∈ l, 0 ≤ c ∧ c < used) → ∃ l', l'.length = l.length + m ∧ Fine kd F n l' ∧ ∀ c ∈ l', 0 ≤ c ∧ c < k
  | 0, l, used, k, h, hl => ⟨l, rfl, h.1, by rw [h.2]; exact hl⟩
  | m + 1, l, used, k, ⟨c, c0, c1, h⟩, hl => by
    obtain ⟨l', h1, h2, h3⟩ := SomeU.get h (fun d hd => by
      rcases List.mem_append.1 hd with hd | hd
      · have := hl d hd; omega
      · have := List.mem_singleton.1 hd; omega)
    exact ⟨l', by rw [h1, List.length_append, List.length_singleton]; omega, h2, h3⟩
theorem ord_perm {l : List Int} (h : l.Perm (rng n)) : IsOrd l n := by
  have hlen : l.length = n := by rw [h.length_eq, rng_len]
  have hnd : l.Nodup := h.nodup_iff.2 (rng_nodup n)
  refine ⟨by omega, fun i i0 i1 => ?_, fun i j i0 i1 j0 j1 e => gt_inj hnd i0 (by omega) j0 (by omega) e⟩
  have hm : gt l i ∈ rng n := h.mem_iff.1 (by rw [gt_elem i0 (by omega)]; exact List.getElem_mem _)
  exact mem_rng.1 hm
section
variable (hon : On n F) (hev : ∀ a b, F a b = true → F b a = true) (hirr : ∀ u, F u u = false)
include hon hev hirr
/-- an order by colour -/
theorem reach_proper (k4 : kd ≠ 4) (k5 : kd ≠ 5) {l : List Int} {k : Int} (hl : l.length = n) (hf : Fine kd F n l) (hc : ∀ c ∈ l, 0 ≤ c ∧ c < k) (hk : 0 ≤ k) : ∃ ord, IsOrd ord n ∧ numS (greedyS kd F n ord) ≤ k := by
  have hp := List.mergeSort_perm (rng n) (fun a b => decide (gt l a ≤ gt l b))
  have hs := List.pairwise_mergeSort (le := fun a b : Int => decide (gt l a ≤ gt l b)) (fun a b c h1 h2 => by
    have h1 := of_decide_eq_true h1
    have h2 := of_decide_eq_true h2
    exact decide_eq_true (by omega)) (fun a b => by
    rw [Bool.or_eq_true, decide_eq_true_iff, decide_eq_true_iff]
    omega) (rng n)
  generalize (rng n).mergeSort (fun a b => decide (gt l a ≤ gt l b)) = ord at hp hs
  have ho := ord_perm hp
  have hol := ho.len
  refine ⟨ord, ho, ?_⟩
  obtain ⟨f1, f2, f3⟩ := greedy_fine (kd := kd) hon hev hirr ho
  have hat : ∀ v : Int, 0 ≤ v → v < n → 0 ≤ gt l v ∧ gt l v < k := fun v v0 v1 => hc _ (by rw [gt_elem v0 (by omega)]; exact List.getElem_mem _)
  have hsort : ∀ i j : Int, 0 ≤ i → i < j → j < n → gt l (gt ord i) ≤ gt l (gt ord j) := fun i j i0 ij j1 => by
    have := List.pairwise_iff_getElem.1 hs i.toNat j.toNat (by omega) (by omega) (by omega)
    rw [gt_elem i0 (by omega), gt_elem (xs := ord) (i := j) (by omega) (by omega)]
    exact of_decide_eq_true this
  have key : ∀ i : Nat, i < n → gt (greedyS kd F n ord) (gt ord (i : Int)) ≤ gt l (gt ord (i : Int)) := by
    intro i
    induction i using Nat.strongRecOn with
    | ind i ih =>
      intro i1
      have hv := ho.rng (i : Int) (by omega) (by omega)
      refine Classical.byContradiction fun hgt => ?_
      have h1 := hat _ hv.1 hv.2
      obtain ⟨hG, hst, _, hlow⟩ := gr_at (kd := kd) hon hev hirr ho (k := (i : Int)) (by omega) (by omega)
      obtain ⟨x, hx, hnr, hxd⟩ := bad_near hon ho (by omega) (by omega) hG h1.1 (hlow _ h1.1 (by omega))
      obtain ⟨⟨m, m0, m1, rfl⟩, hor⟩ := hnr
      have hF : F (gt ord (i : Int)) (gt ord m) = true := hor.resolve_right fun h => h.1.elim k4 k5
      have h2 := ih m.toNat (by omega) (by omega)
      rw [show ((m.toNat : Nat) : Int) = m by omega, hst _ hx.1 hx.2 (by omega), hxd] at h2
      have h3 := hsort m i m0 m1 (by omega)
      exact hf.1 _ _ hF (by omega)
  refine (numS_rng _ (fun c h => ?_) hk).2
  obtain ⟨v, v0, v1, rfl⟩ := mem_gt h
  rw [f1] at v1
  obtain ⟨i, i0, i1, rfl⟩ := ho.surj v0 v1
  have := key i.toNat (by omega)
  rw [show ((i.toNat : Nat) : Int) = i by omega] at this
  have h2 := ho.rng i i0 i1
  have := hat _ h2.1 h2.2
  have := f2 _ h2.1 h2.2
  omega
/-- no order takes fewer -/
theorem least_low {ord : List Int} (ho : IsOrd ord n) {k : Int} (hk : IsLe kd F n k) : k ≤ numS (greedyS kd F n ord) := by
  obtain ⟨f1, f2, f3⟩ := greedy_fine (kd := kd) hon hev hirr ho
  obtain ⟨j, h1, h2⟩ := some_of (fun x y h => by have := hon x y h; omega) f1 (fun c h => by
    obtain ⟨v, v0, v1, rfl⟩ := mem_gt h
    rw [f1] at v1
    exact (f2 v v0 v1).1) f3
  have := hk.2.2 j h2
  omega
theorem least_met (k4 : kd ≠ 4) (k5 : kd ≠ 5) {k : Int} (hk : IsLe kd F n k) : ∃ ord, IsOrd ord n ∧ numS (greedyS kd F n ord) ≤ k := by
  have h0 := hk.low
  rcases hk.2.1 with e | e
  · refine reach_proper hon hev hirr k4 k5 (l := rng n) (rng_len n) ⟨fun x y h => ?_, fun h => (k4 h).elim, fun h => (k5 h).elim⟩ (fun c h => by have := mem_rng.1 h; omega) h0
    have hr := hon x y h
    rw [rng_at hr.1 hr.2.1, rng_at hr.2.2.1 hr.2.2.2]
    rintro rfl
    rw [hirr] at h
    cases h
  · obtain ⟨l, h1, h2, h3⟩ := e.get (fun c h => by cases h)
    exact reach_proper hon hev hirr k4 k5 (by rw [h1]; simp) h2 h3 h0
end
end
/-! ### all orders that begin so -/
def OrdB (G : List Int → Int) (n k : Nat) (os : List Int) (b0 b1 : Int) : Prop := b1 ≤ b0 ∧ (b1 = b0 ∨ ∃ ord, IsOrd ord n ∧ ord.take k = os.take k ∧ b1 = G ord) ∧ ∀ ord, IsOrd ord n → ord.take k = os.take k → b1 ≤ G ord
def OrdC (G : List Int → Int) (n k : Nat) (os : List Int) (v b0 b1 : Int) : Prop := b1 ≤ b0 ∧ (b1 = b0 ∨ ∃ ord, IsOrd ord n ∧ ord.take k = os.take k ∧ b1 = G ord) ∧ ∀ ord, IsOrd ord n → ord.take k = os.take k → gt ord k < v → b1 ≤ G ord
/-- what has come -/
structure OrdP (n k : Nat) (os : List Int) (us : List Bool) : Prop where
  lo : os.length = n
  lu : us.length = n
  rng : ∀ i : Int, 0 ≤ i → i < k → 0 ≤ gt os i ∧ gt os i < n
  inj : ∀ i j : Int, 0 ≤ i → i < k → 0 ≤ j → j < k → gt os i = gt os j → i = j
  use : ∀ v : Int, 0 ≤ v → v < n → (gt us v = true ↔ ∃ i : Int, 0 ≤ i ∧ i < k ∧ gt os i = v)
section
variable {G : List Int → Int} {n k : Nat} {os os2 : List Int} {us : List Bool} {v b0 b1 b2 : Int}
theorem takeE_at {a b : List Int} (h : a.take k = b.take k) (ha : a.length = n) (hb : b.length = n) {i : Int} (i0 : 0 ≤ i) (i1 : i < k) (i2 : i < n) : gt a i = gt b i := by
  have e1 : (a.take k)[i.toNat]? = (b.take k)[i.toNat]? := by rw [h]
  rw [List.getElem?_take_of_lt (by omega), List.getElem?_take_of_lt (by omega), List.getElem?_eq_getElem (by omega), List.getElem?_eq_getElem (by omega), Option.some.injEq] at e1
  rw [gt_elem i0 (by omega), gt_elem i0 (by omega)]
  exact e1
theorem takeE_of {a b : List Int} (ha : a.length = n) (hb : b.length = n) (hk : k ≤ n) (h : ∀ i : Int, 0 ≤ i → i < k → gt a i = gt b i) : a.take k = b.take k := by
  refine List.ext_getElem (by rw [List.length_take, List.length_take, ha, hb]) fun i h1 h2 => ?_
  rw [List.length_take] at h1
  rw [List.getElem_take, List.getElem_take]
  have := h (i : Int) (by omega) (by omega)
  rw [gt_elem (by omega) (by omega), gt_elem (by omega) (by omega)] at this
  simpa using this
theorem OrdP.ord (h : OrdP n n os us) : IsOrd os n := ⟨by have := h.lo; omega, h.rng, h.inj⟩
theorem OrdP.zero : OrdP n 0 (List.replicate n 0) (List.replicate n false) := ⟨by simp, by simp, fun i i0 i1 => by omega, fun i j i0 i1 => by omega, fun v v0 v1 => by
  rw [gt_elem v0 (by simp; omega)]
  simp
  omega⟩
theorem OrdP.next (h : OrdP n k os us) (hl : os2.length = n) (ht : os2.take k = os.take k) (hk : k < n) (v0 : 0 ≤ v) (v1 : v < n) (hu : gt us v = false) : OrdP n (k + 1) (os2.set k v) (us.set v.toNat true) := by
  have hlu := h.lu
  have hlo := h.lo
  have hat : ∀ i : Int, 0 ≤ i → i < k → gt (os2.set k v) i = gt os i := fun i i0 i1 => by
    have := gt_setI (on := os2) (i := (k : Int)) (j := i) (b := v) (by omega) (by omega) i0
    rw [Int.toNat_natCast] at this
    rw [this, if_neg (by omega)]
    exact takeE_at ht hl hlo i0 i1 (by omega)
  have hak : gt (os2.set k v) (k : Int) = v := by
    have := gt_setI (on := os2) (i := (k : Int)) (j := (k : Int)) (b := v) (by omega) (by omega) (by omega)
    rw [Int.toNat_natCast] at this
    rw [this, if_pos rfl]
  have hnew : ∀ i : Int, 0 ≤ i → i < k → gt os i ≠ v := fun i i0 i1 e => by
    have := (h.use v v0 v1).2 ⟨i, i0, i1, e⟩
    rw [hu] at this
    cases this
  refine ⟨by rw [List.length_set]; exact hl, by rw [List.length_set]; exact hlu, fun i i0 i1 => ?_, fun i j i0 i1 j0 j1 e => ?_, fun u u0 u1 => ?_⟩
  · by_cases e : i = k
    · rw [e, hak]; exact ⟨v0, v1⟩
    · rw [hat i i0 (by omega)]; exact h.rng i i0 (by omega)
  · by_cases ei : i = k
    · by_cases ej : j = k
      · omega
      · rw [ei, hak, hat j j0 (by omega)] at e
        exact (hnew j j0 (by omega) e.symm).elim
    · by_cases ej : j = k
      · rw [ej, hak, hat i i0 (by omega)] at e
        exact (hnew i i0 (by omega) e).elim
      · rw [hat i i0 (by omega), hat j j0 (by omega)] at e
        exact h.inj i j i0 (by omega) j0 (by omega) e
  · rw [gt_set v0 (by omega) u0]
    by_cases e : u = v
    · rw [if_pos e]
      exact ⟨fun _ => ⟨k, by omega, by omega, by rw [hak, e]⟩, fun _ => rfl⟩
    · rw [if_neg e, h.use u u0 u1]
      constructor
      · rintro ⟨i, i0, i1, e2⟩
        exact ⟨i, i0, by omega, by rw [hat i i0 i1, e2]⟩
      · rintro ⟨i, i0, i1, e2⟩
        by_cases ei : i = k
        · rw [ei, hak] at e2; exact (e e2.symm).elim
        · exact ⟨i, i0, by omega, by rw [← hat i i0 (by omega), e2]⟩
theorem OrdB.end_ (h : OrdP n n os us) (hb : b1 = if G os < b0 then G os else b0) : OrdB G n n os b0 b1 := by
  have hl := h.lo
  have he : ∀ ord, IsOrd ord n → ord.take n = os.take n → ord = os := fun ord ho e => by
    have := ho.len
    rw [List.take_of_length_le (by omega), List.take_of_length_le (by omega)] at e
    exact e
  by_cases hlt : G os < b0
  · rw [if_pos hlt] at hb
    exact ⟨by omega, .inr ⟨os, h.ord, rfl, hb⟩, fun ord ho e => by rw [he ord ho e]; omega⟩
  · rw [if_neg hlt] at hb
    exact ⟨by omega, .inl hb, fun ord ho e => by rw [he ord ho e]; omega⟩
theorem OrdC.zero : OrdC G n k os 0 b0 b0 ↔ True := by
  refine ⟨fun _ => trivial, fun _ => ⟨Int.le_refl _, .inl rfl, fun ord ho _ h => ?_⟩⟩
  by_cases hk : k < n
  · have := ho.rng k (by omega) (by omega); omega
  · have hl := ho.len
    have : gt ord (k : Int) = 0 := by
      unfold gt
      simp only [List.getD_eq_getElem?_getD]
      rw [List.getElem?_eq_none (by omega)]
      rfl
    omega
theorem OrdC.skip (h : OrdP n k os us) (hk : k < n) (v0 : 0 ≤ v) (v1 : v < n) (hu : gt us v = true) (c : OrdC G n k os v b0 b1) : OrdC G n k os (v + 1) b0 b1 := by
  obtain ⟨c1, c2, c3⟩ := c
  refine ⟨c1, c2, fun ord ho e hlt => ?_⟩
  by_cases hv : gt ord (k : Int) = v
  · exfalso
    obtain ⟨i, i0, i1, e2⟩ := (h.use v v0 v1).1 hu
    have hl := ho.len
    have e3 := takeE_at (n := n) e (by omega) h.lo i0 i1 (by omega)
    have := ho.inj i k i0 (by omega) (by omega) (by omega) (by rw [e3, e2, hv])
    omega
  · exact c3 ord ho e (by omega)
theorem OrdC.next (h : OrdP n k os us) (hl2 : os2.length = n) (ht : os2.take k = os.take k) (hk : k < n) (v0 : 0 ≤ v) (v1 : v < n) (c : OrdC G n k os v b0 b1) (d : OrdB G n (k + 1) (os2.set k v) b1 b2) : OrdC G n k os (v + 1) b0 b2 := by
  obtain ⟨c1, c2, c3⟩ := c
  obtain ⟨d1, d2, d3⟩ := d
  have hlo := h.lo
  have hls : (os2.set k v).length = n := by rw [List.length_set]; exact hl2
  have hat : ∀ i : Int, 0 ≤ i → i < k → gt (os2.set k v) i = gt os i := fun i i0 i1 => by
    have := gt_setI (on := os2) (i := (k : Int)) (j := i) (b := v) (by omega) (by omega) i0
    rw [Int.toNat_natCast] at this
    rw [this, if_neg (by omega)]
    exact takeE_at ht hl2 hlo i0 i1 (by omega)
  have hak : gt (os2.set k v) (k : Int) = v := by
    have := gt_setI (on := os2) (i := (k : Int)) (j := (k : Int)) (b := v) (by omega) (by omega) (by omega)
    rw [Int.toNat_natCast] at this
    rw [this, if_pos rfl]
  refine ⟨by omega, ?_, fun ord ho e hlt => ?_⟩
  · rcases d2 with d2 | ⟨ord, ho, e, d2⟩
    · rw [d2]; exact c2
    · have hl := ho.len
      refine .inr ⟨ord, ho, takeE_of (n := n) (by omega) hlo (by omega) fun i i0 i1 => ?_, d2⟩
      rw [← hat i i0 i1]
      exact takeE_at (n := n) e (by omega) hls i0 (by omega) (by omega)
  · by_cases hv : gt ord (k : Int) = v
    · have hl := ho.len
      refine d3 ord ho (takeE_of (n := n) (by omega) hls (by omega) fun i i0 i1 => ?_)
      by_cases ei : i = k
      · rw [ei, hak, hv]
      · rw [hat i i0 (by omega)]
        exact takeE_at (n := n) e (by omega) hlo i0 (by omega) (by omega)
    · have := c3 ord ho e (by omega)
      omega
theorem OrdC.end_ (hk : k < n) (c : OrdC G n k os n b0 b1) : OrdB G n k os b0 b1 := by
  obtain ⟨c1, c2, c3⟩ := c
  exact ⟨c1, c2, fun ord ho e => c3 ord ho e (ho.rng k (by omega) (by omega)).2⟩
end
/-- the law's answer -/
theorem reach {kd : Int} {p : Pat} (he : thE kd p = 0) {k b : Int} {n : Nat} {os : List Int} (hn : thN kd p = n) (hk : IsLe kd (hasB (gr kd p)) (gr kd p).rows.toNat k) (hB : OrdB (fun o => numS (grL kd p o)) n 0 os (n + 1) b) : (0 ≤ k ∧ k ≤ n) ∧ k ≤ b ∧ (kd ≠ 4 → kd ≠ 5 → b = k) := by
  obtain ⟨g1, g2, g3⟩ := gr_gr he
  rw [hn] at g2
  rw [show (gr kd p).rows.toNat = n by omega, g3] at hk
  have hon : On n (thF kd p) := fun a b h => by
    rw [← g3] at h
    have := (hasB_iff.1 h).in_ g1.1.1
    have := g1.1.2.1
    omega
  have hev : ∀ a b, thF kd p a b = true → thF kd p b a = true := fun a b h => by rw [← g3] at h ⊢; rw [← g1.sym]; exact h
  have hirr : ∀ u, thF kd p u u = false := fun u => by rw [← g3]; exact g1.irr u
  have hG : ∀ ord, IsOrd ord n → grL kd p ord = greedyS kd (thF kd p) n ord := fun ord ho => by
    unfold grL
    rw [if_neg (not_not_intro he), hn, if_neg (not_not_intro ho), Int.toNat_natCast]
  obtain ⟨b1, b2, b3⟩ := hB
  have hlow : k ≤ b := by
    rcases b2 with h | ⟨ord, ho, _, h⟩
    · have := hk.1; omega
    · have := least_low hon hev hirr ho hk
      dsimp only at h
      rw [h, hG ord ho]
      exact this
  refine ⟨⟨hk.low, hk.1⟩, hlow, fun k4 k5 => ?_⟩
  obtain ⟨ord, ho, h⟩ := least_met hon hev hirr k4 k5 hk
  have := b3 ord ho (by simp)
  dsimp only at this
  rw [hG ord ho] at this
  omega
end Go.Proofs.Ytoiiellaoikojaa
