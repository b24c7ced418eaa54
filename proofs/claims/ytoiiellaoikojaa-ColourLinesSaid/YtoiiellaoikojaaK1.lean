/- Walks: colours: orders, numbers. -/
import Derived.Test.YtoiiellaoikojaaK0
import Derived.Test.YtoiiellaoikojaaT26
set_option linter.unusedVariables false
set_option linter.unusedSimpArgs false
set_option maxHeartbeats 8000000
namespace Go.Proofs.Ytoiiellaoikojaa
open Go.RowKit
abbrev TA128 : TypeId := 186
theorem arr128 : Try.prog.underlying TA128 = some (.array 128 TB) := by kernel_rfl
structure OcX where
  k : Int
  on : List Bool
/-- which have come so far -/
structure OcI (l : List Int) (n k : Int) (on : List Bool) : Prop where
  len : on.length = 128
  rng : ∀ i, 0 ≤ i → i < k → 0 ≤ gt l i ∧ gt l i < n
  inj : ∀ i j, 0 ≤ i → i < k → 0 ≤ j → j < k → gt l i = gt l j → i = j
  on : ∀ x : Int, 0 ≤ x → x < n → (gt on x = true ↔ ∃ i, 0 ≤ i ∧ i < k ∧ gt l i = x)
section
variable {A : Option Addr} {c : Nat} {l : List Int} {n : Int}
theorem OcI.next {k : Int} {on : List Bool} (h : OcI l n k on) (hn : n ≤ 128) (k0 : 0 ≤ k) (h0 : 0 ≤ gt l k) (h1 : gt l k < n) (hf : gt on (gt l k) = false) : OcI l n (k + 1) (on.set (gt l k).toNat true) := by
  have hl := h.len
  have no : ∀ i, 0 ≤ i → i < k → gt l i ≠ gt l k := fun i i0 i1 e => by
    have := (h.on (gt l k) h0 h1).2 ⟨i, i0, i1, e⟩
    rw [hf] at this; cases this
  refine ⟨by rw [List.length_set]; exact hl, fun i i0 i1 => ?_, fun i j i0 i1 j0 j1 e => ?_, fun x x0 x1 => ?_⟩
  · by_cases e : i = k
    · rw [e]; exact ⟨h0, h1⟩
    · exact h.rng i i0 (by omega)
  · by_cases e1 : i = k
    · by_cases e2 : j = k
      · rw [e1, e2]
      · rw [e1] at e; exact (no j j0 (by omega) e.symm).elim
    · by_cases e2 : j = k
      · rw [e2] at e; exact (no i i0 (by omega) e).elim
      · exact h.inj i j i0 (by omega) j0 (by omega) e
  · rw [gt_set h0 (by omega) x0]
    by_cases e : x = gt l k
    · rw [if_pos e]
      exact ⟨fun _ => ⟨k, k0, by omega, e.symm⟩, fun _ => rfl⟩
    · rw [if_neg e, h.on x x0 x1]
      exact ⟨fun ⟨i, i0, i1, h⟩ => ⟨i, i0, by omega, h⟩, fun ⟨i, i0, i1, h⟩ => ⟨i, i0, by
        by_cases e2 : i = k
        · rw [e2] at h; exact (e h.symm).elim
        · omega, h⟩⟩
theorem ordCheck_c (w : World) (hA : Rds vi w A c l) (h0 : 0 ≤ n) (h1 : n ≤ 128) (e : Int) (he : (IsOrd l n → e = 0) ∧ (¬ IsOrd l n → e = 182)) :
    Calls Try.prog 95 [vi n, .slice A l.length c].toArray w (one (vi e) w) := by
  have oA := hA.old
  refine calls_wc [] [] [.tmp 4] (fun _ => [vi e]) Try.func95 rfl rfl (fun _ => rfl) Try.ntmps95 rfl (Own.nil w) rfl ?_
  refine gg ?_
  by_cases hl : (l.length : Int) = n
  · refine gg ?_
    refine wl_op (ok_alloc rfl rfl rfl rfl (ze_of rfl) ?_); intro b
    refine gg ?_
    refine glp (fun y : OcX => 0 ≤ y.k ∧ y.k ≤ n ∧ OcI l n y.k y.on) (fun y => [(0, vi n), (5, .pointer (some ⟨b, 0, none⟩)), (18, .slice A l.length c), (19, vi l.length), (20, vi y.k)])
      (fun y => [blk b (y.on.map vb) TA128]) (fun y => (n - y.k).toNat) ⟨0, List.replicate 128 false⟩ ⟨by simp, h0, by simp, fun i i0 i1 => by dsimp only at i1; omega, fun i j i0 i1 => by dsimp only at i1; omega, fun x x0 x1 => by
        dsimp only
        rw [gt_elem x0 (by simp; omega)]
        simp only [List.getElem_replicate]
        exact ⟨fun h => (by cases h), fun ⟨i, i0, i1, _⟩ => by omega⟩⟩ ?_
    rintro ⟨k, on⟩ ⟨hk0, hk1, hO⟩
    dsimp only at hk0 hk1 hO ⊢
    have hol := hO.len
    by_cases hk : k < n
    · refine gg ?_
      by_cases hr : 0 ≤ gt l k ∧ gt l k < n
      · refine gg ?_
        refine wl_v rfl rfl rfl (val_arr rfl rfl rfl arr128 (sz_of rfl) hr.1 (by omega)) ?_
        refine gl1 (by exact rfl) ?_ (hv := .c (nth_map hr.1 (by omega)))
        cases hb : gt on (gt l k) with
        | true =>
          obtain rfl : e = 182 := he.2 fun ho => by
            obtain ⟨i, i0, i1, h⟩ := (hO.on _ hr.1 hr.2).1 hb
            have := ho.inj i k i0 (by omega) hk0 hk h
            omega
          refine gg ?_
          exact grt () trivial
        | false =>
          refine gg ?_
          refine wl_v rfl rfl rfl (val_arr rfl rfl rfl arr128 (sz_of rfl) hr.1 (by omega)) ?_
          refine gt1 (by exact rfl) ?_ (hv := .c rfl rfl rfl (by rw [List.length_map]; exact Nat.ble_eq_true_of_le (by show (gt l k).toNat + 1 ≤ _; omega)))
          rw [show splice (on.map vb) (gt l k).toNat (Value.bool true).cells.toList = (on.set (gt l k).toNat true).map vb from splice_map (by omega)]
          refine gg ?_
          exact gnx (⟨k + 1, on.set (gt l k).toNat true⟩ : OcX) ⟨by dsimp only; omega, by dsimp only; omega, hO.next h1 hk0 hr.1 hr.2 hb⟩ (by dsimp only; omega)
      · obtain rfl : e = 182 := he.2 fun ho => hr (ho.rng k hk0 hk)
        by_cases h2 : gt l k < 0
        · refine gg ?_
          exact grt () trivial
        · have h3 : n ≤ gt l k := by omega
          refine gg ?_
          exact grt () trivial
    · obtain rfl : k = n := by omega
      obtain rfl : e = 0 := he.1 ⟨hl, hO.rng, hO.inj⟩
      refine gg ?_
      exact grt () trivial
  · obtain rfl : e = 182 := he.2 fun ho => hl ho.len
    refine gg ?_
    exact grt () trivial
end
theorem val_max {P : Program} {w0 : World} {D : List Nat} {Γ : Tm} {σ : List Res} {o : Oper} {x y : Operand} {t1 t2 : TypeId} {k : IntKind} {a b : Int} (hop : o.op = .call { callee := .builtin .max, args := #[x, y], argTypes := #[t1, t2] }) (hx : ev Γ x = some (.int k a)) (hy : ev Γ y = some (.int k b)) : ValOK P w0 D σ Γ o (.int k (max a b)) := by
  refine ⟨fun w hst g hg => ?_⟩
  have e : (if a < b then b else a) = max a b := by
    by_cases h : a < b
    · rw [if_pos h]; omega
    · rw [if_neg h]; omega
  simp [execOp, hop, resolve, invoke, builtin, hg _ _ hx, hg _ _ hy, Builtin.max_, Builtin.max2, Result.andThen, e]
def numS (l : List Int) : Int := l.foldl (fun n c => max n (c + 1)) 0
theorem numS_snoc (l : List Int) (c : Int) : numS (l ++ [c]) = max (numS l) (c + 1) := by unfold numS; rw [List.foldl_append]; rfl
theorem numS_rng : ∀ (l : List Int) {m : Int}, (∀ c ∈ l, -1 ≤ c ∧ c < m) → 0 ≤ m → 0 ≤ numS l ∧ numS l ≤ m := by
  intro l
  have : ∀ (l : List Int) (a m : Int), (∀ c ∈ l, -1 ≤ c ∧ c < m) → 0 ≤ a → a ≤ m → 0 ≤ l.foldl (fun n c => max n (c + 1)) a ∧ l.foldl (fun n c => max n (c + 1)) a ≤ m := by
    intro l
    induction l with
    | nil => intro a m _ h0 h1; exact ⟨h0, h1⟩
    | cons c l ih =>
      intro a m h h0 h1
      have hc := h c (by simp)
      exact ih (max a (c + 1)) m (fun d hd => h d (by simp [hd])) (by omega) (by omega)
  intro m h h0
  exact this l 0 m h (Int.le_refl _) h0
theorem number_c {A : Option Addr} {c : Nat} {l : List Int} (w : World) (hA : Rds vi w A c l) (hr : ∀ c ∈ l, -1 ≤ c ∧ c < 100000) (hl : l.length ≤ 100000) :
    Calls Try.prog 63 [.slice A l.length c].toArray w (one (vi (numS l)) w) := by
  have oA := hA.old
  refine calls_wc [] [] [.tmp 2] (fun _ => [vi (numS l)]) Try.func63 rfl rfl (fun _ => rfl) Try.ntmps63 rfl (Own.nil w) rfl ?_
  refine gg ?_
  refine glp (fun k : Int => 0 ≤ k ∧ k ≤ l.length) (fun k => [(3, vi (numS (l.take k.toNat))), (6, .slice A l.length c), (7, vi l.length), (8, vi k)]) (fun _ => []) (fun k => (l.length - k).toNat) 0 ⟨by omega, by omega⟩ ?_
  rintro k ⟨hk0, hk1⟩
  by_cases hk : k < l.length
  · have hmem := gt_mem (xs := l) hk0 hk
    have hc := hr _ hmem
    have hn := numS_rng (l.take k.toNat) (m := 100000) (fun c hc => hr c (List.mem_of_mem_take hc)) (by omega)
    have e : l.take (k + 1).toNat = l.take k.toNat ++ [gt l k] := by
      rw [show (k + 1).toNat = k.toNat + 1 by omega, List.take_add_one, List.getElem?_eq_getElem (by omega), gt_elem hk0 (by omega)]
      rfl
    refine gg ?_
    refine wl_v rfl rfl rfl (val_max rfl rfl rfl) ?_
    refine gg ?_
    rw [← numS_snoc, ← e]
    exact gnx (k + 1) ⟨by omega, by omega⟩ (by omega)
  · obtain rfl : k = l.length := by omega
    rw [Int.toNat_natCast, List.take_of_length_le (Nat.le_refl _)]
    refine gg ?_
    exact grt () trivial
end Go.Proofs.Ytoiiellaoikojaa
