/- Walks: BinarySearch, find, Has, Count. Walks: find, Has, Count. -/
import Derived.Test.YtoiiellaoikojaaTA
set_option linter.unusedVariables false
set_option linter.unusedSimpArgs false
set_option maxHeartbeats 8000000
namespace Go.Proofs.Ytoiiellaoikojaa
open Go.RowKit
section
variable {P : Program} {w0 : World} {D : List Nat} {Γ : Tm} {σ : List Res} {o : Oper}
/-- int(uint(h) >> 1), h not negative -/
theorem val_conv_u {t t' : TypeId} {x : Operand} {a : Int} (hop : o.op = .convert t t' x) (ht : P.underlying t = some (.int .i64)) (ht' : P.underlying t' = some (.int .u64)) (hx : ev Γ x = some (.int .i64 a)) (h0 : 0 ≤ a) (h1 : a ≤ 9223372036854775807) : ValOK P w0 D σ Γ o (.int .u64 a) :=
  ⟨fun w hst g hg => by
    have e : IntKind.u64.wrap a = a := by simp [IntKind.wrap, IntKind.bits, IntKind.signed]; omega
    simp [execOp, hop, hg _ _ hx, convert, run_underlying ht, run_underlying ht', Conv.intToInt, e, Result.andThen]⟩
theorem val_conv_i {t t' : TypeId} {x : Operand} {a : Int} (hop : o.op = .convert t t' x) (ht : P.underlying t = some (.int .u64)) (ht' : P.underlying t' = some (.int .i64)) (hx : ev Γ x = some (.int .u64 a)) (h0 : 0 ≤ a) (h1 : a ≤ 9223372036854775807) : ValOK P w0 D σ Γ o (.int .i64 a) :=
  ⟨fun w hst g hg => by
    have e : IntKind.i64.wrap a = a := IntWalk.i64_in _ (by omega)
    simp [execOp, hop, hg _ _ hx, convert, run_underlying ht, run_underlying ht', Conv.intToInt, e, Result.andThen]⟩
theorem val_shr1 {t t2 : TypeId} {x y : Operand} {a : Int} (hop : o.op = .binOp .shr t x y t2) (hx : ev Γ x = some (.int .u64 a)) (hy : ev Γ y = some (.int .u64 1)) (h0 : 0 ≤ a) (h1 : a ≤ 9223372036854775807) : ValOK P w0 D σ Γ o (.int .u64 (a / 2)) :=
  ⟨fun w hst g hg => by
    simp [execOp, hop, hg _ _ hx, hg _ _ hy, eqGuard, binOp, Op.shift, Result.andThen, IntKind.bits, Int.fdiv_eq_ediv_of_nonneg]⟩
end

theorem isNaN2_c {x : Int} (w : World) : Calls Try.prog 118 [vi x].toArray w (one (.bool false) w) := by
  refine calls_wc [] [] [.tmp 2] (fun _ => [.bool false]) Try.func118 rfl rfl (fun _ => rfl) Try.ntmps118 rfl (Own.nil w) rfl ?_
  refine gg ?_
  exact grt () trivial
/-- where a rising list has x, or would have it -/
structure At (xs : List Int) (x : Int) (i : Int) (b : Bool) : Prop where
  i0 : 0 ≤ i
  i1 : i ≤ xs.length
  lo : ∀ j, 0 ≤ j → j < i → gt xs j < x
  hi : ∀ j, i ≤ j → j < xs.length → x ≤ gt xs j
  fnd : b = true ↔ i < xs.length ∧ gt xs i = x
theorem search_c {A : Option Addr} {c : Nat} {xs : List Int} {x : Int} (w : World) (h : Rds vi w A c xs) (hl : xs.length ≤ 1000000) (hs : ∀ i j : Int, 0 ≤ i → i ≤ j → j < xs.length → gt xs i ≤ gt xs j) :
    Calls Try.prog 107 [.slice A xs.length c, vi x].toArray w (Ret [] (fun y : Int × Bool => .tuple #[vi y.1, .bool y.2]) (fun _ => []) (fun y => At xs x y.1 y.2) w) := by
  have hr := h.old
  refine calls_wc [] [] [.tmp 4, .tmp 5] (fun y : Int × Bool => [vi y.1, .bool y.2]) Try.func107 rfl rfl (fun _ => rfl) Try.ntmps107 rfl (Own.nil w) rfl ?_
  refine gg ?_
  refine wc_loop (fun y : Int × Int => 0 ≤ y.1 ∧ y.1 ≤ y.2 ∧ y.2 ≤ xs.length ∧ (∀ j, 0 ≤ j → j < y.1 → gt xs j < x) ∧ ∀ j, y.2 ≤ j → j < xs.length → x ≤ gt xs j) (fun y => [(0, .slice A xs.length c), (1, vi x), (6, vi xs.length), (7, vi y.1), (8, vi y.2)]) (fun _ => []) (fun y => (y.2 - y.1).toNat) (0, xs.length)
    ⟨by simp, by simp, by simp, fun j h0 h1 => by simp only at h1; omega, fun j h0 h1 => by simp only at h0; omega⟩ (.cons rfl (.cons rfl (.cons rfl (.cons rfl (.cons rfl .nil))))) rfl ?_
  rintro ⟨i, j⟩ ⟨h0, h1, h2, h3, h4⟩
  dsimp only at h0 h1 h2 h3 h4 ⊢
  by_cases hij : i < j
  · refine gg ?_
    refine wl_v rfl rfl rfl (val_conv_u rfl Try.underlying3 Try.underlying198 rfl (by omega) (by omega)) ?_
    refine wl_v rfl rfl rfl (val_shr1 rfl rfl rfl (by omega) (by omega)) ?_
    refine wl_v rfl rfl rfl (val_conv_i rfl Try.underlying198 Try.underlying3 rfl (by omega) (by omega)) ?_
    obtain ⟨m, hm⟩ : ∃ m, m = (i + j) / 2 := ⟨_, rfl⟩
    rw [← hm]
    have hm0 : i ≤ m := by omega
    have hm1 : m < j := by omega
    refine gg ?_
    by_cases hlt : gt xs m < x
    · refine gc1 (fun w _ => less_t w hlt) (by exact rfl) ?_
      refine gg ?_
      exact ⟨(m + 1, j), ⟨by simp only; omega, by simp only; omega, h2, fun l hl0 hl1 => by
        simp only at hl1
        have := hs l m hl0 (by omega) (by omega)
        omega, h4⟩, .cons rfl (.cons rfl (.cons rfl (.cons rfl (.cons rfl .nil)))), rfl, by simp only; omega⟩
    · have hle : x ≤ gt xs m := by omega
      refine gc1 (fun w _ => less_f w hle) (by exact rfl) ?_
      refine gg ?_
      exact ⟨(i, m), ⟨h0, hm0, by simp only; omega, h3, fun l hl0 hl1 => by
        simp only at hl0
        have := hs m l (by omega) hl0 hl1
        omega⟩, .cons rfl (.cons rfl (.cons rfl (.cons rfl (.cons rfl .nil)))), rfl, by simp only; omega⟩
  · obtain rfl : i = j := by omega
    by_cases hi : i < xs.length
    · by_cases he : gt xs i = x
      · refine gg ?_
        exact ⟨(i, true), _, .cons (rv_tmp rfl) (.cons (rv_tmp rfl) .nil), ⟨h0, h2, h3, h4, by simp [hi, he]⟩, List.Perm.refl _⟩
      · refine gg ?_
        refine gc1 (fun w _ => isNaN2_c (x := gt xs i) w) (by exact rfl) ?_
        refine gg ?_
        exact ⟨(i, false), _, .cons (rv_tmp rfl) (.cons (rv_tmp rfl) .nil), ⟨h0, h2, h3, h4, by simp [he]⟩, List.Perm.refl _⟩
    · refine gg ?_
      exact ⟨(i, false), _, .cons (rv_tmp rfl) (.cons (rv_tmp rfl) .nil), ⟨h0, h2, h3, h4, by simp [hi]⟩, List.Perm.refl _⟩

theorem At.unique {xs : List Int} {x i i' : Int} {b b' : Bool} (h : At xs x i b) (h' : At xs x i' b') : i = i' ∧ b = b' := by
  have e : i = i' := by
    rcases Int.lt_trichotomy i i' with h1 | h1 | h1
    · have h2 := h'.lo i h.i0 h1
      have h3 := h.hi i (Int.le_refl _) (by have := h'.i1; omega)
      omega
    · exact h1
    · have h2 := h.lo i' h'.i0 h1
      have h3 := h'.hi i' (Int.le_refl _) (by have := h.i1; omega)
      omega
  subst e
  refine ⟨rfl, ?_⟩
  rw [Bool.eq_iff_iff, h.fnd, h'.fnd]
noncomputable def pos (xs : List Int) (x : Int) : Int × Bool := Classical.epsilon fun y => At xs x y.1 y.2
theorem pos_at {xs : List Int} {x : Int} {y : Int × Bool} (h : At xs x y.1 y.2) : y = pos xs x ∧ At xs x (pos xs x).1 (pos xs x).2 := by
  have h1 : At xs x (pos xs x).1 (pos xs x).2 := Classical.epsilon_spec (p := fun y : Int × Bool => At xs x y.1 y.2) ⟨y, h⟩
  obtain ⟨e1, e2⟩ := h.unique h1
  exact ⟨Prod.ext e1 e2, h1⟩
theorem search_1 {A : Option Addr} {c : Nat} {xs : List Int} {x : Int} (w : World) (h : Rds vi w A c xs) (hl : xs.length ≤ 1000000) (hs : ∀ i j : Int, 0 ≤ i → i ≤ j → j < xs.length → gt xs i ≤ gt xs j) :
    Calls Try.prog 107 [.slice A xs.length c, vi x].toArray w (one (.tuple #[vi (pos xs x).1, .bool (pos xs x).2]) w) := by
  refine (search_c w h hl hs (x := x)).mono ?_
  rintro e w' ⟨y, rfl, hy, h1, h2, h3, h4⟩
  obtain ⟨rfl, _⟩ := pos_at hy
  exact ⟨(), rfl, trivial, h1, h2, h3, h4⟩
/-- there is such a place in every rising list -/
theorem at_exists : ∀ (xs : List Int) (x : Int), (∀ i j : Int, 0 ≤ i → i ≤ j → j < xs.length → gt xs i ≤ gt xs j) → ∃ y : Int × Bool, At xs x y.1 y.2 := by
  intro xs x hs
  classical
  have key : ∀ n : Nat, n ≤ xs.length → ∃ i : Int, 0 ≤ i ∧ i ≤ n ∧ (∀ j, 0 ≤ j → j < i → gt xs j < x) ∧ ∀ j, i ≤ j → j < n → x ≤ gt xs j := by
    intro n
    induction n with
    | zero => intro _; exact ⟨0, by omega, by omega, fun j _ _ => by omega, fun j _ _ => by omega⟩
    | succ n ih =>
      intro hn
      obtain ⟨i, h0, h1, h2, h3⟩ := ih (by omega)
      by_cases hx : gt xs n < x
      · refine ⟨n + 1, by omega, by omega, fun j hj0 hj1 => ?_, fun j _ _ => by omega⟩
        have := hs j n hj0 (by omega) (by omega)
        omega
      · refine ⟨i, h0, by omega, h2, fun j hj0 hj1 => ?_⟩
        by_cases hjn : j < n
        · exact h3 j hj0 hjn
        · obtain rfl : j = n := by omega
          omega
  obtain ⟨i, h0, h1, h2, h3⟩ := key xs.length (Nat.le_refl _)
  exact ⟨(i, decide (i < xs.length ∧ gt xs i = x)), h0, h1, h2, h3, by simp⟩
section
variable {p : Pat} {A B : Option Addr} {c d : Nat}
abbrev TP' : TypeId := 24
theorem find_c {r x : Int} (w : World) (hA : Rds vi w A c p.start) (hB : Rds vi w B d p.cols) (hm : May p) :
    Calls Try.prog 80 [patV p A c B d, vi r, vi x].toArray w (Ret [] (fun y : Int × Bool => .tuple #[vi y.1, .bool y.2]) (fun _ => []) (fun y => (y.2 = true ↔ HasP p r x) ∧ (y.2 = true → gt p.start r ≤ y.1 ∧ y.1 < gt p.start (r + 1) ∧ gt p.cols y.1 = x)) w) := by
  have oA := hA.old
  have oB := hB.old
  have lA := hA.len
  have lB := hB.len
  have HD := hm.toHead
  obtain ⟨h1, h2, h3, h4, h5, h6, h7, h8⟩ := hm.toHead
  unfold patV
  by_cases hr : 0 ≤ r ∧ r < p.rows
  · obtain ⟨hr0, hr1⟩ := hr
    have g1 := HD.lo hr0 (by omega)
    have g2 := HD.hi (r := r + 1) (by omega) (by omega)
    have g3 := HD.step hr0 hr1
    have hrow := hm.row r hr0 hr1
    have hsl := sub_length p.cols g1 g3 g2
    have hle : (sub p.cols (gt p.start r) (gt p.start (r + 1))).length ≤ 128 := by
      by_cases hz : (sub p.cols (gt p.start r) (gt p.start (r + 1))).length = 0
      · omega
      · have e1 := hrow.le ((gt p.start (r + 1) - gt p.start r).toNat - 1) (i := gt p.start r) (Int.le_refl _) (by omega)
        have e2 := (hrow (gt p.start r) (Int.le_refl _) (by omega)).1
        have e3 := (hrow (gt p.start r + ((gt p.start (r + 1) - gt p.start r).toNat - 1 : Nat)) (by omega) (by omega)).2.1
        omega
    have hs : ∀ i j : Int, 0 ≤ i → i ≤ j → j < (sub p.cols (gt p.start r) (gt p.start (r + 1))).length → gt (sub p.cols (gt p.start r) (gt p.start (r + 1))) i ≤ gt (sub p.cols (gt p.start r) (gt p.start (r + 1))) j := fun i j hi hij hj => by
      rw [gt_sub g1 g3 g2 hi (by omega), gt_sub g1 g3 g2 (by omega) hj]
      by_cases e : i = j
      · subst e; omega
      · have := hrow.lt (i := gt p.start r + i) (j := gt p.start r + j) (by omega) (by omega) (by omega)
        omega
    obtain ⟨y, hy⟩ := at_exists (sub p.cols (gt p.start r) (gt p.start (r + 1))) x hs
    obtain ⟨rfl, hy⟩ := pos_at hy
    have hy0 := hy.i0
    have hy1 := hy.i1
    have hfin : ((pos (sub p.cols (gt p.start r) (gt p.start (r + 1))) x).2 = true ↔ HasP p r x) ∧ ((pos (sub p.cols (gt p.start r) (gt p.start (r + 1))) x).2 = true → gt p.start r ≤ gt p.start r + (pos (sub p.cols (gt p.start r) (gt p.start (r + 1))) x).1 ∧ gt p.start r + (pos (sub p.cols (gt p.start r) (gt p.start (r + 1))) x).1 < gt p.start (r + 1) ∧ gt p.cols (gt p.start r + (pos (sub p.cols (gt p.start r) (gt p.start (r + 1))) x).1) = x) := by
      have key : (pos (sub p.cols (gt p.start r) (gt p.start (r + 1))) x).2 = true → gt p.start r ≤ gt p.start r + (pos (sub p.cols (gt p.start r) (gt p.start (r + 1))) x).1 ∧ gt p.start r + (pos (sub p.cols (gt p.start r) (gt p.start (r + 1))) x).1 < gt p.start (r + 1) ∧ gt p.cols (gt p.start r + (pos (sub p.cols (gt p.start r) (gt p.start (r + 1))) x).1) = x := fun hb => by
        obtain ⟨e1, e2⟩ := hy.fnd.1 hb
        rw [gt_sub g1 g3 g2 hy0 e1] at e2
        exact ⟨by omega, by omega, e2⟩
      refine ⟨⟨fun hb => ?_, fun ⟨_, _, k, k1, k2, k3⟩ => ?_⟩, key⟩
      · obtain ⟨e1, e2, e3⟩ := key hb
        exact ⟨hr0, hr1, _, e1, e2, e3⟩
      · refine hy.fnd.2 ?_
        have hk := gt_sub (xs := p.cols) g1 g3 g2 (i := k - gt p.start r) (by omega) (by omega)
        rw [show gt p.start r + (k - gt p.start r) = k by omega, k3] at hk
        have e1 : ¬ k - gt p.start r < (pos (sub p.cols (gt p.start r) (gt p.start (r + 1))) x).1 := fun hlt => by
          have := hy.lo _ (by omega) hlt; omega
        have e2 : ¬ (pos (sub p.cols (gt p.start r) (gt p.start (r + 1))) x).1 < k - gt p.start r := fun hlt => by
          have e3 := hy.hi _ (Int.le_refl _) (by omega)
          rw [gt_sub g1 g3 g2 hy0 (by omega)] at e3
          have := hrow.lt (i := gt p.start r + (pos (sub p.cols (gt p.start r) (gt p.start (r + 1))) x).1) (j := k) (by omega) (by omega) k2
          omega
        have e3 : (pos (sub p.cols (gt p.start r) (gt p.start (r + 1))) x).1 = k - gt p.start r := by omega
        rw [e3]
        exact ⟨by omega, hk⟩
    refine calls_wc [] [] [.tmp 6, .tmp 7] (fun y : Int × Bool => [vi y.1, .bool y.2]) Try.func80 rfl rfl (fun _ => rfl) Try.ntmps80 rfl (Own.nil w) rfl ?_
    refine gg ?_
    refine wl_op (ok_box rfl rfl rfl rfl rfl ?_); intro bp
    refine gg ?_
    refine wc_quiet mixed (by kernel_rfl) ?_
    refine gg ?_
    refine wq_slice oB rfl rfl rfl rfl rfl rfl rfl (el_of rfl) (sz_of rfl) g1 g3 g2 ?_
    intro A' c' hsub
    refine gg ?_
    refine gc2 (fun w hst => search_1 w (hsub.now hst) (by omega) hs (x := x)) (by exact rfl) ?_
    refine gg ?_
    exact ⟨(gt p.start r + (pos (sub p.cols (gt p.start r) (gt p.start (r + 1))) x).1, (pos (sub p.cols (gt p.start r) (gt p.start (r + 1))) x).2), _, .cons (rv_tmp rfl) (.cons (rv_tmp rfl) .nil), hfin, List.Perm.refl _⟩
  · have hno : ¬ HasP p r x := fun h => hr ⟨h.1, h.2.1⟩
    by_cases hr0 : 0 ≤ r
    all_goals
      refine calls_wc [] [] [.tmp 6, .tmp 7] (fun y : Int × Bool => [vi y.1, .bool y.2]) Try.func80 rfl rfl (fun _ => rfl) Try.ntmps80 rfl (Own.nil w) rfl ?_
      refine gg ?_
      refine wl_op (ok_box rfl rfl rfl rfl rfl ?_); intro bp
      refine gg ?_
      exact ⟨(0, false), _, .cons (rv_tmp rfl) (.cons (rv_tmp rfl) .nil), ⟨by simp [hno], by simp⟩, List.Perm.refl _⟩

theorem has_c {r x : Int} (w : World) (hA : Rds vi w A c p.start) (hB : Rds vi w B d p.cols) (b : Bool) (hb : b = true ↔ May p ∧ HasP p r x) :
    Calls Try.prog 40 [patV p A c B d, vi r, vi x].toArray w (one (.bool b) w) := by
  have oA := hA.old
  have oB := hB.old
  by_cases hm : May p
  · unfold patV
    refine calls_wc [] [] [.tmp 6] (fun _ => [.bool b]) Try.func40 rfl rfl (fun _ => rfl) Try.ntmps40 rfl (Own.nil w) rfl ?_
    refine gg ?_
    refine wl_op (ok_box rfl rfl rfl rfl rfl ?_); intro bp
    refine gg ?_
    refine gc1 (fun w hst => may_t (oA.now hst) (oB.now hst) hm) (by exact rfl) ?_
    refine gg ?_
    refine wl_callr [] _ (fun w hst => find_c (p := p) (r := r) (x := x) w (oA.now hst) (oB.now hst) hm) (by rfl) (by rfl) (bod_of rfl) (by rfl) (by rfl) (by rfl) (List.Perm.refl _) ?_
    rintro ⟨k, b'⟩ ⟨hk, _⟩
    have : b' = b := by rw [Bool.eq_iff_iff, hb]; exact hk.trans ⟨fun h => ⟨hm, h⟩, fun h => h.2⟩
    subst this
    refine gg ?_
    exact grt () trivial
  · have hbf : b = false := by cases b with | false => rfl | true => exact absurd (hb.1 rfl).1 hm
    subst hbf
    unfold patV
    refine calls_wc [] [] [.tmp 6] (fun _ => [.bool false]) Try.func40 rfl rfl (fun _ => rfl) Try.ntmps40 rfl (Own.nil w) rfl ?_
    refine gg ?_
    refine wl_op (ok_box rfl rfl rfl rfl rfl ?_); intro bp
    refine gg ?_
    refine gc1 (fun w hst => may_f (oA.now hst) (oB.now hst) hm) (by exact rfl) ?_
    refine gg ?_
    exact grt () trivial
end
end Go.Proofs.Ytoiiellaoikojaa
