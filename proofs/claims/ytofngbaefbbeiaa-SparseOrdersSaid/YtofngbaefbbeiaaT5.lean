/- Walks: BinarySearch, find, Has, Count. -/
import Derived.Test.YtofngbaefbbeiaaT0
set_option linter.unusedVariables false
set_option linter.unusedSimpArgs false
set_option maxHeartbeats 8000000
namespace Go.Proofs.Ytofngbaefbbeiaa
open Go.RowKit

section
variable {P : Program} {w0 : World} {D : List Nat} {Γ : Tm} {σ : List Res} {o : Oper}
/-- int(uint(h) >> 1), h not negative -/
theorem val_conv_u {t t' : TypeId} {x : Operand} {a : Int} (hop : o.op = .convert t t' x) (ht : P.underlying t = some (.int .i64)) (ht' : P.underlying t' = some (.int .u64)) (hx : ev Γ x = some (.int .i64 a)) (h0 : 0 ≤ a) (h1 : a ≤ 9223372036854775807) : ValOK P w0 D σ Γ o (.int .u64 a) :=
  ⟨fun w hst g hg => by
    have e : IntKind.u64.wrap a = a := by simp [IntKind.wrap, IntKind.bits, IntKind.signed]; omega
    simp [execOp, hop, hg _ _ hx, convert, run_underlying ht, run_underlying ht', Conv.intToInt, e, Result.andThen]⟩
theorem val_conv_i {t t' : TypeId} {x : Operand} {a : Int} (hop : o.op = .convert t t' x) (ht : P.underlying t = some (.int .u64)) (ht' : P.underlying t' = some (.int .i64)) (hx : ev Γ x = some (.int .u64 a)) (h0 : 0 ≤ a) (h1 : a ≤ 9223372036854775807) : ValOK P w0 D σ Γ o (.int .i64 a) :=
  ⟨fun w hst g hg => by
    have e : IntKind.i64.wrap a = a := IntWalk.i64_in _ (by omega)
    simp [execOp, hop, hg _ _ hx, convert, run_underlying ht, run_underlying ht', Conv.intToInt, e, Result.andThen]⟩
theorem val_shr1 {t t2 : TypeId} {x y : Operand} {a : Int} (hop : o.op = .binOp .shr t x y t2) (hx : ev Γ x = some (.int .u64 a)) (hy : ev Γ y = some (.int .u64 1)) (h0 : 0 ≤ a) (h1 : a ≤ 9223372036854775807) : ValOK P w0 D σ Γ o (.int .u64 (a / 2)) :=
  ⟨fun w hst g hg => by
    simp [execOp, hop, hg _ _ hx, hg _ _ hy, eqGuard, binOp, Op.shift, Result.andThen, IntKind.bits, Int.fdiv_eq_ediv_of_nonneg]⟩
end

theorem isNaN2_c {x : Int} (w : World) : Calls Try.prog 139 [vi x].toArray w (one (.bool false) w) := by
  refine calls_wc [] [] [.tmp 2] (fun _ => [.bool false]) Try.func139 rfl rfl (fun _ => rfl) Try.ntmps139 rfl (Own.nil w) rfl ?_
  (repeat (first | with_reducible refine thenQ_normal ?_ | with_reducible refine thenQ_exit ?_ | with_reducible refine thenQ_ret ?_ | with_reducible refine blkQ_normal ?_ | with_reducible refine blkQ_ret ?_ | with_reducible refine blkQ_hit ?_ | (with_reducible refine blkQ_miss ?_ ?_; · rfl) | refine wc_seq ?_ | refine wc_skip ?_ | refine wc_block ?_ | refine wc_true rfl ?_ | refine wc_false rfl ?_ | refine wc_exit ?_ | refine wc_ret ?_ | (refine wc_region ?_; repeat (first | refine gp1 (by exact rfl) ?_ | refine gl1 (by exact rfl) ?_ | refine gb1 (by exact rfl) ?_ | refine gi1 (by exact rfl) ?_ | refine gt1 (by exact rfl) ?_)) | refine wl_nil ?_ | refine wq_nil ?_ | refine gp1 (by exact rfl) ?_ | refine gl1 (by exact rfl) ?_ | refine gb1 (by exact rfl) ?_ | refine gi1 (by exact rfl) ?_ | refine gt1 (by exact rfl) ?_ | refine gp2 (by exact rfl) ?_ | refine gl2 (by exact rfl) ?_ | refine gb2 (by exact rfl) ?_ | refine gi2 (by exact rfl) ?_))
  exact grt () trivial
/-- where a rising list has x, or would have it -/
structure At (xs : List Int) (x : Int) (i : Int) (b : Bool) : Prop where
  i0 : 0 ≤ i
  i1 : i ≤ xs.length
  lo : ∀ j, 0 ≤ j → j < i → gt xs j < x
  hi : ∀ j, i ≤ j → j < xs.length → x ≤ gt xs j
  fnd : b = true ↔ i < xs.length ∧ gt xs i = x
theorem search_c {A : Option Addr} {c : Nat} {xs : List Int} {x : Int} (w : World) (h : Rds vi w A c xs) (hl : xs.length ≤ 1000000) (hs : ∀ i j : Int, 0 ≤ i → i ≤ j → j < xs.length → gt xs i ≤ gt xs j) :
    Calls Try.prog 120 [.slice A xs.length c, vi x].toArray w (Ret [] (fun y : Int × Bool => .tuple #[vi y.1, .bool y.2]) (fun _ => []) (fun y => At xs x y.1 y.2) w) := by
  have hr := h.old
  refine calls_wc [] [] [.tmp 4, .tmp 5] (fun y : Int × Bool => [vi y.1, .bool y.2]) Try.func120 rfl rfl (fun _ => rfl) Try.ntmps120 rfl (Own.nil w) rfl ?_
  (repeat (first | with_reducible refine thenQ_normal ?_ | with_reducible refine thenQ_exit ?_ | with_reducible refine thenQ_ret ?_ | with_reducible refine blkQ_normal ?_ | with_reducible refine blkQ_ret ?_ | with_reducible refine blkQ_hit ?_ | (with_reducible refine blkQ_miss ?_ ?_; · rfl) | refine wc_seq ?_ | refine wc_skip ?_ | refine wc_block ?_ | refine wc_true rfl ?_ | refine wc_false rfl ?_ | refine wc_exit ?_ | refine wc_ret ?_ | (refine wc_region ?_; repeat (first | refine gp1 (by exact rfl) ?_ | refine gl1 (by exact rfl) ?_ | refine gb1 (by exact rfl) ?_ | refine gi1 (by exact rfl) ?_ | refine gt1 (by exact rfl) ?_)) | refine wl_nil ?_ | refine wq_nil ?_ | refine gp1 (by exact rfl) ?_ | refine gl1 (by exact rfl) ?_ | refine gb1 (by exact rfl) ?_ | refine gi1 (by exact rfl) ?_ | refine gt1 (by exact rfl) ?_ | refine gp2 (by exact rfl) ?_ | refine gl2 (by exact rfl) ?_ | refine gb2 (by exact rfl) ?_ | refine gi2 (by exact rfl) ?_))
  refine wc_loop (fun y : Int × Int => 0 ≤ y.1 ∧ y.1 ≤ y.2 ∧ y.2 ≤ xs.length ∧ (∀ j, 0 ≤ j → j < y.1 → gt xs j < x) ∧ ∀ j, y.2 ≤ j → j < xs.length → x ≤ gt xs j) (fun y => [(0, .slice A xs.length c), (1, vi x), (6, vi xs.length), (7, vi y.1), (8, vi y.2)]) (fun _ => []) (fun y => (y.2 - y.1).toNat) (0, xs.length)
    ⟨by simp, by simp, by simp, fun j h0 h1 => by simp only at h1; omega, fun j h0 h1 => by simp only at h0; omega⟩ (.cons rfl (.cons rfl (.cons rfl (.cons rfl (.cons rfl .nil))))) rfl ?_
  rintro ⟨i, j⟩ ⟨h0, h1, h2, h3, h4⟩
  dsimp only at h0 h1 h2 h3 h4 ⊢
  by_cases hij : i < j
  · (repeat (first | with_reducible refine thenQ_normal ?_ | with_reducible refine thenQ_exit ?_ | with_reducible refine thenQ_ret ?_ | with_reducible refine blkQ_normal ?_ | with_reducible refine blkQ_ret ?_ | with_reducible refine blkQ_hit ?_ | (with_reducible refine blkQ_miss ?_ ?_; · rfl) | refine wc_seq ?_ | refine wc_skip ?_ | refine wc_block ?_ | refine wc_true rfl ?_ | refine wc_false rfl ?_ | refine wc_exit ?_ | refine wc_ret ?_ | (refine wc_region ?_; repeat (first | refine gp1 (by exact rfl) ?_ | refine gl1 (by exact rfl) ?_ | refine gb1 (by exact rfl) ?_ | refine gi1 (by exact rfl) ?_ | refine gt1 (by exact rfl) ?_)) | refine wl_nil ?_ | refine wq_nil ?_ | refine gp1 (by exact rfl) ?_ | refine gl1 (by exact rfl) ?_ | refine gb1 (by exact rfl) ?_ | refine gi1 (by exact rfl) ?_ | refine gt1 (by exact rfl) ?_ | refine gp2 (by exact rfl) ?_ | refine gl2 (by exact rfl) ?_ | refine gb2 (by exact rfl) ?_ | refine gi2 (by exact rfl) ?_))
    refine wl_v rfl rfl rfl (val_conv_u rfl Try.underlying3 Try.underlying194 rfl (by omega) (by omega)) ?_
    refine wl_v rfl rfl rfl (val_shr1 rfl rfl rfl (by omega) (by omega)) ?_
    refine wl_v rfl rfl rfl (val_conv_i rfl Try.underlying194 Try.underlying3 rfl (by omega) (by omega)) ?_
    obtain ⟨m, hm⟩ : ∃ m, m = (i + j) / 2 := ⟨_, rfl⟩
    rw [← hm]
    have hm0 : i ≤ m := by omega
    have hm1 : m < j := by omega
    (repeat (first | with_reducible refine thenQ_normal ?_ | with_reducible refine thenQ_exit ?_ | with_reducible refine thenQ_ret ?_ | with_reducible refine blkQ_normal ?_ | with_reducible refine blkQ_ret ?_ | with_reducible refine blkQ_hit ?_ | (with_reducible refine blkQ_miss ?_ ?_; · rfl) | refine wc_seq ?_ | refine wc_skip ?_ | refine wc_block ?_ | refine wc_true rfl ?_ | refine wc_false rfl ?_ | refine wc_exit ?_ | refine wc_ret ?_ | (refine wc_region ?_; repeat (first | refine gp1 (by exact rfl) ?_ | refine gl1 (by exact rfl) ?_ | refine gb1 (by exact rfl) ?_ | refine gi1 (by exact rfl) ?_ | refine gt1 (by exact rfl) ?_)) | refine wl_nil ?_ | refine wq_nil ?_ | refine gp1 (by exact rfl) ?_ | refine gl1 (by exact rfl) ?_ | refine gb1 (by exact rfl) ?_ | refine gi1 (by exact rfl) ?_ | refine gt1 (by exact rfl) ?_ | refine gp2 (by exact rfl) ?_ | refine gl2 (by exact rfl) ?_ | refine gb2 (by exact rfl) ?_ | refine gi2 (by exact rfl) ?_))
    by_cases hlt : gt xs m < x
    · refine gc1 (fun w _ => less_t w hlt) (by exact rfl) ?_
      (repeat (first | with_reducible refine thenQ_normal ?_ | with_reducible refine thenQ_exit ?_ | with_reducible refine thenQ_ret ?_ | with_reducible refine blkQ_normal ?_ | with_reducible refine blkQ_ret ?_ | with_reducible refine blkQ_hit ?_ | (with_reducible refine blkQ_miss ?_ ?_; · rfl) | refine wc_seq ?_ | refine wc_skip ?_ | refine wc_block ?_ | refine wc_true rfl ?_ | refine wc_false rfl ?_ | refine wc_exit ?_ | refine wc_ret ?_ | (refine wc_region ?_; repeat (first | refine gp1 (by exact rfl) ?_ | refine gl1 (by exact rfl) ?_ | refine gb1 (by exact rfl) ?_ | refine gi1 (by exact rfl) ?_ | refine gt1 (by exact rfl) ?_)) | refine wl_nil ?_ | refine wq_nil ?_ | refine gp1 (by exact rfl) ?_ | refine gl1 (by exact rfl) ?_ | refine gb1 (by exact rfl) ?_ | refine gi1 (by exact rfl) ?_ | refine gt1 (by exact rfl) ?_ | refine gp2 (by exact rfl) ?_ | refine gl2 (by exact rfl) ?_ | refine gb2 (by exact rfl) ?_ | refine gi2 (by exact rfl) ?_))
      exact ⟨(m + 1, j), ⟨by simp only; omega, by simp only; omega, h2, fun l hl0 hl1 => by
        simp only at hl1
        have := hs l m hl0 (by omega) (by omega)
        omega, h4⟩, .cons rfl (.cons rfl (.cons rfl (.cons rfl (.cons rfl .nil)))), rfl, by simp only; omega⟩
    · have hle : x ≤ gt xs m := by omega
      refine gc1 (fun w _ => less_f w hle) (by exact rfl) ?_
      (repeat (first | with_reducible refine thenQ_normal ?_ | with_reducible refine thenQ_exit ?_ | with_reducible refine thenQ_ret ?_ | with_reducible refine blkQ_normal ?_ | with_reducible refine blkQ_ret ?_ | with_reducible refine blkQ_hit ?_ | (with_reducible refine blkQ_miss ?_ ?_; · rfl) | refine wc_seq ?_ | refine wc_skip ?_ | refine wc_block ?_ | refine wc_true rfl ?_ | refine wc_false rfl ?_ | refine wc_exit ?_ | refine wc_ret ?_ | (refine wc_region ?_; repeat (first | refine gp1 (by exact rfl) ?_ | refine gl1 (by exact rfl) ?_ | refine gb1 (by exact rfl) ?_ | refine gi1 (by exact rfl) ?_ | refine gt1 (by exact rfl) ?_)) | refine wl_nil ?_ | refine wq_nil ?_ | refine gp1 (by exact rfl) ?_ | refine gl1 (by exact rfl) ?_ | refine gb1 (by exact rfl) ?_ | refine gi1 (by exact rfl) ?_ | refine gt1 (by exact rfl) ?_ | refine gp2 (by exact rfl) ?_ | refine gl2 (by exact rfl) ?_ | refine gb2 (by exact rfl) ?_ | refine gi2 (by exact rfl) ?_))
      exact ⟨(i, m), ⟨h0, hm0, by simp only; omega, h3, fun l hl0 hl1 => by
        simp only at hl0
        have := hs m l (by omega) hl0 hl1
        omega⟩, .cons rfl (.cons rfl (.cons rfl (.cons rfl (.cons rfl .nil)))), rfl, by simp only; omega⟩
  · obtain rfl : i = j := by omega
    by_cases hi : i < xs.length
    · by_cases he : gt xs i = x
      · (repeat (first | with_reducible refine thenQ_normal ?_ | with_reducible refine thenQ_exit ?_ | with_reducible refine thenQ_ret ?_ | with_reducible refine blkQ_normal ?_ | with_reducible refine blkQ_ret ?_ | with_reducible refine blkQ_hit ?_ | (with_reducible refine blkQ_miss ?_ ?_; · rfl) | refine wc_seq ?_ | refine wc_skip ?_ | refine wc_block ?_ | refine wc_true rfl ?_ | refine wc_false rfl ?_ | refine wc_exit ?_ | refine wc_ret ?_ | (refine wc_region ?_; repeat (first | refine gp1 (by exact rfl) ?_ | refine gl1 (by exact rfl) ?_ | refine gb1 (by exact rfl) ?_ | refine gi1 (by exact rfl) ?_ | refine gt1 (by exact rfl) ?_)) | refine wl_nil ?_ | refine wq_nil ?_ | refine gp1 (by exact rfl) ?_ | refine gl1 (by exact rfl) ?_ | refine gb1 (by exact rfl) ?_ | refine gi1 (by exact rfl) ?_ | refine gt1 (by exact rfl) ?_ | refine gp2 (by exact rfl) ?_ | refine gl2 (by exact rfl) ?_ | refine gb2 (by exact rfl) ?_ | refine gi2 (by exact rfl) ?_))
        exact ⟨(i, true), _, .cons (rv_tmp rfl) (.cons (rv_tmp rfl) .nil), ⟨h0, h2, h3, h4, by simp [hi, he]⟩, List.Perm.refl _⟩
      · (repeat (first | with_reducible refine thenQ_normal ?_ | with_reducible refine thenQ_exit ?_ | with_reducible refine thenQ_ret ?_ | with_reducible refine blkQ_normal ?_ | with_reducible refine blkQ_ret ?_ | with_reducible refine blkQ_hit ?_ | (with_reducible refine blkQ_miss ?_ ?_; · rfl) | refine wc_seq ?_ | refine wc_skip ?_ | refine wc_block ?_ | refine wc_true rfl ?_ | refine wc_false rfl ?_ | refine wc_exit ?_ | refine wc_ret ?_ | (refine wc_region ?_; repeat (first | refine gp1 (by exact rfl) ?_ | refine gl1 (by exact rfl) ?_ | refine gb1 (by exact rfl) ?_ | refine gi1 (by exact rfl) ?_ | refine gt1 (by exact rfl) ?_)) | refine wl_nil ?_ | refine wq_nil ?_ | refine gp1 (by exact rfl) ?_ | refine gl1 (by exact rfl) ?_ | refine gb1 (by exact rfl) ?_ | refine gi1 (by exact rfl) ?_ | refine gt1 (by exact rfl) ?_ | refine gp2 (by exact rfl) ?_ | refine gl2 (by exact rfl) ?_ | refine gb2 (by exact rfl) ?_ | refine gi2 (by exact rfl) ?_))
        refine gc1 (fun w _ => isNaN2_c (x := gt xs i) w) (by exact rfl) ?_
        (repeat (first | with_reducible refine thenQ_normal ?_ | with_reducible refine thenQ_exit ?_ | with_reducible refine thenQ_ret ?_ | with_reducible refine blkQ_normal ?_ | with_reducible refine blkQ_ret ?_ | with_reducible refine blkQ_hit ?_ | (with_reducible refine blkQ_miss ?_ ?_; · rfl) | refine wc_seq ?_ | refine wc_skip ?_ | refine wc_block ?_ | refine wc_true rfl ?_ | refine wc_false rfl ?_ | refine wc_exit ?_ | refine wc_ret ?_ | (refine wc_region ?_; repeat (first | refine gp1 (by exact rfl) ?_ | refine gl1 (by exact rfl) ?_ | refine gb1 (by exact rfl) ?_ | refine gi1 (by exact rfl) ?_ | refine gt1 (by exact rfl) ?_)) | refine wl_nil ?_ | refine wq_nil ?_ | refine gp1 (by exact rfl) ?_ | refine gl1 (by exact rfl) ?_ | refine gb1 (by exact rfl) ?_ | refine gi1 (by exact rfl) ?_ | refine gt1 (by exact rfl) ?_ | refine gp2 (by exact rfl) ?_ | refine gl2 (by exact rfl) ?_ | refine gb2 (by exact rfl) ?_ | refine gi2 (by exact rfl) ?_))
        exact ⟨(i, false), _, .cons (rv_tmp rfl) (.cons (rv_tmp rfl) .nil), ⟨h0, h2, h3, h4, by simp [he]⟩, List.Perm.refl _⟩
    · (repeat (first | with_reducible refine thenQ_normal ?_ | with_reducible refine thenQ_exit ?_ | with_reducible refine thenQ_ret ?_ | with_reducible refine blkQ_normal ?_ | with_reducible refine blkQ_ret ?_ | with_reducible refine blkQ_hit ?_ | (with_reducible refine blkQ_miss ?_ ?_; · rfl) | refine wc_seq ?_ | refine wc_skip ?_ | refine wc_block ?_ | refine wc_true rfl ?_ | refine wc_false rfl ?_ | refine wc_exit ?_ | refine wc_ret ?_ | (refine wc_region ?_; repeat (first | refine gp1 (by exact rfl) ?_ | refine gl1 (by exact rfl) ?_ | refine gb1 (by exact rfl) ?_ | refine gi1 (by exact rfl) ?_ | refine gt1 (by exact rfl) ?_)) | refine wl_nil ?_ | refine wq_nil ?_ | refine gp1 (by exact rfl) ?_ | refine gl1 (by exact rfl) ?_ | refine gb1 (by exact rfl) ?_ | refine gi1 (by exact rfl) ?_ | refine gt1 (by exact rfl) ?_ | refine gp2 (by exact rfl) ?_ | refine gl2 (by exact rfl) ?_ | refine gb2 (by exact rfl) ?_ | refine gi2 (by exact rfl) ?_))
      exact ⟨(i, false), _, .cons (rv_tmp rfl) (.cons (rv_tmp rfl) .nil), ⟨h0, h2, h3, h4, by simp [hi]⟩, List.Perm.refl _⟩

theorem At.unique {xs : List Int} {x i i' : Int} {b b' : Bool} (h : At xs x i b) (h' : At xs x i' b') : i = i' ∧ b = b' := by
  have e : i = i' := by
    rcases Int.lt_trichotomy i i' with h1 | h1 | h1
    · have h2 := h'.lo i h.i0 h1
      have h3 := h.hi i (Int.le_refl _) (by have := h'.i1; omega)
      omega
    · exact h1
    · have h2 := h.lo i' h'.i0 h1
      have h3 := h'.hi i' (Int.le_refl _) (by have := h.i1; omega)
      omega
  subst e
  refine ⟨rfl, ?_⟩
  rw [Bool.eq_iff_iff, h.fnd, h'.fnd]
noncomputable def pos (xs : List Int) (x : Int) : Int × Bool := Classical.epsilon fun y => At xs x y.1 y.2
theorem pos_at {xs : List Int} {x : Int} {y : Int × Bool} (h : At xs x y.1 y.2) : y = pos xs x ∧ At xs x (pos xs x).1 (pos xs x).2 := by
  have h1 : At xs x (pos xs x).1 (pos xs x).2 := Classical.epsilon_spec (p := fun y : Int × Bool => At xs x y.1 y.2) ⟨y, h⟩
  obtain ⟨e1, e2⟩ := h.unique h1
  exact ⟨Prod.ext e1 e2, h1⟩
theorem search_1 {A : Option Addr} {c : Nat} {xs : List Int} {x : Int} (w : World) (h : Rds vi w A c xs) (hl : xs.length ≤ 1000000) (hs : ∀ i j : Int, 0 ≤ i → i ≤ j → j < xs.length → gt xs i ≤ gt xs j) :
    Calls Try.prog 120 [.slice A xs.length c, vi x].toArray w (one (.tuple #[vi (pos xs x).1, .bool (pos xs x).2]) w) := by
  refine (search_c w h hl hs (x := x)).mono ?_
  rintro e w' ⟨y, rfl, hy, h1, h2, h3, h4⟩
  obtain ⟨rfl, _⟩ := pos_at hy
  exact ⟨(), rfl, trivial, h1, h2, h3, h4⟩
/-- there is such a place in every rising list -/
theorem at_exists : ∀ (xs : List Int) (x : Int), (∀ i j : Int, 0 ≤ i → i ≤ j → j < xs.length → gt xs i ≤ gt xs j) → ∃ y : Int × Bool, At xs x y.1 y.2 := by
  intro xs x hs
  classical
  have key : ∀ n : Nat, n ≤ xs.length → ∃ i : Int, 0 ≤ i ∧ i ≤ n ∧ (∀ j, 0 ≤ j → j < i → gt xs j < x) ∧ ∀ j, i ≤ j → j < n → x ≤ gt xs j := by
    intro n
    induction n with
    | zero => intro _; exact ⟨0, by omega, by omega, fun j _ _ => by omega, fun j _ _ => by omega⟩
    | succ n ih =>
      intro hn
      obtain ⟨i, h0, h1, h2, h3⟩ := ih (by omega)
      by_cases hx : gt xs n < x
      · refine ⟨n + 1, by omega, by omega, fun j hj0 hj1 => ?_, fun j _ _ => by omega⟩
        have := hs j n hj0 (by omega) (by omega)
        omega
      · refine ⟨i, h0, by omega, h2, fun j hj0 hj1 => ?_⟩
        by_cases hjn : j < n
        · exact h3 j hj0 hjn
        · obtain rfl : j = n := by omega
          omega
  obtain ⟨i, h0, h1, h2, h3⟩ := key xs.length (Nat.le_refl _)
  exact ⟨(i, decide (i < xs.length ∧ gt xs i = x)), h0, h1, h2, h3, by simp⟩
end Go.Proofs.Ytofngbaefbbeiaa
