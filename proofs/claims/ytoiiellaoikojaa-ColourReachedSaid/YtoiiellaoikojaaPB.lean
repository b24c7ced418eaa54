/- Plain facts: patterns and tables of truths are the same thing: no program. What the calls answer, plainly: no program. -/
import Derived.Test.YtoiiellaoikojaaPl
import Derived.Test.YtoiiellaoikojaaTD
import Derived.Test.YtoiiellaoikojaaGA
set_option linter.unusedVariables false
set_option linter.unusedSimpArgs false
set_option maxHeartbeats 8000000
namespace Go.Proofs.Ytoiiellaoikojaa
section
variable {α : Type} [Inhabited α]
theorem gt_left {xs ys : List α} {i : Int} (h0 : 0 ≤ i) (h1 : i < xs.length) : gt (xs ++ ys) i = gt xs i := by
  unfold gt
  simp only [List.getD_eq_getElem?_getD]
  rw [List.getElem?_append_left (by omega)]
theorem gt_right {xs ys : List α} {i : Int} (h1 : (xs.length : Int) ≤ i) : gt (xs ++ ys) i = gt ys (i - xs.length) := by
  unfold gt
  simp only [List.getD_eq_getElem?_getD]
  rw [List.getElem?_append_right (by omega), show i.toNat - xs.length = (i - xs.length).toNat by omega]
theorem gt_elem {xs : List α} {i : Int} (h0 : 0 ≤ i) (h1 : i < xs.length) : gt xs i = xs[i.toNat]'(by omega) := by
  unfold gt
  simp only [List.getD_eq_getElem?_getD]
  rw [List.getElem?_eq_getElem (by omega)]
  rfl
theorem gt_mem {xs : List α} {i : Int} (h0 : 0 ≤ i) (h1 : i < xs.length) : gt xs i ∈ xs := by
  rw [gt_elem h0 h1]; exact List.getElem_mem _
theorem mem_gt {xs : List α} {y : α} (h : y ∈ xs) : ∃ i : Int, 0 ≤ i ∧ i < xs.length ∧ gt xs i = y := by
  obtain ⟨k, hk, rfl⟩ := List.mem_iff_getElem.1 h
  exact ⟨k, by omega, by omega, by rw [gt_elem (by omega) (by omega)]; simp⟩
end
theorem pair_gt {l : List Int} (h : l.Pairwise (· < ·)) {i j : Int} (h0 : 0 ≤ i) (h1 : i < j) (h2 : j < l.length) : gt l i < gt l j := by
  rw [gt_elem h0 (by omega), gt_elem (by omega) h2]
  exact List.pairwise_iff_getElem.1 h _ _ _ _ (by omega)
theorem gt_flatten : ∀ (L : List (List Int)) (r : Nat) (hr : r < L.length) (j : Int), 0 ≤ j → j < (L[r]).length → gt L.flatten (((L.take r).flatten.length : Int) + j) = gt L[r] j
  | [], r, hr, _, _, _ => by simp at hr
  | a :: L, 0, _, j, h0, h1 => by
    simp only [List.take_zero, List.flatten_nil, List.length_nil, List.flatten_cons, List.getElem_cons_zero] at h1 ⊢
    rw [gt_left (by omega) (by omega)]
    congr 1; omega
  | a :: L, r + 1, hr, j, h0, h1 => by
    simp only [List.take_succ_cons, List.flatten_cons, List.length_append, List.getElem_cons_succ] at h1 ⊢
    rw [gt_right (by omega), ← gt_flatten L r (by simpa using hr) j h0 h1]
    congr 1; omega
theorem gt_starts : ∀ (s : Int) (L : List (List Int)) (r : Nat), r ≤ L.length → gt (starts s L) r = s + ((L.take r).flatten.length : Int)
  | s, [], r, hr => by
    obtain rfl : r = 0 := by simpa using hr
    simp [starts, gt]
  | s, a :: L, 0, _ => by simp [starts, gt]
  | s, a :: L, r + 1, hr => by
    have ih := gt_starts (s + a.length) L r (by simpa using hr)
    have e : gt (starts s (a :: L)) ((r + 1 : Nat) : Int) = gt (starts (s + a.length) L) r := by
      unfold gt
      rw [starts]
      simp only [List.getD_eq_getElem?_getD]
      rw [show (((r + 1 : Nat) : Int)).toNat = r + 1 by omega, show ((r : Int)).toNat = r by omega]
      rfl
    rw [e, ih]
    simp only [List.take_succ_cons, List.flatten_cons, List.length_append]
    push_cast
    omega
def flen (m : Nat) (S : Int → Int → Bool) (r : Nat) : Int := (((rowsOf m S).take r).flatten.length : Int)
theorem rowsOf_length (m : Nat) (S : Int → Int → Bool) : (rowsOf m S).length = m := by simp [rowsOf]
theorem rowsOf_get {m r : Nat} (S : Int → Int → Bool) (h : r < (rowsOf m S).length) : (rowsOf m S)[r] = rowOf (S (r : Int)) := by simp [rowsOf]
theorem sh_start {m : Nat} {w : Int} {S : Int → Int → Bool} {r : Nat} (h : r ≤ m) : gt (shutP m w S).start r = flen m S r := by
  have := gt_starts 0 (rowsOf m S) r (by rw [rowsOf_length]; exact h)
  simpa [shutP, flen] using this
theorem flen_step {m : Nat} {S : Int → Int → Bool} {r : Nat} (h : r < m) : flen m S (r + 1) = flen m S r + (rowOf (S r)).length := by
  unfold flen
  rw [rowsOf_take h, List.flatten_append]
  simp
theorem sh_cols {m : Nat} {w : Int} {S : Int → Int → Bool} {r : Nat} (h : r < m) {j : Int} (h0 : 0 ≤ j) (h1 : j < (rowOf (S r)).length) : gt (shutP m w S).cols (flen m S r + j) = gt (rowOf (S r)) j := by
  have hl : r < (rowsOf m S).length := by rw [rowsOf_length]; exact h
  have e := rowsOf_get S hl
  have := gt_flatten (rowsOf m S) r hl j h0 (by rw [e]; exact h1)
  rw [e] at this
  exact this
theorem flen_zero (m : Nat) (S : Int → Int → Bool) : flen m S 0 = 0 := by simp [flen]
theorem flen_all (m : Nat) (S : Int → Int → Bool) : flen m S m = (rowsOf m S).flatten.length := by
  unfold flen
  rw [List.take_of_length_le (by rw [rowsOf_length]; exact Nat.le_refl _)]
/-- the truths lie within -/
def Within (m : Nat) (w : Int) (S : Int → Int → Bool) : Prop := ∀ r : Nat, r < m → ∀ c, S r c = true → 0 ≤ c ∧ c < w
theorem shut_row {m : Nat} {w : Int} {S : Int → Int → Bool} {r : Nat} (h : r < m) {i : Int} (h0 : gt (shutP m w S).start r ≤ i) (h1 : i < gt (shutP m w S).start ((r : Int) + 1)) : 0 ≤ i - flen m S r ∧ i - flen m S r < (rowOf (S r)).length ∧ gt (shutP m w S).cols i = gt (rowOf (S r)) (i - flen m S r) := by
  rw [sh_start (by omega)] at h0
  rw [show (r : Int) + 1 = ((r + 1 : Nat) : Int) by omega, sh_start (by omega), flen_step h] at h1
  refine ⟨by omega, by omega, ?_⟩
  rw [← sh_cols (w := w) h (j := i - flen m S r) (by omega) (by omega)]
  congr 1; omega
theorem shut_may {m : Nat} {w : Int} {S : Int → Int → Bool} (hm : m ≤ 128) (hw0 : 0 ≤ w) (hw1 : w ≤ 128) (hS : Within m w S) : May (shutP m w S) := by
  refine ⟨⟨by simp [shutP], by simp [shutP]; omega, hw0, hw1, ?_, ?_, ?_, ?_⟩, ?_⟩
  · simp [shutP, starts_len, rowsOf_length]
  · have := sh_start (m := m) (w := w) (S := S) (r := 0) (by omega)
    rw [flen_zero] at this
    exact this
  · have := sh_start (m := m) (w := w) (S := S) (r := m) (by omega)
    rw [flen_all] at this
    exact this
  · intro i h0 h1
    have hl : (shutP m w S).start.length = m + 1 := by simp [shutP, starts_len, rowsOf_length]
    rw [hl] at h1
    obtain ⟨k, rfl⟩ := Int.eq_ofNat_of_zero_le h0
    have := flen_step (m := m) (S := S) (r := k) (by omega)
    rw [show (k : Int) + 1 = ((k + 1 : Nat) : Int) by omega, sh_start (by omega), sh_start (by omega)]
    omega
  · intro r h0 h1 i hi0 hi1
    obtain ⟨k, rfl⟩ := Int.eq_ofNat_of_zero_le h0
    have hk : k < m := by have : (k : Int) < m := h1; omega
    obtain ⟨a, b, e⟩ := shut_row hk hi0 hi1
    have hmem := gt_mem (xs := rowOf (S k)) a b
    have hin := hS k hk _ (mem_rowOf.1 hmem).2
    rw [e]
    refine ⟨hin.1, hin.2, fun hlt => ?_⟩
    rw [sh_start (by omega)] at hlt
    obtain ⟨a', b', e'⟩ := shut_row (w := w) (S := S) hk (i := i - 1) (by rw [sh_start (by omega)]; omega) (by omega)
    rw [e']
    exact pair_gt (rowOf_lt _) a' (by omega) b
theorem has_shut {m : Nat} {w : Int} {S : Int → Int → Bool} (hw1 : w ≤ 128) (hS : Within m w S) {r c : Int} : HasP (shutP m w S) r c ↔ (0 ≤ r ∧ r < m) ∧ S r c = true := by
  constructor
  · rintro ⟨h0, h1, k, hk0, hk1, hk2⟩
    obtain ⟨n, rfl⟩ := Int.eq_ofNat_of_zero_le h0
    have hn : n < m := by have : (n : Int) < m := h1; omega
    obtain ⟨a, b, e⟩ := shut_row hn hk0 hk1
    have hmem := gt_mem (xs := rowOf (S n)) a b
    rw [← e, hk2] at hmem
    exact ⟨⟨h0, h1⟩, (mem_rowOf.1 hmem).2⟩
  · rintro ⟨⟨h0, h1⟩, hs⟩
    obtain ⟨n, rfl⟩ := Int.eq_ofNat_of_zero_le h0
    have hn : n < m := by omega
    have hin := hS n hn c hs
    obtain ⟨j, j0, j1, e⟩ := mem_gt (mem_rowOf.2 ⟨⟨hin.1, by omega⟩, hs⟩ : c ∈ rowOf (S n))
    refine ⟨h0, h1, flen m S n + j, ?_, ?_, ?_⟩
    · rw [sh_start (by omega)]; omega
    · rw [show (n : Int) + 1 = ((n + 1 : Nat) : Int) by omega, sh_start (by omega), flen_step hn]; omega
    · rw [sh_cols hn j0 j1, e]
theorem shut_congr {m : Nat} {w : Int} {S S' : Int → Int → Bool} (h : ∀ r : Nat, r < m → ∀ c, 0 ≤ c → c < 128 → S r c = S' r c) : shutP m w S = shutP m w S' := by
  have e : rowsOf m S = rowsOf m S' := by
    unfold rowsOf
    refine List.map_congr_left fun r hr => ?_
    refine eq_of_sorted (rowOf_lt _) (rowOf_lt _) fun y => ?_
    rw [mem_rowOf, mem_rowOf]
    constructor
    · rintro ⟨⟨a, b⟩, c⟩; exact ⟨⟨a, b⟩, by rw [← h r (List.mem_range.1 hr) y a b]; exact c⟩
    · rintro ⟨⟨a, b⟩, c⟩; exact ⟨⟨a, b⟩, by rw [h r (List.mem_range.1 hr) y a b]; exact c⟩
  unfold shutP
  rw [e]
theorem HasP.in_ {p : Pat} (hm : May p) {r c : Int} (h : HasP p r c) : (0 ≤ r ∧ r < p.rows) ∧ 0 ≤ c ∧ c < p.width := by
  obtain ⟨h0, h1, k, a, b, e⟩ := h
  have := hm.row r h0 h1 k a b
  rw [e] at this
  exact ⟨⟨h0, h1⟩, this.1, this.2.1⟩
theorem hasB_within {p : Pat} (hm : May p) : Within p.rows.toNat p.width (hasB p) := fun r _ c h => ((hasB_iff.1 h).in_ hm).2
theorem sub_get {xs : List Int} {lo hi : Int} (h0 : 0 ≤ lo) (h1 : lo ≤ hi) (h2 : hi ≤ xs.length) : xs.take hi.toNat = xs.take lo.toNat ++ sub xs lo hi := by
  unfold sub
  rw [show hi.toNat = lo.toNat + (hi.toNat - lo.toNat) by omega, List.take_add, show lo.toNat + (hi.toNat - lo.toNat) - lo.toNat = hi.toNat - lo.toNat by omega]
/-- a row of a pattern that may be -/
theorem row_has {p : Pat} (hm : May p) {r : Nat} (hr : (r : Int) < p.rows) : sub p.cols (gt p.start r) (gt p.start ((r : Int) + 1)) = rowOf (hasB p r) := by
  have g1 := hm.toHead.lo (r := (r : Int)) (by omega) (by omega)
  have g2 := hm.toHead.hi (r := (r : Int) + 1) (by omega) (by omega)
  have g3 := hm.toHead.step (r := (r : Int)) (by omega) hr
  have hl := sub_length p.cols g1 g3 g2
  have hrow := hm.row r (by omega) hr
  refine eq_of_sorted ?_ (rowOf_lt _) fun y => ?_
  · rw [List.pairwise_iff_getElem]
    intro i j hi hj hij
    have e1 := gt_elem (xs := sub p.cols (gt p.start r) (gt p.start ((r : Int) + 1))) (i := (i : Int)) (by omega) (by omega)
    have e2 := gt_elem (xs := sub p.cols (gt p.start r) (gt p.start ((r : Int) + 1))) (i := (j : Int)) (by omega) (by omega)
    simp only [Int.toNat_natCast] at e1 e2
    rw [← e1, ← e2, gt_sub g1 g3 g2 (by omega) (by omega), gt_sub g1 g3 g2 (by omega) (by omega)]
    exact hrow.lt (by omega) (by omega) (by omega)
  · rw [mem_rowOf, hasB_iff]
    constructor
    · intro hy
      obtain ⟨j, j0, j1, e⟩ := mem_gt hy
      rw [gt_sub g1 g3 g2 j0 j1] at e
      have hh : HasP p r y := ⟨by omega, hr, gt p.start r + j, by omega, by omega, e⟩
      have := (hh.in_ hm).2
      have := hm.toHead.w1
      exact ⟨by omega, hh⟩
    · rintro ⟨_, _, _, k, a, b, e⟩
      have := gt_sub (xs := p.cols) g1 g3 g2 (i := k - gt p.start r) (by omega) (by omega)
      rw [show gt p.start r + (k - gt p.start r) = k by omega, e] at this
      rw [← this]
      exact gt_mem (by omega) (by omega)
theorem cols_rows {p : Pat} (hm : May p) : ∀ r : Nat, (r : Int) ≤ p.rows → p.cols.take (gt p.start r).toNat = ((rowsOf p.rows.toNat (hasB p)).take r).flatten
  | 0, _ => by
    have := hm.toHead.z
    simp only [Int.natCast_zero] at *
    simp [this]
  | r + 1, hr => by
    have g1 := hm.toHead.lo (r := (r : Int)) (by omega) (by omega)
    have g2 := hm.toHead.hi (r := (r : Int) + 1) (by omega) (by omega)
    have g3 := hm.toHead.step (r := (r : Int)) (by omega) (by omega)
    have ih := cols_rows hm r (by omega)
    rw [show ((r + 1 : Nat) : Int) = (r : Int) + 1 by omega, sub_get g1 g3 g2, ih, rowsOf_take (by omega), List.flatten_append, row_has hm (by omega)]
    simp
theorem shut_has {p : Pat} (hm : May p) : shutP p.rows.toNat p.width (hasB p) = p := by
  have h0 := hm.toHead.r0
  have hrows : ((p.rows.toNat : Nat) : Int) = p.rows := by omega
  have hc : (rowsOf p.rows.toNat (hasB p)).flatten = p.cols := by
    have := cols_rows hm p.rows.toNat (by omega)
    have htk : (rowsOf p.rows.toNat (hasB p)).take p.rows.toNat = rowsOf p.rows.toNat (hasB p) := List.take_of_length_le (by rw [rowsOf_length]; exact Nat.le_refl _)
    rw [hrows, hm.toHead.e, htk] at this
    rw [← this]
    simp
  have hs : starts 0 (rowsOf p.rows.toNat (hasB p)) = p.start := by
    refine gt_ext (by rw [starts_len, rowsOf_length]; have := hm.toHead.len; omega) fun i i0 i1 => ?_
    rw [starts_len, rowsOf_length] at i1
    obtain ⟨k, rfl⟩ := Int.eq_ofNat_of_zero_le i0
    rw [gt_starts 0 _ k (by rw [rowsOf_length]; omega), ← cols_rows hm k (by omega), List.length_take]
    have g1 := hm.toHead.lo (r := (k : Int)) (by omega) (by omega)
    have g2 := hm.toHead.hi (r := (k : Int)) (by omega) (by omega)
    omega
  cases p
  simp only [shutP] at *
  rw [hrows, hs, hc]
theorem May.ext {p q : Pat} (hp : May p) (hq : May q) (hr : p.rows = q.rows) (hw : p.width = q.width) (h : ∀ r c, HasP p r c ↔ HasP q r c) : p = q := by
  rw [← shut_has hp, ← shut_has hq, hr, hw]
  refine shut_congr fun r _ c _ _ => ?_
  rw [Bool.eq_iff_iff, hasB_iff, hasB_iff]
  exact h r c
open Classical
abbrev PE := Pat × Int
noncomputable def turnS (p : Pat) : PE := if May p then (shutP p.width.toNat p.rows (fun a b => hasB p b a), 0) else (zP, 180)
/-- sizes that may be -/
def Sized (r w : Int) : Prop := (0 ≤ r ∧ r ≤ 128) ∧ 0 ≤ w ∧ w ≤ 128
def BadAt (rows width : Int) (rs cs : List Int) (i : Int) : Prop := gt rs i < 0 ∨ rows ≤ gt rs i ∨ gt cs i < 0 ∨ width ≤ gt cs i
def Bad (rows width : Int) (rs cs : List Int) : Prop := ∃ i : Int, 0 ≤ i ∧ i < rs.length ∧ BadAt rows width rs cs i
/-- the places ahead of the k-th -/
noncomputable def lisB (rs cs : List Int) (k : Int) (a b : Int) : Bool := decide (∃ i : Int, 0 ≤ i ∧ i < k ∧ gt rs i = a ∧ gt cs i = b)
noncomputable def buildS (rows width : Int) (rs cs : List Int) : PE :=
  if ¬ Sized rows width then (zP, 180) else if rs.length ≠ cs.length then (zP, 7) else if Bad rows width rs cs then (zP, 1) else (shutP rows.toNat width (lisB rs cs rs.length), 0)
theorem lisB_zero (rs cs : List Int) : lisB rs cs 0 = fun _ _ => false := by
  funext a b
  refine decide_eq_false ?_
  rintro ⟨i, h0, h1, _⟩
  omega
theorem lisB_step {rs cs : List Int} {k : Int} (h0 : 0 ≤ k) : lisB rs cs (k + 1) = fun a b => lisB rs cs k a b || (a == gt rs k && b == gt cs k) := by
  funext a b
  rw [Bool.eq_iff_iff, Bool.or_eq_true, Bool.and_eq_true, beq_iff_eq, beq_iff_eq]
  unfold lisB
  rw [decide_eq_true_iff, decide_eq_true_iff]
  constructor
  · rintro ⟨i, i0, i1, i2, i3⟩
    by_cases h : i < k
    · exact .inl ⟨i, i0, h, i2, i3⟩
    · obtain rfl : i = k := by omega
      exact .inr ⟨i2.symm, i3.symm⟩
  · rintro (⟨i, i0, i1, i2, i3⟩ | ⟨i2, i3⟩)
    · exact ⟨i, i0, by omega, i2, i3⟩
    · exact ⟨k, h0, by omega, i2.symm, i3.symm⟩
theorem hasU_or {p : Pat} (h : May p) {r k : Int} (h0 : 0 ≤ r) (h1 : r < p.rows) (h2 : gt p.start r ≤ k) (h3 : k < gt p.start (r + 1)) (a b : Int) : hasU p (k + 1) a b = (hasU p k a b || (a == r && b == gt p.cols k)) := by
  rw [hasU_step h h0 h1 h2 h3 a b]
  by_cases e : a = r ∧ b = gt p.cols k
  · rw [if_pos e]; simp [e.1, e.2]
  · rw [if_neg e]
    have : (a == r && b == gt p.cols k) = false := by
      rw [Bool.and_eq_false_iff]
      by_cases ha : a = r
      · right; simpa using fun hb => e ⟨ha, hb⟩
      · left; simpa using ha
    rw [this, Bool.or_false]

/-! ### a grid is read off, place by place -/
def rowTo (f : Int → Bool) (c : Int) : List Int := rowOf fun y => f y && decide (y < c)
theorem rowTo_zero (f : Int → Bool) : rowTo f 0 = [] := by
  refine eq_of_sorted (rowOf_lt _) .nil fun y => ?_
  unfold rowTo
  rw [mem_rowOf, Bool.and_eq_true, decide_eq_true_iff]
  constructor
  · rintro ⟨⟨h, _⟩, _, h'⟩; omega
  · intro h; cases h
theorem rowTo_step {f : Int → Bool} {c : Int} (h0 : 0 ≤ c) (h1 : c < 128) : rowTo f (c + 1) = if f c then rowTo f c ++ [c] else rowTo f c := by
  cases hf : f c with
  | false =>
    rw [if_neg (by simp)]
    refine eq_of_sorted (rowOf_lt _) (rowOf_lt _) fun y => ?_
    unfold rowTo
    rw [mem_rowOf, mem_rowOf, Bool.and_eq_true, decide_eq_true_iff, Bool.and_eq_true, decide_eq_true_iff]
    constructor
    · rintro ⟨h, h', h''⟩
      refine ⟨h, h', ?_⟩
      by_cases e : y = c
      · subst e; rw [hf] at h'; cases h'
      · omega
    · rintro ⟨h, h', h''⟩
      exact ⟨h, h', by omega⟩
  | true =>
    rw [if_pos rfl]
    refine eq_of_sorted (rowOf_lt _) ?_ fun y => ?_
    · rw [List.pairwise_append]
      refine ⟨rowOf_lt _, by simp, fun a ha b hb => ?_⟩
      simp only [List.mem_singleton] at hb
      subst hb
      unfold rowTo at ha
      rw [mem_rowOf, Bool.and_eq_true, decide_eq_true_iff] at ha
      exact ha.2.2
    · rw [List.mem_append, List.mem_singleton]
      unfold rowTo
      rw [mem_rowOf, mem_rowOf, Bool.and_eq_true, decide_eq_true_iff, Bool.and_eq_true, decide_eq_true_iff]
      constructor
      · rintro ⟨h, h', h''⟩
        by_cases e : y = c
        · exact .inr e
        · exact .inl ⟨h, h', by omega⟩
      · rintro (⟨h, h', h''⟩ | rfl)
        · exact ⟨h, h', by omega⟩
        · exact ⟨⟨h0, h1⟩, hf, by omega⟩
theorem rowTo_all {f : Int → Bool} {w : Int} (h : ∀ y, f y = true → y < w) : rowTo f w = rowOf f := by
  unfold rowTo
  congr 1
  funext y
  rw [Bool.eq_iff_iff, Bool.and_eq_true, decide_eq_true_iff]
  exact ⟨fun h => h.1, fun h' => ⟨h', h y h'⟩⟩
theorem rowTo_len (f : Int → Bool) (c : Int) : (rowTo f c).length ≤ 128 := rowOf_len _
def colsTo (m : Nat) (S : Int → Int → Bool) (r : Nat) (c : Int) : List Int := ((rowsOf m S).take r).flatten ++ rowTo (S r) c
def startTo (m : Nat) (S : Int → Int → Bool) (r : Nat) : List Int := starts 0 ((rowsOf m S).take r)
theorem colsTo_len {m : Nat} (hm : m ≤ 128) (S : Int → Int → Bool) (r : Nat) (c : Int) : (colsTo m S r c).length ≤ 20000 := by
  have h1 := rowsOf_flat m r S
  have h2 := rowTo_len (S r) c
  unfold colsTo
  rw [List.length_append]
  omega
theorem startTo_len {m : Nat} (hm : m ≤ 128) (S : Int → Int → Bool) (r : Nat) : (startTo m S r).length ≤ 200 := by
  unfold startTo
  rw [starts_len]
  have : ((rowsOf m S).take r).length ≤ m := by rw [List.length_take, rowsOf_length]; omega
  omega
theorem colsTo_next {m : Nat} {w : Int} {S : Int → Int → Bool} {r : Nat} (h : r < m) (hS : Within m w S) : colsTo m S r w = colsTo m S (r + 1) 0 := by
  unfold colsTo
  rw [rowTo_zero, List.append_nil, rowTo_all (fun y hy => (hS r h y hy).2), rowsOf_take h, List.flatten_append]
  simp
theorem startTo_next {m : Nat} {S : Int → Int → Bool} {r : Nat} (h : r < m) : startTo m S (r + 1) = startTo m S r ++ [((colsTo m S (r + 1) 0).length : Int)] := by
  unfold startTo colsTo
  rw [rowsOf_take h, starts_snoc, rowTo_zero, List.flatten_append]
  simp
theorem to_end (m : Nat) (w : Int) (S : Int → Int → Bool) : startTo m S m = (shutP m w S).start ∧ colsTo m S m 0 = (shutP m w S).cols := by
  have htk : (rowsOf m S).take m = rowsOf m S := List.take_of_length_le (by rw [rowsOf_length]; exact Nat.le_refl _)
  unfold startTo colsTo
  rw [htk, rowTo_zero, List.append_nil]
  exact ⟨rfl, rfl⟩
theorem colsTo_first (m : Nat) (S : Int → Int → Bool) : colsTo m S 0 0 = [] ∧ startTo m S 0 = [0] := by
  unfold colsTo startTo
  rw [rowTo_zero]
  exact ⟨rfl, rfl⟩

/-! ### Close, Graph -/
noncomputable def cloU (p : Pat) (d : Bool) (k : Int) (a b : Int) : Bool := (hasU p k a b || hasU p k b a) && (d || !(a == b))
noncomputable def cloB (p : Pat) (d : Bool) (a b : Int) : Bool := (hasB p a b || hasB p b a) && (d || !(a == b))
noncomputable def closedS (p : Pat) (d : Bool) : PE := if ¬ May p then (zP, 180) else if p.rows ≠ p.width then (zP, 7) else (shutP p.rows.toNat p.width (cloB p d), 0)
theorem cloU_zero {p : Pat} (h : May p) (d : Bool) : cloU p d 0 = fun _ _ => false := by
  funext a b
  unfold cloU
  rw [hasU_zero h]
  rfl
theorem cloU_all {p : Pat} (h : May p) (d : Bool) : cloU p d p.cols.length = cloB p d := by
  funext a b
  unfold cloU cloB
  rw [hasU_all h]
theorem cloU_mark {p : Pat} (h : May p) {d : Bool} {r k : Int} (h0 : 0 ≤ r) (h1 : r < p.rows) (h2 : gt p.start r ≤ k) (h3 : k < gt p.start (r + 1)) (hd : d = true ∨ r ≠ gt p.cols k) : cloU p d (k + 1) = fun a b => (cloU p d k a b || (a == r && b == gt p.cols k)) || (a == gt p.cols k && b == r) := by
  funext a b
  unfold cloU
  rw [hasU_or h h0 h1 h2 h3, hasU_or h h0 h1 h2 h3]
  have key : ∀ u v : Int, (u == r && v == gt p.cols k) = true → (d || !(u == v)) = true := fun u v huv => by
    simp only [Bool.and_eq_true, beq_iff_eq] at huv
    rcases hd with hd | hd
    · rw [hd]; rfl
    · rw [huv.1, huv.2]
      simp [hd]
  have hsym : (b == a) = (a == b) := by rw [Bool.eq_iff_iff, beq_iff_eq, beq_iff_eq]; exact eq_comm
  have k1 := key a b
  have k2 := key b a
  rw [hsym] at k2
  rw [Bool.and_comm (a == gt p.cols k)]
  generalize (a == r && b == gt p.cols k) = x at *
  generalize (b == r && a == gt p.cols k) = y at *
  generalize hasU p k a b = u
  generalize hasU p k b a = v
  generalize (d || !(a == b)) = z at *
  cases x <;> cases y <;> cases u <;> cases v <;> cases z <;> simp_all
theorem cloU_skip {p : Pat} (h : May p) {r k : Int} (h0 : 0 ≤ r) (h1 : r < p.rows) (h2 : gt p.start r ≤ k) (h3 : k < gt p.start (r + 1)) (hd : r = gt p.cols k) : cloU p false (k + 1) = cloU p false k := by
  funext a b
  unfold cloU
  rw [hasU_or h h0 h1 h2 h3, hasU_or h h0 h1 h2 h3, ← hd]
  by_cases e : a = b
  · subst e; simp
  · have e1 : (a == r && b == r) = false := by
      rw [Bool.and_eq_false_iff]
      by_cases ha : a = r
      · right; simp; omega
      · left; simp; omega
    have e2 : (b == r && a == r) = false := by rw [Bool.and_comm]; exact e1
    rw [e1, e2]
    simp
theorem cloB_within {p : Pat} (h : May p) (hsq : p.rows = p.width) (d : Bool) : Within p.rows.toNat p.width (cloB p d) := fun r hr c hc => by
  unfold cloB at hc
  rw [Bool.and_eq_true, Bool.or_eq_true, hasB_iff, hasB_iff] at hc
  rcases hc.1 with hc | hc
  · exact (hc.in_ h).2
  · have := (hc.in_ h).1
    omega
/-! ### Symmetric -/
def Sym (p : Pat) : Prop := May p ∧ p.rows = p.width ∧ ∀ r c, HasP p r c → HasP p c r
/-! ### Product -/
noncomputable def prodU (a b : Pat) (k : Int) (i c : Int) : Bool := decide (∃ j, HasU a k i j ∧ HasP b j c)
noncomputable def prodB (a b : Pat) (i c : Int) : Bool := decide (∃ j, HasP a i j ∧ HasP b j c)
noncomputable def productS (a b : Pat) : PE := if ¬ (May a ∧ May b) then (zP, 180) else if a.width ≠ b.rows then (zP, 7) else (shutP a.rows.toNat b.width (prodB a b), 0)
theorem hasU_iff {p : Pat} {k r c : Int} : hasU p k r c = true ↔ HasU p k r c := by unfold hasU; simp
theorem prodU_zero {a b : Pat} (h : May a) : prodU a b 0 = fun _ _ => false := by
  funext i c
  refine decide_eq_false ?_
  rintro ⟨j, h1, _⟩
  have := hasU_iff.2 h1
  rw [hasU_zero h] at this
  cases this
theorem prodU_all {a b : Pat} (h : May a) : prodU a b a.cols.length = prodB a b := by
  funext i c
  unfold prodU prodB
  congr 1
  refine propext (exists_congr fun j => ?_)
  rw [← hasU_iff, hasU_all h, hasB_iff]
theorem prodU_step {a b : Pat} (h : May a) {r k : Int} (h0 : 0 ≤ r) (h1 : r < a.rows) (h2 : gt a.start r ≤ k) (h3 : k < gt a.start (r + 1)) : prodU a b (k + 1) = fun i c => prodU a b k i c || (i == r && hasB b (gt a.cols k) c) := by
  funext i c
  rw [Bool.eq_iff_iff, Bool.or_eq_true, Bool.and_eq_true, beq_iff_eq, hasB_iff]
  unfold prodU
  rw [decide_eq_true_iff, decide_eq_true_iff]
  constructor
  · rintro ⟨j, hj, hb⟩
    have := hasU_iff.2 hj
    rw [hasU_or h h0 h1 h2 h3, Bool.or_eq_true, Bool.and_eq_true, beq_iff_eq, beq_iff_eq, hasU_iff] at this
    rcases this with hu | ⟨rfl, rfl⟩
    · exact .inl ⟨j, hu, hb⟩
    · exact .inr ⟨rfl, hb⟩
  · rintro (⟨j, hj, hb⟩ | ⟨rfl, hb⟩)
    · refine ⟨j, ?_, hb⟩
      rw [← hasU_iff, hasU_or h h0 h1 h2 h3, hasU_iff.2 hj]
      rfl
    · refine ⟨gt a.cols k, ?_, hb⟩
      rw [← hasU_iff, hasU_or h h0 h1 h2 h3]
      simp
/-- the product within a row of the second -/
noncomputable def prodM (a b : Pat) (k r : Int) (l : List Int) (m : Int) (i c : Int) : Bool := prodU a b k i c || (i == r && decide (∃ q : Int, 0 ≤ q ∧ q < m ∧ gt l q = c))
theorem prodM_zero (a b : Pat) (k r : Int) (l : List Int) : prodM a b k r l 0 = prodU a b k := by
  funext i c
  unfold prodM
  rw [decide_eq_false (by rintro ⟨q, h0, h1, _⟩; omega)]
  simp
theorem prodM_step {a b : Pat} {k r : Int} {l : List Int} {m : Int} (h0 : 0 ≤ m) : prodM a b k r l (m + 1) = fun i c => prodM a b k r l m i c || (i == r && c == gt l m) := by
  funext i c
  unfold prodM
  rw [Bool.or_assoc, ← Bool.and_or_distrib_left]
  congr 2
  rw [Bool.eq_iff_iff, Bool.or_eq_true, decide_eq_true_iff, decide_eq_true_iff, beq_iff_eq]
  constructor
  · rintro ⟨q, q0, q1, q2⟩
    by_cases e : q < m
    · exact .inl ⟨q, q0, e, q2⟩
    · obtain rfl : q = m := by omega
      exact .inr q2.symm
  · rintro (⟨q, q0, q1, q2⟩ | e)
    · exact ⟨q, q0, by omega, q2⟩
    · exact ⟨m, h0, by omega, e.symm⟩
theorem prodM_end {a b : Pat} (h : May a) (hb : May b) {r k : Int} (h0 : 0 ≤ r) (h1 : r < a.rows) (h2 : gt a.start r ≤ k) (h3 : k < gt a.start (r + 1)) {l : List Int} (hl : ∀ c, c ∈ l ↔ HasP b (gt a.cols k) c) : prodM a b k r l l.length = prodU a b (k + 1) := by
  rw [prodU_step h h0 h1 h2 h3]
  funext i c
  unfold prodM
  congr 2
  rw [Bool.eq_iff_iff, decide_eq_true_iff, hasB_iff, ← hl]
  constructor
  · rintro ⟨q, q0, q1, rfl⟩; exact gt_mem q0 q1
  · intro hm; exact mem_gt hm
theorem prodB_within {a b : Pat} (ha : May a) (hb : May b) : Within a.rows.toNat b.width (prodB a b) := fun r _ c hc => by
  unfold prodB at hc
  obtain ⟨j, _, hj⟩ := of_decide_eq_true hc
  exact (hj.in_ hb).2
noncomputable def symU (p : Pat) (k : Int) : Bool := decide (∀ r c, HasU p k r c → HasP p c r)
theorem symU_zero {p : Pat} (h : May p) : symU p 0 = true := decide_eq_true fun r c hu => by
  have := hasU_iff.2 hu
  rw [hasU_zero h] at this
  cases this
theorem symU_all {p : Pat} (h : May p) (hsq : p.rows = p.width) : symU p p.cols.length = true ↔ Sym p := by
  unfold symU Sym
  rw [decide_eq_true_iff]
  refine ⟨fun hu => ⟨h, hsq, fun r c hh => hu r c ?_⟩, fun ⟨_, _, hs⟩ r c hu => hs r c ?_⟩
  · rw [← hasU_iff, hasU_all h, hasB_iff]; exact hh
  · rw [← hasB_iff, ← hasU_all h, hasU_iff]; exact hu
theorem symU_step {p : Pat} (h : May p) {r k : Int} (h0 : 0 ≤ r) (h1 : r < p.rows) (h2 : gt p.start r ≤ k) (h3 : k < gt p.start (r + 1)) {ok : Bool} (hok : ok = true ↔ HasP p (gt p.cols k) r) : symU p (k + 1) = (symU p k && ok) := by
  rw [Bool.eq_iff_iff, Bool.and_eq_true, hok]
  unfold symU
  rw [decide_eq_true_iff, decide_eq_true_iff]
  have hor := fun a b => hasU_or h h0 h1 h2 h3 a b
  constructor
  · intro hu
    refine ⟨fun a b hab => hu a b ?_, hu r (gt p.cols k) ?_⟩
    · rw [← hasU_iff, hor, hasU_iff.2 hab]; rfl
    · rw [← hasU_iff, hor]; simp
  · rintro ⟨hu, hk⟩ a b hab
    rw [← hasU_iff, hor, Bool.or_eq_true, Bool.and_eq_true, beq_iff_eq, beq_iff_eq, hasU_iff] at hab
    rcases hab with hab | ⟨rfl, rfl⟩
    · exact hu a b hab
    · exact hk

/-! ### orders -/
structure IsOrd (l : List Int) (n : Int) : Prop where
  len : (l.length : Int) = n
  rng : ∀ i, 0 ≤ i → i < n → 0 ≤ gt l i ∧ gt l i < n
  inj : ∀ i j, 0 ≤ i → i < n → 0 ≤ j → j < n → gt l i = gt l j → i = j
/-- b undoes l, as far as k -/
structure BackTo (l b : List Int) (n k : Int) : Prop where
  len : (b.length : Int) = n
  rng : ∀ i, 0 ≤ i → i < k → 0 ≤ gt l i ∧ gt l i < n
  bck : ∀ i, 0 ≤ i → i < k → gt b (gt l i) = i
  new : ∀ x, 0 ≤ x → x < n → 0 ≤ gt b x → ∃ i, 0 ≤ i ∧ i < k ∧ gt l i = x
theorem BackTo.ord {l b : List Int} {n : Int} (hl : (l.length : Int) = n) (h : BackTo l b n n) : IsOrd l n :=
  ⟨hl, h.rng, fun i j hi0 hi1 hj0 hj1 e => by rw [← h.bck i hi0 hi1, ← h.bck j hj0 hj1, e]⟩
theorem gt_setI {on : List Int} {i j : Int} {b : Int} (h0 : 0 ≤ i) (h1 : i < on.length) (hj0 : 0 ≤ j) : gt (on.set i.toNat b) j = if j = i then b else gt on j := by
  unfold gt
  simp only [List.getD_eq_getElem?_getD, List.getElem?_set]
  by_cases h : j = i
  · subst h; rw [if_pos rfl, if_pos rfl, if_pos (by omega)]; rfl
  · rw [if_neg (by omega), if_neg h]
theorem BackTo.step {l b : List Int} {n k : Int} (h : BackTo l b n k) (h0 : 0 ≤ k) (hx0 : 0 ≤ gt l k) (hx1 : gt l k < n) (hnew : gt b (gt l k) < 0) : BackTo l (b.set (gt l k).toNat k) n (k + 1) := by
  have hbl := h.len
  refine ⟨by rw [List.length_set]; exact hbl, fun i hi0 hi1 => ?_, fun i hi0 hi1 => ?_, fun x x0 x1 hx => ?_⟩
  · by_cases e : i < k
    · exact h.rng i hi0 e
    · obtain rfl : i = k := by omega
      exact ⟨hx0, hx1⟩
  · by_cases e : i < k
    · have hr := h.rng i hi0 e
      rw [gt_setI hx0 (by omega) hr.1, if_neg, h.bck i hi0 e]
      intro e2
      have := h.bck i hi0 e
      rw [e2] at this
      omega
    · obtain rfl : i = k := by omega
      rw [gt_setI hx0 (by omega) hx0, if_pos rfl]
  · rw [gt_setI hx0 (by omega) x0] at hx
    by_cases e : x = gt l k
    · exact ⟨k, h0, by omega, e.symm⟩
    · rw [if_neg e] at hx
      obtain ⟨i, i0, i1, i2⟩ := h.new x x0 x1 hx
      exact ⟨i, i0, by omega, i2⟩
theorem nodup_gt {l : List Int} (h : ∀ i j : Int, 0 ≤ i → i < l.length → 0 ≤ j → j < l.length → gt l i = gt l j → i = j) : l.Nodup := by
  refine List.pairwise_iff_getElem.2 fun i j hi hj hij e => ?_
  have := h i j (by omega) (by omega) (by omega) (by omega) (by rw [gt_elem (by omega) (by omega), gt_elem (by omega) (by omega)]; simpa using e)
  omega
theorem IsOrd.surj {l : List Int} {n : Int} (h : IsOrd l n) {x : Int} (h0 : 0 ≤ x) (h1 : x < n) : ∃ i, 0 ≤ i ∧ i < n ∧ gt l i = x := by
  have hl := h.len
  have hnd : l.Nodup := nodup_gt fun i j a b c d e => h.inj i j a (by omega) c (by omega) e
  by_cases hm : x ∈ l
  · obtain ⟨i, i0, i1, e⟩ := mem_gt hm
    exact ⟨i, i0, by omega, e⟩
  · have := nodup_le n.toNat (x :: l) (List.nodup_cons.2 ⟨hm, hnd⟩) fun y hy => by
      rcases List.mem_cons.1 hy with rfl | hy
      · omega
      · obtain ⟨i, i0, i1, rfl⟩ := mem_gt hy
        have := h.rng i i0 (by omega)
        omega
    simp only [List.length_cons] at this
    omega
theorem BackTo.at_ {l b : List Int} {n : Int} (hl : (l.length : Int) = n) (h : BackTo l b n n) {x : Int} (h0 : 0 ≤ x) (h1 : x < n) : 0 ≤ gt b x ∧ gt b x < n ∧ gt l (gt b x) = x := by
  obtain ⟨i, i0, i1, rfl⟩ := (h.ord hl).surj h0 h1
  rw [h.bck i i0 i1]
  exact ⟨i0, i1, rfl⟩
/-! ### Permute -/
noncomputable def permU (p : Pat) (br bc : List Int) (k : Int) (a b : Int) : Bool := decide (∃ i j, HasU p k i j ∧ gt br i = a ∧ gt bc j = b)
noncomputable def permB (p : Pat) (rows cols : List Int) (a b : Int) : Bool := decide ((0 ≤ a ∧ a < p.rows) ∧ (0 ≤ b ∧ b < p.width) ∧ HasP p (gt rows a) (gt cols b))
noncomputable def permuteS (p : Pat) (rows cols : List Int) : PE := if ¬ May p then (zP, 180) else if ¬ (IsOrd rows p.rows ∧ IsOrd cols p.width) then (zP, 182) else (shutP p.rows.toNat p.width (permB p rows cols), 0)
theorem permU_zero {p : Pat} (h : May p) (br bc : List Int) : permU p br bc 0 = fun _ _ => false := by
  funext a b
  refine decide_eq_false ?_
  rintro ⟨i, j, hu, _⟩
  have := hasU_iff.2 hu
  rw [hasU_zero h] at this
  cases this
theorem permU_step {p : Pat} (h : May p) {br bc : List Int} {r k : Int} (h0 : 0 ≤ r) (h1 : r < p.rows) (h2 : gt p.start r ≤ k) (h3 : k < gt p.start (r + 1)) : permU p br bc (k + 1) = fun a b => permU p br bc k a b || (a == gt br r && b == gt bc (gt p.cols k)) := by
  funext a b
  rw [Bool.eq_iff_iff, Bool.or_eq_true, Bool.and_eq_true, beq_iff_eq, beq_iff_eq]
  unfold permU
  rw [decide_eq_true_iff, decide_eq_true_iff]
  constructor
  · rintro ⟨i, j, hu, e1, e2⟩
    rw [← hasU_iff, hasU_or h h0 h1 h2 h3, Bool.or_eq_true, Bool.and_eq_true, beq_iff_eq, beq_iff_eq, hasU_iff] at hu
    rcases hu with hu | ⟨rfl, rfl⟩
    · exact .inl ⟨i, j, hu, e1, e2⟩
    · exact .inr ⟨e1.symm, e2.symm⟩
  · rintro (⟨i, j, hu, e1, e2⟩ | ⟨e1, e2⟩)
    · refine ⟨i, j, ?_, e1, e2⟩
      rw [← hasU_iff, hasU_or h h0 h1 h2 h3, hasU_iff.2 hu]
      rfl
    · refine ⟨r, gt p.cols k, ?_, e1.symm, e2.symm⟩
      rw [← hasU_iff, hasU_or h h0 h1 h2 h3]
      simp
theorem permU_all {p : Pat} (h : May p) {rows cols br bc : List Int} (hr : (rows.length : Int) = p.rows) (hc : (cols.length : Int) = p.width) (h1 : BackTo rows br p.rows p.rows) (h2 : BackTo cols bc p.width p.width) : permU p br bc p.cols.length = permB p rows cols := by
  funext a b
  unfold permU permB
  rw [decide_eq_decide]
  constructor
  · rintro ⟨i, j, hu, rfl, rfl⟩
    rw [← hasU_iff, hasU_all h, hasB_iff] at hu
    have hin := hu.in_ h
    have e1 := h1.at_ hr hin.1.1 hin.1.2
    have e2 := h2.at_ hc hin.2.1 hin.2.2
    rw [e1.2.2, e2.2.2]
    exact ⟨⟨e1.1, e1.2.1⟩, ⟨e2.1, e2.2.1⟩, hu⟩
  · rintro ⟨⟨a0, a1⟩, ⟨b0, b1⟩, hh⟩
    exact ⟨_, _, by rw [← hasU_iff, hasU_all h, hasB_iff]; exact hh, h1.bck a a0 a1, h2.bck b b0 b1⟩
theorem permB_within (p : Pat) (rows cols : List Int) : Within p.rows.toNat p.width (permB p rows cols) := fun r _ c hc => (of_decide_eq_true hc).2.1
theorem permB_in {p : Pat} {rows cols : List Int} {a b : Int} (a0 : 0 ≤ a) (a1 : a < p.rows) (b0 : 0 ≤ b) (b1 : b < p.width) : permB p rows cols a b = hasB p (gt rows a) (gt cols b) := by
  rw [Bool.eq_iff_iff, hasB_iff]
  unfold permB
  rw [decide_eq_true_iff]
  exact ⟨fun h => h.2.2, fun h => ⟨⟨a0, a1⟩, ⟨b0, b1⟩, h⟩⟩
/-! ### the reference's product, place by place -/
noncomputable def rpU (a b : Pat) (i j : Int) (r c : Int) : Bool := decide ((r < i ∧ ∃ q, HasP a r q ∧ HasP b q c) ∨ (r = i ∧ ∃ q, q < j ∧ HasP a r q ∧ HasP b q c))
noncomputable def rpM (a b : Pat) (i j k : Int) (r c : Int) : Bool := decide (((r < i ∧ ∃ q, HasP a r q ∧ HasP b q c) ∨ (r = i ∧ ∃ q, q < j ∧ HasP a r q ∧ HasP b q c)) ∨ (r = i ∧ HasP a i j ∧ HasP b j c ∧ c < k))
section
variable {a b : Pat} {i j k r c : Int}
theorem rpU_zero (ha : May a) (h0 : 0 ≤ r) : false = rpU a b 0 0 r c := by
  refine (decide_eq_false ?_).symm
  rintro (⟨h, _⟩ | ⟨_, q, hq, hh, _⟩)
  · omega
  · have := (hh.in_ ha).2
    omega
theorem rpM_zero (h0 : 0 ≤ c) : rpU a b i j r c = rpM a b i j 0 r c := decide_eq_decide.2 ⟨fun h => .inl h, fun h => by
  rcases h with h | ⟨_, _, _, h⟩
  · exact h
  · omega⟩
theorem rpM_t (h1 : HasP a i j) (h2 : HasP b j k) : rpM a b i j (k + 1) r c = if r = i ∧ c = k then true else rpM a b i j k r c := by
  by_cases e : r = i ∧ c = k
  · rw [if_pos e]
    refine decide_eq_true (.inr ⟨e.1, h1, by rw [e.2]; exact h2, by omega⟩)
  · rw [if_neg e]
    refine decide_eq_decide.2 ⟨fun h => ?_, fun h => ?_⟩
    · rcases h with h | ⟨h, h', h'', h3⟩
      · exact .inl h
      · refine .inr ⟨h, h', h'', ?_⟩
        by_cases ec : c = k
        · exact absurd ⟨h, ec⟩ e
        · omega
    · rcases h with h | ⟨h, h', h'', h3⟩
      · exact .inl h
      · exact .inr ⟨h, h', h'', by omega⟩
theorem rpM_f (h2 : ¬ HasP b j k) : rpM a b i j k r c = rpM a b i j (k + 1) r c := by
  refine decide_eq_decide.2 ⟨fun h => ?_, fun h => ?_⟩
  · rcases h with h | ⟨h, h', h'', h3⟩
    · exact .inl h
    · exact .inr ⟨h, h', h'', by omega⟩
  · rcases h with h | ⟨h, h', h'', h3⟩
    · exact .inl h
    · refine .inr ⟨h, h', h'', ?_⟩
      by_cases ec : c = k
      · subst ec; exact absurd h'' h2
      · omega
theorem rpM_no (h1 : ¬ HasP a i j) : rpM a b i j k r c = rpU a b i (j + 1) r c := by
  refine decide_eq_decide.2 ⟨fun h => ?_, fun h => ?_⟩
  · rcases h with (h | ⟨h, q, hq, h'⟩) | ⟨_, h, _⟩
    · exact .inl h
    · exact .inr ⟨h, q, by omega, h'⟩
    · exact absurd h h1
  · rcases h with h | ⟨h, q, hq, h', h''⟩
    · exact .inl (.inl h)
    · refine .inl (.inr ⟨h, q, ?_, h', h''⟩)
      by_cases e : q = j
      · subst e; subst h; exact absurd h' h1
      · omega
theorem rpM_end (h1 : HasP a i j) (hc : c < k) : rpM a b i j k r c = rpU a b i (j + 1) r c := by
  refine decide_eq_decide.2 ⟨fun h => ?_, fun h => ?_⟩
  · rcases h with (h | ⟨h, q, hq, h'⟩) | ⟨h, h', h'', _⟩
    · exact .inl h
    · exact .inr ⟨h, q, by omega, h'⟩
    · exact .inr ⟨h, j, by omega, by rw [h]; exact h', h''⟩
  · rcases h with h | ⟨h, q, hq, h', h''⟩
    · exact .inl (.inl h)
    · by_cases e : q = j
      · subst e; exact .inr ⟨h, by rw [← h]; exact h', h'', hc⟩
      · exact .inl (.inr ⟨h, q, by omega, h', h''⟩)
theorem rpU_row (ha : May a) : rpU a b i a.width r c = rpU a b (i + 1) 0 r c := by
  refine decide_eq_decide.2 ⟨fun h => ?_, fun h => ?_⟩
  · rcases h with ⟨h, h'⟩ | ⟨h, q, _, h'⟩
    · exact .inl ⟨by omega, h'⟩
    · exact .inl ⟨by omega, q, h'⟩
  · rcases h with ⟨h, q, h', h''⟩ | ⟨h, q, hq, h', _⟩
    · by_cases e : r = i
      · exact .inr ⟨e, q, (h'.in_ ha).2.2, h', h''⟩
      · exact .inl ⟨by omega, q, h', h''⟩
    · have := (h'.in_ ha).2; omega
theorem rpU_end (ha : May a) (hr : r < a.rows) : rpU a b a.rows 0 r c = prodB a b r c := by
  refine decide_eq_decide.2 ⟨fun h => ?_, fun h => ?_⟩
  · rcases h with ⟨_, h⟩ | ⟨h, _⟩
    · exact h
    · omega
  · exact .inl ⟨hr, h⟩
end
end Go.Proofs.Ytoiiellaoikojaa
