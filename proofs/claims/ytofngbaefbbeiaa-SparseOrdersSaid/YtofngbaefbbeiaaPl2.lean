/- Plain facts: patterns and tables of truths are the same thing: no program. -/
import Derived.Test.YtofngbaefbbeiaaPl
import Derived.Test.YtofngbaefbbeiaaT14
set_option linter.unusedVariables false
set_option linter.unusedSimpArgs false
namespace Go.Proofs.Ytofngbaefbbeiaa
section
variable {α : Type} [Inhabited α]
theorem gt_left {xs ys : List α} {i : Int} (h0 : 0 ≤ i) (h1 : i < xs.length) : gt (xs ++ ys) i = gt xs i := by
  unfold gt
  simp only [List.getD_eq_getElem?_getD]
  rw [List.getElem?_append_left (by omega)]
theorem gt_right {xs ys : List α} {i : Int} (h1 : (xs.length : Int) ≤ i) : gt (xs ++ ys) i = gt ys (i - xs.length) := by
  unfold gt
  simp only [List.getD_eq_getElem?_getD]
  rw [List.getElem?_append_right (by omega), show i.toNat - xs.length = (i - xs.length).toNat by omega]
theorem gt_elem {xs : List α} {i : Int} (h0 : 0 ≤ i) (h1 : i < xs.length) : gt xs i = xs[i.toNat]'(by omega) := by
  unfold gt
  simp only [List.getD_eq_getElem?_getD]
  rw [List.getElem?_eq_getElem (by omega)]
  rfl
theorem gt_mem {xs : List α} {i : Int} (h0 : 0 ≤ i) (h1 : i < xs.length) : gt xs i ∈ xs := by
  rw [gt_elem h0 h1]; exact List.getElem_mem _
theorem mem_gt {xs : List α} {y : α} (h : y ∈ xs) : ∃ i : Int, 0 ≤ i ∧ i < xs.length ∧ gt xs i = y := by
  obtain ⟨k, hk, rfl⟩ := List.mem_iff_getElem.1 h
  exact ⟨k, by omega, by omega, by rw [gt_elem (by omega) (by omega)]; simp⟩
end
theorem pair_gt {l : List Int} (h : l.Pairwise (· < ·)) {i j : Int} (h0 : 0 ≤ i) (h1 : i < j) (h2 : j < l.length) : gt l i < gt l j := by
  rw [gt_elem h0 (by omega), gt_elem (by omega) h2]
  exact List.pairwise_iff_getElem.1 h _ _ _ _ (by omega)
theorem gt_flatten : ∀ (L : List (List Int)) (r : Nat) (hr : r < L.length) (j : Int), 0 ≤ j → j < (L[r]).length → gt L.flatten (((L.take r).flatten.length : Int) + j) = gt L[r] j
  | [], r, hr, _, _, _ => by simp at hr
  | a :: L, 0, _, j, h0, h1 => by
    simp only [List.take_zero, List.flatten_nil, List.length_nil, List.flatten_cons, List.getElem_cons_zero] at h1 ⊢
    rw [gt_left (by omega) (by omega)]
    congr 1; omega
  | a :: L, r + 1, hr, j, h0, h1 => by
    simp only [List.take_succ_cons, List.flatten_cons, List.length_append, List.getElem_cons_succ] at h1 ⊢
    rw [gt_right (by omega), ← gt_flatten L r (by simpa using hr) j h0 h1]
    congr 1; omega
theorem gt_starts : ∀ (s : Int) (L : List (List Int)) (r : Nat), r ≤ L.length → gt (starts s L) r = s + ((L.take r).flatten.length : Int)
  | s, [], r, hr => by
    obtain rfl : r = 0 := by simpa using hr
    simp [starts, gt]
  | s, a :: L, 0, _ => by simp [starts, gt]
  | s, a :: L, r + 1, hr => by
    have ih := gt_starts (s + a.length) L r (by simpa using hr)
    have e : gt (starts s (a :: L)) ((r + 1 : Nat) : Int) = gt (starts (s + a.length) L) r := by
      unfold gt
      rw [starts]
      simp only [List.getD_eq_getElem?_getD]
      rw [show (((r + 1 : Nat) : Int)).toNat = r + 1 by omega, show ((r : Int)).toNat = r by omega]
      rfl
    rw [e, ih]
    simp only [List.take_succ_cons, List.flatten_cons, List.length_append]
    push_cast
    omega
def flen (m : Nat) (S : Int → Int → Bool) (r : Nat) : Int := (((rowsOf m S).take r).flatten.length : Int)
theorem rowsOf_length (m : Nat) (S : Int → Int → Bool) : (rowsOf m S).length = m := by simp [rowsOf]
theorem rowsOf_get {m r : Nat} (S : Int → Int → Bool) (h : r < (rowsOf m S).length) : (rowsOf m S)[r] = rowOf (S (r : Int)) := by simp [rowsOf]
theorem sh_start {m : Nat} {w : Int} {S : Int → Int → Bool} {r : Nat} (h : r ≤ m) : gt (shutP m w S).start r = flen m S r := by
  have := gt_starts 0 (rowsOf m S) r (by rw [rowsOf_length]; exact h)
  simpa [shutP, flen] using this
theorem flen_step {m : Nat} {S : Int → Int → Bool} {r : Nat} (h : r < m) : flen m S (r + 1) = flen m S r + (rowOf (S r)).length := by
  unfold flen
  rw [rowsOf_take h, List.flatten_append]
  simp
theorem sh_cols {m : Nat} {w : Int} {S : Int → Int → Bool} {r : Nat} (h : r < m) {j : Int} (h0 : 0 ≤ j) (h1 : j < (rowOf (S r)).length) : gt (shutP m w S).cols (flen m S r + j) = gt (rowOf (S r)) j := by
  have hl : r < (rowsOf m S).length := by rw [rowsOf_length]; exact h
  have e := rowsOf_get S hl
  have := gt_flatten (rowsOf m S) r hl j h0 (by rw [e]; exact h1)
  rw [e] at this
  exact this
theorem flen_zero (m : Nat) (S : Int → Int → Bool) : flen m S 0 = 0 := by simp [flen]
theorem flen_all (m : Nat) (S : Int → Int → Bool) : flen m S m = (rowsOf m S).flatten.length := by
  unfold flen
  rw [List.take_of_length_le (by rw [rowsOf_length]; exact Nat.le_refl _)]
/-- the truths lie within -/
def Within (m : Nat) (w : Int) (S : Int → Int → Bool) : Prop := ∀ r : Nat, r < m → ∀ c, S r c = true → 0 ≤ c ∧ c < w
theorem shut_row {m : Nat} {w : Int} {S : Int → Int → Bool} {r : Nat} (h : r < m) {i : Int} (h0 : gt (shutP m w S).start r ≤ i) (h1 : i < gt (shutP m w S).start ((r : Int) + 1)) : 0 ≤ i - flen m S r ∧ i - flen m S r < (rowOf (S r)).length ∧ gt (shutP m w S).cols i = gt (rowOf (S r)) (i - flen m S r) := by
  rw [sh_start (by omega)] at h0
  rw [show (r : Int) + 1 = ((r + 1 : Nat) : Int) by omega, sh_start (by omega), flen_step h] at h1
  refine ⟨by omega, by omega, ?_⟩
  rw [← sh_cols (w := w) h (j := i - flen m S r) (by omega) (by omega)]
  congr 1; omega
theorem shut_may {m : Nat} {w : Int} {S : Int → Int → Bool} (hm : m ≤ 128) (hw0 : 0 ≤ w) (hw1 : w ≤ 128) (hS : Within m w S) : May (shutP m w S) := by
  refine ⟨⟨by simp [shutP], by simp [shutP]; omega, hw0, hw1, ?_, ?_, ?_, ?_⟩, ?_⟩
  · simp [shutP, starts_len, rowsOf_length]
  · have := sh_start (m := m) (w := w) (S := S) (r := 0) (by omega)
    rw [flen_zero] at this
    exact this
  · have := sh_start (m := m) (w := w) (S := S) (r := m) (by omega)
    rw [flen_all] at this
    exact this
  · intro i h0 h1
    have hl : (shutP m w S).start.length = m + 1 := by simp [shutP, starts_len, rowsOf_length]
    rw [hl] at h1
    obtain ⟨k, rfl⟩ := Int.eq_ofNat_of_zero_le h0
    have := flen_step (m := m) (S := S) (r := k) (by omega)
    rw [show (k : Int) + 1 = ((k + 1 : Nat) : Int) by omega, sh_start (by omega), sh_start (by omega)]
    omega
  · intro r h0 h1 i hi0 hi1
    obtain ⟨k, rfl⟩ := Int.eq_ofNat_of_zero_le h0
    have hk : k < m := by have : (k : Int) < m := h1; omega
    obtain ⟨a, b, e⟩ := shut_row hk hi0 hi1
    have hmem := gt_mem (xs := rowOf (S k)) a b
    have hin := hS k hk _ (mem_rowOf.1 hmem).2
    rw [e]
    refine ⟨hin.1, hin.2, fun hlt => ?_⟩
    rw [sh_start (by omega)] at hlt
    obtain ⟨a', b', e'⟩ := shut_row (w := w) (S := S) hk (i := i - 1) (by rw [sh_start (by omega)]; omega) (by omega)
    rw [e']
    exact pair_gt (rowOf_lt _) a' (by omega) b
theorem has_shut {m : Nat} {w : Int} {S : Int → Int → Bool} (hw1 : w ≤ 128) (hS : Within m w S) {r c : Int} : HasP (shutP m w S) r c ↔ (0 ≤ r ∧ r < m) ∧ S r c = true := by
  constructor
  · rintro ⟨h0, h1, k, hk0, hk1, hk2⟩
    obtain ⟨n, rfl⟩ := Int.eq_ofNat_of_zero_le h0
    have hn : n < m := by have : (n : Int) < m := h1; omega
    obtain ⟨a, b, e⟩ := shut_row hn hk0 hk1
    have hmem := gt_mem (xs := rowOf (S n)) a b
    rw [← e, hk2] at hmem
    exact ⟨⟨h0, h1⟩, (mem_rowOf.1 hmem).2⟩
  · rintro ⟨⟨h0, h1⟩, hs⟩
    obtain ⟨n, rfl⟩ := Int.eq_ofNat_of_zero_le h0
    have hn : n < m := by omega
    have hin := hS n hn c hs
    obtain ⟨j, j0, j1, e⟩ := mem_gt (mem_rowOf.2 ⟨⟨hin.1, by omega⟩, hs⟩ : c ∈ rowOf (S n))
    refine ⟨h0, h1, flen m S n + j, ?_, ?_, ?_⟩
    · rw [sh_start (by omega)]; omega
    · rw [show (n : Int) + 1 = ((n + 1 : Nat) : Int) by omega, sh_start (by omega), flen_step hn]; omega
    · rw [sh_cols hn j0 j1, e]
theorem shut_congr {m : Nat} {w : Int} {S S' : Int → Int → Bool} (h : ∀ r : Nat, r < m → ∀ c, 0 ≤ c → c < 128 → S r c = S' r c) : shutP m w S = shutP m w S' := by
  have e : rowsOf m S = rowsOf m S' := by
    unfold rowsOf
    refine List.map_congr_left fun r hr => ?_
    refine eq_of_sorted (rowOf_lt _) (rowOf_lt _) fun y => ?_
    rw [mem_rowOf, mem_rowOf]
    constructor
    · rintro ⟨⟨a, b⟩, c⟩; exact ⟨⟨a, b⟩, by rw [← h r (List.mem_range.1 hr) y a b]; exact c⟩
    · rintro ⟨⟨a, b⟩, c⟩; exact ⟨⟨a, b⟩, by rw [h r (List.mem_range.1 hr) y a b]; exact c⟩
  unfold shutP
  rw [e]
theorem HasP.in_ {p : Pat} (hm : May p) {r c : Int} (h : HasP p r c) : (0 ≤ r ∧ r < p.rows) ∧ 0 ≤ c ∧ c < p.width := by
  obtain ⟨h0, h1, k, a, b, e⟩ := h
  have := hm.row r h0 h1 k a b
  rw [e] at this
  exact ⟨⟨h0, h1⟩, this.1, this.2.1⟩
theorem hasB_within {p : Pat} (hm : May p) : Within p.rows.toNat p.width (hasB p) := fun r _ c h => ((hasB_iff.1 h).in_ hm).2
theorem sub_get {xs : List Int} {lo hi : Int} (h0 : 0 ≤ lo) (h1 : lo ≤ hi) (h2 : hi ≤ xs.length) : xs.take hi.toNat = xs.take lo.toNat ++ sub xs lo hi := by
  unfold sub
  rw [show hi.toNat = lo.toNat + (hi.toNat - lo.toNat) by omega, List.take_add, show lo.toNat + (hi.toNat - lo.toNat) - lo.toNat = hi.toNat - lo.toNat by omega]
/-- a row of a pattern that may be -/
theorem row_has {p : Pat} (hm : May p) {r : Nat} (hr : (r : Int) < p.rows) : sub p.cols (gt p.start r) (gt p.start ((r : Int) + 1)) = rowOf (hasB p r) := by
  have g1 := hm.toHead.lo (r := (r : Int)) (by omega) (by omega)
  have g2 := hm.toHead.hi (r := (r : Int) + 1) (by omega) (by omega)
  have g3 := hm.toHead.step (r := (r : Int)) (by omega) hr
  have hl := sub_length p.cols g1 g3 g2
  have hrow := hm.row r (by omega) hr
  refine eq_of_sorted ?_ (rowOf_lt _) fun y => ?_
  · rw [List.pairwise_iff_getElem]
    intro i j hi hj hij
    have e1 := gt_elem (xs := sub p.cols (gt p.start r) (gt p.start ((r : Int) + 1))) (i := (i : Int)) (by omega) (by omega)
    have e2 := gt_elem (xs := sub p.cols (gt p.start r) (gt p.start ((r : Int) + 1))) (i := (j : Int)) (by omega) (by omega)
    simp only [Int.toNat_natCast] at e1 e2
    rw [← e1, ← e2, gt_sub g1 g3 g2 (by omega) (by omega), gt_sub g1 g3 g2 (by omega) (by omega)]
    exact hrow.lt (by omega) (by omega) (by omega)
  · rw [mem_rowOf, hasB_iff]
    constructor
    · intro hy
      obtain ⟨j, j0, j1, e⟩ := mem_gt hy
      rw [gt_sub g1 g3 g2 j0 j1] at e
      have hh : HasP p r y := ⟨by omega, hr, gt p.start r + j, by omega, by omega, e⟩
      have := (hh.in_ hm).2
      have := hm.toHead.w1
      exact ⟨by omega, hh⟩
    · rintro ⟨_, _, _, k, a, b, e⟩
      have := gt_sub (xs := p.cols) g1 g3 g2 (i := k - gt p.start r) (by omega) (by omega)
      rw [show gt p.start r + (k - gt p.start r) = k by omega, e] at this
      rw [← this]
      exact gt_mem (by omega) (by omega)
theorem cols_rows {p : Pat} (hm : May p) : ∀ r : Nat, (r : Int) ≤ p.rows → p.cols.take (gt p.start r).toNat = ((rowsOf p.rows.toNat (hasB p)).take r).flatten
  | 0, _ => by
    have := hm.toHead.z
    simp only [Int.natCast_zero] at *
    simp [this]
  | r + 1, hr => by
    have g1 := hm.toHead.lo (r := (r : Int)) (by omega) (by omega)
    have g2 := hm.toHead.hi (r := (r : Int) + 1) (by omega) (by omega)
    have g3 := hm.toHead.step (r := (r : Int)) (by omega) (by omega)
    have ih := cols_rows hm r (by omega)
    rw [show ((r + 1 : Nat) : Int) = (r : Int) + 1 by omega, sub_get g1 g3 g2, ih, rowsOf_take (by omega), List.flatten_append, row_has hm (by omega)]
    simp
theorem shut_has {p : Pat} (hm : May p) : shutP p.rows.toNat p.width (hasB p) = p := by
  have h0 := hm.toHead.r0
  have hrows : ((p.rows.toNat : Nat) : Int) = p.rows := by omega
  have hc : (rowsOf p.rows.toNat (hasB p)).flatten = p.cols := by
    have := cols_rows hm p.rows.toNat (by omega)
    have htk : (rowsOf p.rows.toNat (hasB p)).take p.rows.toNat = rowsOf p.rows.toNat (hasB p) := List.take_of_length_le (by rw [rowsOf_length]; exact Nat.le_refl _)
    rw [hrows, hm.toHead.e, htk] at this
    rw [← this]
    simp
  have hs : starts 0 (rowsOf p.rows.toNat (hasB p)) = p.start := by
    refine gt_ext (by rw [starts_len, rowsOf_length]; have := hm.toHead.len; omega) fun i i0 i1 => ?_
    rw [starts_len, rowsOf_length] at i1
    obtain ⟨k, rfl⟩ := Int.eq_ofNat_of_zero_le i0
    rw [gt_starts 0 _ k (by rw [rowsOf_length]; omega), ← cols_rows hm k (by omega), List.length_take]
    have g1 := hm.toHead.lo (r := (k : Int)) (by omega) (by omega)
    have g2 := hm.toHead.hi (r := (k : Int)) (by omega) (by omega)
    omega
  cases p
  simp only [shutP] at *
  rw [hrows, hs, hc]
theorem May.ext {p q : Pat} (hp : May p) (hq : May q) (hr : p.rows = q.rows) (hw : p.width = q.width) (h : ∀ r c, HasP p r c ↔ HasP q r c) : p = q := by
  rw [← shut_has hp, ← shut_has hq, hr, hw]
  refine shut_congr fun r _ c _ _ => ?_
  rw [Bool.eq_iff_iff, hasB_iff, hasB_iff]
  exact h r c
end Go.Proofs.Ytofngbaefbbeiaa
