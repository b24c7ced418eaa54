/- Plain facts on lists and patterns: no program. -/
import Derived.Test.YtoiiellaoikojaaLA
set_option linter.unusedVariables false
set_option linter.unusedSimpArgs false
namespace Go.Proofs.Ytoiiellaoikojaa

theorem gt_sub {xs : List Int} {lo hi i : Int} (h0 : 0 ≤ lo) (h1 : lo ≤ hi) (h2 : hi ≤ xs.length) (hi0 : 0 ≤ i) (hi1 : i < (sub xs lo hi).length) : gt (sub xs lo hi) i = gt xs (lo + i) := by
  rw [sub_length xs h0 h1 h2] at hi1
  unfold gt sub
  simp only [List.getD_eq_getElem?_getD]
  rw [List.getElem?_take_of_lt (by omega), List.getElem?_drop, show (lo + i).toNat = lo.toNat + i.toNat by omega]

def SortedL (xs : List Int) : Prop := ∀ i : Int, 0 ≤ i → i + 1 < xs.length → gt xs i ≤ gt xs (i + 1)
theorem SortedL.le {xs : List Int} (h : SortedL xs) {i : Int} (d : Nat) (h0 : 0 ≤ i) (h1 : i + d < xs.length) : gt xs i ≤ gt xs (i + d) := by
  induction d with
  | zero => simp
  | succ d ih =>
    have h2 := ih (by omega)
    have h3 := h (i + d) (by omega) (by omega)
    rw [show i + (d : Int) + 1 = i + ((d + 1 : Nat) : Int) by omega] at h3
    omega
theorem SortedL.mono {xs : List Int} (h : SortedL xs) {i j : Int} (h0 : 0 ≤ i) (hij : i ≤ j) (h1 : j < xs.length) : gt xs i ≤ gt xs j := by
  have := h.le (i := i) (j - i).toNat h0 (by omega)
  rwa [show i + ((j - i).toNat : Int) = j by omega] at this

structure Pat where
  rows : Int
  width : Int
  start : List Int
  cols : List Int

structure Head (p : Pat) : Prop where
  r0 : 0 ≤ p.rows
  r1 : p.rows ≤ 128
  w0 : 0 ≤ p.width
  w1 : p.width ≤ 128
  len : (p.start.length : Int) = p.rows + 1
  z : gt p.start 0 = 0
  e : gt p.start p.rows = p.cols.length
  s : SortedL p.start
def RowOK (p : Pat) (r : Int) : Prop := ∀ i, gt p.start r ≤ i → i < gt p.start (r + 1) → 0 ≤ gt p.cols i ∧ gt p.cols i < p.width ∧ (gt p.start r < i → gt p.cols (i - 1) < gt p.cols i)
structure May (p : Pat) : Prop extends Head p where
  row : ∀ r, 0 ≤ r → r < p.rows → RowOK p r
theorem Head.lo {p : Pat} (h : Head p) {r : Int} (h0 : 0 ≤ r) (h1 : r ≤ p.rows) : 0 ≤ gt p.start r := by
  have := h.s.mono (Int.le_refl 0) h0 (by have := h.len; omega)
  rw [h.z] at this; exact this
theorem Head.hi {p : Pat} (h : Head p) {r : Int} (h0 : 0 ≤ r) (h1 : r ≤ p.rows) : gt p.start r ≤ p.cols.length := by
  have := h.s.mono h0 h1 (by have := h.len; omega)
  rw [h.e] at this; exact this
theorem Head.step {p : Pat} (h : Head p) {r : Int} (h0 : 0 ≤ r) (h1 : r < p.rows) : gt p.start r ≤ gt p.start (r + 1) := h.s.mono h0 (by omega) (by have := h.len; omega)

/-- a place of a pattern -/
def HasP (p : Pat) (r c : Int) : Prop := 0 ≤ r ∧ r < p.rows ∧ ∃ k, gt p.start r ≤ k ∧ k < gt p.start (r + 1) ∧ gt p.cols k = c
theorem RowOK.le {p : Pat} {r : Int} (h : RowOK p r) (d : Nat) {i : Int} (h0 : gt p.start r ≤ i) (h1 : i + d < gt p.start (r + 1)) : gt p.cols i + d ≤ gt p.cols (i + d) := by
  induction d with
  | zero => simp
  | succ d ih =>
    have h2 := ih (by omega)
    have h3 := (h (i + (d + 1 : Nat)) (by omega) (by omega)).2.2 (by omega)
    rw [show i + ((d + 1 : Nat) : Int) - 1 = i + d by omega] at h3
    omega
theorem RowOK.lt {p : Pat} {r : Int} (h : RowOK p r) {i j : Int} (h0 : gt p.start r ≤ i) (hij : i < j) (h1 : j < gt p.start (r + 1)) : gt p.cols i < gt p.cols j := by
  have := h.le (j - i).toNat h0 (by omega)
  rw [show i + ((j - i).toNat : Int) = j by omega] at this
  omega

/-! ### patterns out of truths -/
/-- the columns of a row of truths, rising -/
def rowOf (f : Int → Bool) : List Int := ((List.range 128).map fun i : Nat => (i : Int)).filter f
theorem mem_rowOf {f : Int → Bool} {y : Int} : y ∈ rowOf f ↔ (0 ≤ y ∧ y < 128) ∧ f y = true := by
  unfold rowOf
  rw [List.mem_filter, List.mem_map]
  constructor
  · rintro ⟨⟨a, ha, rfl⟩, h⟩
    exact ⟨by have := List.mem_range.1 ha; omega, h⟩
  · rintro ⟨⟨h0, h1⟩, h⟩
    exact ⟨⟨y.toNat, List.mem_range.2 (by omega), by omega⟩, h⟩
theorem rowOf_lt (f : Int → Bool) : (rowOf f).Pairwise (· < ·) := by
  unfold rowOf
  refine List.Pairwise.filter _ (List.pairwise_map.2 ?_)
  exact (List.pairwise_lt_range).imp fun h => by omega
theorem rowOf_len (f : Int → Bool) : (rowOf f).length ≤ 128 := by
  unfold rowOf
  refine Nat.le_trans (List.length_filter_le _ _) (by simp)
theorem eq_of_sorted : ∀ {l m : List Int}, l.Pairwise (· < ·) → m.Pairwise (· < ·) → (∀ y, y ∈ l ↔ y ∈ m) → l = m
  | [], [], _, _, _ => rfl
  | [], b :: m, _, _, h => by have := (h b).2 (by simp); simp at this
  | a :: l, [], _, _, h => by have := (h a).1 (by simp); simp at this
  | a :: l, b :: m, h1, h2, h => by
    rw [List.pairwise_cons] at h1 h2
    have hab : a = b := by
      have ha := (h a).1 (by simp)
      have hb := (h b).2 (by simp)
      rcases List.mem_cons.1 ha with e | e
      · exact e
      · rcases List.mem_cons.1 hb with e' | e'
        · exact e'.symm
        · have := h2.1 a e; have := h1.1 b e'; omega
    subst hab
    rw [eq_of_sorted h1.2 h2.2 fun y => ?_]
    have := h y
    simp only [List.mem_cons] at this
    constructor
    · intro hy
      rcases this.1 (.inr hy) with rfl | e
      · have := h1.1 y hy; omega
      · exact e
    · intro hy
      rcases this.2 (.inr hy) with rfl | e
      · have := h2.1 y hy; omega
      · exact e
theorem rowOf_eq {f : Int → Bool} (hf : ∀ y, f y = true → 0 ≤ y ∧ y < 128) {l : List Int} (h1 : l.Pairwise (· < ·)) (h2 : ∀ y, y ∈ l ↔ f y = true) : l = rowOf f :=
  eq_of_sorted h1 (rowOf_lt f) fun y => by rw [h2, mem_rowOf]; exact ⟨fun h => ⟨hf y h, h⟩, fun h => h.2⟩
/-- where the rows begin -/
def starts : Int → List (List Int) → List Int
  | s, [] => [s]
  | s, l :: L => s :: starts (s + l.length) L
theorem starts_snoc : ∀ (s : Int) (L : List (List Int)) (l : List Int), starts s (L ++ [l]) = starts s L ++ [s + (L.flatten.length : Int) + l.length]
  | s, [], l => by simp [starts]
  | s, a :: L, l => by
    simp only [List.cons_append, starts, starts_snoc (s + a.length) L l, List.flatten_cons, List.length_append]
    congr 3
    omega
theorem starts_len : ∀ (s : Int) (L : List (List Int)), (starts s L).length = L.length + 1
  | s, [] => rfl
  | s, a :: L => by simp [starts, starts_len _ L]
def rowsOf (m : Nat) (S : Int → Int → Bool) : List (List Int) := (List.range m).map fun r : Nat => rowOf (S (r : Int))
theorem rowsOf_take {m r : Nat} (h : r < m) (S : Int → Int → Bool) : (rowsOf m S).take (r + 1) = (rowsOf m S).take r ++ [rowOf (S (r : Int))] := by
  rw [List.take_succ_eq_append_getElem (by simpa [rowsOf] using h)]
  simp [rowsOf]
theorem flat_len : ∀ (L : List (List Int)), (∀ l ∈ L, l.length ≤ 128) → L.flatten.length ≤ 128 * L.length
  | [], _ => by simp
  | a :: L, h => by
    have h1 := flat_len L (fun l hl => h l (List.mem_cons_of_mem _ hl))
    have h2 := h a (by simp)
    simp only [List.flatten_cons, List.length_append, List.length_cons]
    omega
theorem rowsOf_flat (m r : Nat) (S : Int → Int → Bool) : ((rowsOf m S).take r).flatten.length ≤ 128 * m := by
  refine Nat.le_trans (flat_len _ fun l hl => ?_) ?_
  · have := List.mem_of_mem_take hl
    obtain ⟨i, _, rfl⟩ := List.mem_map.1 this
    exact rowOf_len _
  · have : ((rowsOf m S).take r).length ≤ m := by simp [rowsOf]; omega
    exact Nat.mul_le_mul_left 128 this
/-- the pattern of these truths -/
def shutP (m : Nat) (width : Int) (S : Int → Int → Bool) : Pat := ⟨m, width, starts 0 (rowsOf m S), (rowsOf m S).flatten⟩
end Go.Proofs.Ytoiiellaoikojaa
