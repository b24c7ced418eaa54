/- Plain: patterns permuted, permuted back; their components. -/
import Derived.Test.YtofngbaefbbeiaaC0
set_option linter.unusedVariables false
set_option linter.unusedSimpArgs false
set_option maxHeartbeats 4000000
namespace Go.Proofs.Ytofngbaefbbeiaa
open Go.RowKit
noncomputable def permP (p : Pat) (rows cols : List Int) : Pat := shutP p.rows.toNat p.width (permB p rows cols)
section
variable {p : Pat} {rows cols br bc : List Int}
theorem permuteS_ok (h : May p) (h1 : IsOrd rows p.rows) (h2 : IsOrd cols p.width) : permuteS p rows cols = (permP p rows cols, 0) := by
  unfold permuteS
  rw [if_neg (not_not_intro h), if_neg (not_not_intro ⟨h1, h2⟩)]
  rfl
theorem rows_perm (h : May p) : (permP p rows cols).rows = p.rows := by
  have := h.toHead.r0
  show ((p.rows.toNat : Nat) : Int) = p.rows
  omega
theorem may_perm (h : May p) : May (permP p rows cols) := by
  have := h.toHead.r1
  exact shut_may (by omega) h.toHead.w0 h.toHead.w1 (permB_within p rows cols)
open Classical in
theorem has_perm (h : May p) {a b : Int} : HasP (permP p rows cols) a b ↔ (0 ≤ a ∧ a < p.rows) ∧ (0 ≤ b ∧ b < p.width) ∧ HasP p (gt rows a) (gt cols b) := by
  unfold permP
  rw [has_shut h.toHead.w1 (permB_within p rows cols)]
  unfold permB
  rw [decide_eq_true_iff]
  have := h.toHead.r0
  constructor
  · rintro ⟨_, hh⟩; exact hh
  · intro hh
    exact ⟨⟨hh.1.1, by omega⟩, hh⟩
theorem perm_back (h : May p) (hr : (rows.length : Int) = p.rows) (hc : (cols.length : Int) = p.width) (h1 : BackTo rows br p.rows p.rows) (h2 : BackTo cols bc p.width p.width) : permP (permP p rows cols) br bc = p := by
  have hq := may_perm (rows := rows) (cols := cols) h
  refine May.ext (may_perm hq) h (by rw [rows_perm hq, rows_perm h]) rfl fun a b => ?_
  rw [has_perm hq, has_perm h, rows_perm h]
  show (0 ≤ a ∧ a < p.rows) ∧ (0 ≤ b ∧ b < p.width) ∧ _ ↔ _
  constructor
  · rintro ⟨⟨a0, a1⟩, ⟨b0, b1⟩, _, _, hh⟩
    have e1 := h1.at_ hr a0 a1
    have e2 := h2.at_ hc b0 b1
    rwa [e1.2.2, e2.2.2] at hh
  · intro hh
    have hin := hh.in_ h
    have e1 := h1.at_ hr hin.1.1 hin.1.2
    have e2 := h2.at_ hc hin.2.1 hin.2.2
    refine ⟨hin.1, hin.2, ⟨e1.1, e1.2.1⟩, ⟨e2.1, e2.2.1⟩, ?_⟩
    rw [e1.2.2, e2.2.2]
    exact hh
theorem BackTo.ordB {l b : List Int} {n : Int} (hl : (l.length : Int) = n) (h : BackTo l b n n) : IsOrd b n := by
  refine ⟨h.len, fun i h0 h1 => ?_, fun i j i0 i1 j0 j1 e => ?_⟩
  · have := h.at_ hl h0 h1
    exact ⟨this.1, this.2.1⟩
  · have e1 := (h.at_ hl i0 i1).2.2
    have e2 := (h.at_ hl j0 j1).2.2
    rw [← e1, ← e2, e]
/-- the row of a place -/
theorem row_of (h : May p) {k : Int} (h0 : 0 ≤ k) (h1 : k < p.cols.length) : ∃ r, 0 ≤ r ∧ r < p.rows ∧ gt p.start r ≤ k ∧ k < gt p.start (r + 1) := by
  have HD := h.toHead
  have key : ∀ m : Nat, (m : Int) ≤ p.rows → k < gt p.start m → ∃ r, 0 ≤ r ∧ r < (m : Int) ∧ gt p.start r ≤ k ∧ k < gt p.start (r + 1) := by
    intro m
    induction m with
    | zero => intro _ hk; rw [show ((0 : Nat) : Int) = 0 by rfl, HD.z] at hk; omega
    | succ m ih =>
      intro hm hk
      by_cases hlt : k < gt p.start m
      · obtain ⟨r, a, b, c, d⟩ := ih (by omega) hlt
        exact ⟨r, a, by omega, c, d⟩
      · exact ⟨m, by omega, by omega, by omega, by rw [show (m : Int) + 1 = ((m + 1 : Nat) : Int) by omega]; exact hk⟩
  have hr := HD.r0
  obtain ⟨r, a, b, c, d⟩ := key p.rows.toNat (by omega) (by rw [show ((p.rows.toNat : Nat) : Int) = p.rows by omega, HD.e]; omega)
  exact ⟨r, a, by omega, c, d⟩
theorem row_uniq (h : May p) {k r s : Int} (r0 : 0 ≤ r) (r1 : r < p.rows) (s0 : 0 ≤ s) (s1 : s < p.rows) (h1 : gt p.start r ≤ k) (h2 : k < gt p.start (r + 1)) (h3 : gt p.start s ≤ k) (h4 : k < gt p.start (s + 1)) : r = s := by
  have hs := h.toHead.s
  have hl := h.toHead.len
  by_cases h5 : r < s
  · have := hs.mono (i := r + 1) (j := s) (by omega) (by omega) (by omega); omega
  · by_cases h6 : s < r
    · have := hs.mono (i := s + 1) (j := r) (by omega) (by omega) (by omega); omega
    · omega
theorem col_mono (h : May p) {r i : Int} (r0 : 0 ≤ r) (r1 : r < p.rows) (h1 : gt p.start r ≤ i) : ∀ (d : Nat), i + d < gt p.start (r + 1) → 0 < d → gt p.cols i < gt p.cols (i + d)
  | 0, _, h0 => by omega
  | d + 1, hd, _ => by
    have hstep := (h.row r r0 r1 (i + ((d + 1 : Nat) : Int)) (by omega) hd).2.2 (by omega)
    rw [show i + ((d + 1 : Nat) : Int) - 1 = i + d by omega] at hstep
    by_cases e : d = 0
    · subst e
      simpa using hstep
    · have := col_mono h r0 r1 h1 d (by omega) (by omega)
      omega
theorem col_inj (h : May p) {r i j : Int} (r0 : 0 ≤ r) (r1 : r < p.rows) (h1 : gt p.start r ≤ i) (h2 : i < gt p.start (r + 1)) (h3 : gt p.start r ≤ j) (h4 : j < gt p.start (r + 1)) (e : gt p.cols i = gt p.cols j) : i = j := by
  by_cases h5 : i < j
  · have := col_mono h r0 r1 h1 (j - i).toNat (by omega) (by omega)
    rw [show i + (((j - i).toNat : Nat) : Int) = j by omega] at this
    omega
  · by_cases h6 : j < i
    · have := col_mono h r0 r1 h3 (i - j).toNat (by omega) (by omega)
      rw [show j + (((i - j).toNat : Nat) : Int) = i by omega] at this
      omega
    · omega
theorem perm_le (h : May p) (h1 : IsOrd rows p.rows) (h2 : IsOrd cols p.width) : (permP p rows cols).cols.length ≤ p.cols.length := by
  have hq := may_perm (rows := rows) (cols := cols) h
  have hqr : (permP p rows cols).rows = p.rows := rows_perm h
  have each : ∀ k : Nat, k < (permP p rows cols).cols.length → ∃ f a b : Int, (0 ≤ a ∧ a < p.rows) ∧ (0 ≤ b ∧ b < p.width) ∧ (gt (permP p rows cols).start a ≤ k ∧ (k : Int) < gt (permP p rows cols).start (a + 1) ∧ gt (permP p rows cols).cols k = b) ∧ gt p.start (gt rows a) ≤ f ∧ f < gt p.start (gt rows a + 1) ∧ gt p.cols f = gt cols b := by
    intro k hk
    obtain ⟨a, a0, a1, k0, k1⟩ := row_of hq (k := k) (by omega) (by omega)
    have hh : HasP (permP p rows cols) a (gt (permP p rows cols).cols k) := ⟨a0, a1, k, k0, k1, rfl⟩
    obtain ⟨ha, hb, hr⟩ := (has_perm h).1 hh
    obtain ⟨_, _, f, f0, f1, f2⟩ := hr
    exact ⟨f, a, _, ha, hb, ⟨k0, k1, rfl⟩, f0, f1, f2⟩
  have : ∃ f : Nat → Int, ∀ k, k < (permP p rows cols).cols.length → ∃ a b : Int, (0 ≤ a ∧ a < p.rows) ∧ (0 ≤ b ∧ b < p.width) ∧ (gt (permP p rows cols).start a ≤ k ∧ (k : Int) < gt (permP p rows cols).start (a + 1) ∧ gt (permP p rows cols).cols k = b) ∧ gt p.start (gt rows a) ≤ f k ∧ f k < gt p.start (gt rows a + 1) ∧ gt p.cols (f k) = gt cols b := by
    classical
    exact ⟨fun k => if hk : k < (permP p rows cols).cols.length then (each k hk).choose else 0, fun k hk => by simp only [dif_pos hk]; exact (each k hk).choose_spec⟩
  obtain ⟨f, hf⟩ := this
  have hnd : ((List.range (permP p rows cols).cols.length).map f).Nodup := by
    refine List.pairwise_map.2 ?_
    refine List.Pairwise.imp_of_mem ?_ (List.nodup_range (n := (permP p rows cols).cols.length))
    intro k m hk hm hne e
    obtain ⟨a, b, ha, hb, ⟨k0, k1, k2⟩, f0, f1, f2⟩ := hf k (List.mem_range.1 hk)
    obtain ⟨a', b', ha', hb', ⟨m0, m1, m2⟩, g0, g1, g2⟩ := hf m (List.mem_range.1 hm)
    rw [← e] at g0 g1 g2
    have hra := h1.rng a ha.1 ha.2
    have hra' := h1.rng a' ha'.1 ha'.2
    have e1 := row_uniq h hra.1 hra.2 hra'.1 hra'.2 f0 f1 g0 g1
    have e2 := h1.inj a a' ha.1 ha.2 ha'.1 ha'.2 e1
    have e3 := h2.inj b b' hb.1 hb.2 hb'.1 hb'.2 (by rw [← f2, ← g2])
    subst e2
    have := col_inj hq (i := (k : Int)) (j := (m : Int)) ha.1 (by rw [hqr]; exact ha.2) k0 k1 m0 m1 (by rw [k2, m2, e3])
    exact hne (by omega)
  have := nodup_le p.cols.length _ hnd fun x hx => by
    obtain ⟨k, hk, rfl⟩ := List.mem_map.1 hx
    obtain ⟨a, b, ha, hb, _, f0, f1, f2⟩ := hf k (List.mem_range.1 hk)
    have hra := h1.rng a ha.1 ha.2
    have l1 := h.toHead.lo (r := gt rows a) hra.1 (by omega)
    have l2 := h.toHead.hi (r := gt rows a + 1) (by omega) (by omega)
    omega
  simpa using this
theorem perm_count (h : May p) (h1 : IsOrd rows p.rows) (h2 : IsOrd cols p.width) (b1 : BackTo rows br p.rows p.rows) (b2 : BackTo cols bc p.width p.width) : (permP p rows cols).cols.length = p.cols.length := by
  have hq := may_perm (rows := rows) (cols := cols) h
  have e1 := perm_le h h1 h2
  have e2 := perm_le (rows := br) (cols := bc) hq (by rw [rows_perm h]; exact b1.ordB h1.len) (b2.ordB h2.len)
  rw [perm_back h h1.len h2.len b1 b2] at e2
  omega
end
/-! ### components of what is renamed -/
section
variable {E F : Int → Int → Bool} {n : Int} {l : List Int}
theorem way_ren (ho : On n F) (hn : IsOrd l n) (hE : On n E) (hF : ∀ a b, 0 ≤ a → a < n → 0 ≤ b → b < n → (F a b = true ↔ E (gt l a) (gt l b) = true)) {i k : Int} (i0 : 0 ≤ i) (i1 : i < n) (k0 : 0 ≤ k) (k1 : k < n) : Way F i k ↔ Way E (gt l i) (gt l k) := by
  constructor
  · intro h
    have : ∀ {k}, Way F i k → (0 ≤ k ∧ k < n) ∧ Way E (gt l i) (gt l k) := by
      intro k h
      induction h with
      | refl => exact ⟨⟨i0, i1⟩, .refl _⟩
      | step _ h ih =>
        have hr := ho _ _ h
        exact ⟨hr.2.2, .step ih.2 ((hF _ _ hr.1 hr.2.1 hr.2.2.1 hr.2.2.2).1 h)⟩
    exact (this h).2
  · intro h
    have : ∀ {y}, Way E (gt l i) y → ∃ k, 0 ≤ k ∧ k < n ∧ gt l k = y ∧ Way F i k := by
      intro y h
      induction h with
      | refl => exact ⟨i, i0, i1, rfl, .refl _⟩
      | step _ h ih =>
        obtain ⟨k, k0, k1, rfl, hw⟩ := ih
        have hr := hE _ _ h
        obtain ⟨m, m0, m1, e⟩ := hn.surj hr.2.2.1 hr.2.2.2
        subst e
        exact ⟨m, m0, m1, rfl, .step hw ((hF _ _ k0 k1 m0 m1).2 h)⟩
    obtain ⟨m, m0, m1, e, hw⟩ := this h
    rw [hn.inj k m k0 k1 m0 m1 e.symm]
    exact hw
end
end Go.Proofs.Ytofngbaefbbeiaa
