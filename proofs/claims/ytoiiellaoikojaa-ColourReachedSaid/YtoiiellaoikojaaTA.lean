/- Walks: small functions. Walks: sparse.May. Walks: blank, each. -/
import Derived.Test.YtoiiellaoikojaaG0
import Derived.Test.YtoiiellaoikojaaPl
import Derived.Test.YtoiiellaoikojaaLB
set_option linter.unusedVariables false
set_option linter.unusedSimpArgs false
set_option maxHeartbeats 8000000
namespace Go.Proofs.Ytoiiellaoikojaa
open Go.RowKit
/-- a pattern as a value -/
def patV (p : Pat) (A : Option Addr) (c : Nat) (B : Option Addr) (d : Nat) : Value := .agg #[vi p.rows, vi p.width, .slice A p.start.length c, .slice B p.cols.length d]
theorem side_t {x : Int} (w : World) (h0 : 0 ≤ x) (h1 : x ≤ 128) : Calls Try.prog 86 [vi x].toArray w (one (.bool true) w) := by
  refine calls_wc [] [] [.tmp 2] (fun _ => [.bool true]) Try.func86 rfl rfl (fun _ => rfl) Try.ntmps86 rfl (Own.nil w) rfl ?_
  refine gg ?_
  exact grt () trivial
theorem side_f {x : Int} (w : World) (h : x < 0 ∨ 128 < x) : Calls Try.prog 86 [vi x].toArray w (one (.bool false) w) := by
  by_cases h0 : 0 ≤ x
  all_goals
    refine calls_wc [] [] [.tmp 2] (fun _ => [.bool false]) Try.func86 rfl rfl (fun _ => rfl) Try.ntmps86 rfl (Own.nil w) rfl ?_
    refine gg ?_
    exact grt () trivial
theorem isNaN_c {x : Int} (w : World) : Calls Try.prog 119 [vi x].toArray w (one (.bool false) w) := by
  refine calls_wc [] [] [.tmp 2] (fun _ => [.bool false]) Try.func119 rfl rfl (fun _ => rfl) Try.ntmps119 rfl (Own.nil w) rfl ?_
  refine gg ?_
  exact grt () trivial
theorem less_t {x y : Int} (w : World) (h : x < y) : Calls Try.prog 110 [vi x, vi y].toArray w (one (.bool true) w) := by
  refine calls_wc [] [] [.tmp 4] (fun _ => [.bool true]) Try.func110 rfl rfl (fun _ => rfl) Try.ntmps110 rfl (Own.nil w) rfl ?_
  refine gg ?_
  refine gc1 (fun w _ => isNaN_c (x := x) w) (by exact rfl) ?_
  refine gg ?_
  exact grt () trivial
theorem less_f {x y : Int} (w : World) (h : y ≤ x) : Calls Try.prog 110 [vi x, vi y].toArray w (one (.bool false) w) := by
  refine calls_wc [] [] [.tmp 4] (fun _ => [.bool false]) Try.func110 rfl rfl (fun _ => rfl) Try.ntmps110 rfl (Own.nil w) rfl ?_
  refine gg ?_
  refine gc1 (fun w _ => isNaN_c (x := x) w) (by exact rfl) ?_
  refine gg ?_
  exact grt () trivial

theorem isSorted_c {A : Option Addr} {c : Nat} {xs : List Int} (w : World) (h : Rds vi w A c xs) (b : Bool) (hb : b = true ↔ SortedL xs) : Calls Try.prog 87 [.slice A xs.length c].toArray w (one (.bool b) w) := by
  have hr := h.old
  have hl := h.len
  refine calls_wc [] [] [.tmp 2] (fun _ => [.bool b]) Try.func87 rfl rfl (fun _ => rfl) Try.ntmps87 rfl (Own.nil w) rfl ?_
  refine gg ?_
  refine wc_loop (fun k : Int => -1 ≤ k ∧ k < xs.length ∧ ∀ i, k ≤ i → 0 ≤ i → i + 1 < xs.length → gt xs i ≤ gt xs (i + 1)) (fun k => [(0, .slice A xs.length c), (3, vi k)]) (fun _ => []) (fun k => (k + 1).toNat) (xs.length - 1) ⟨by omega, by omega, fun i _ _ _ => by omega⟩ (.cons rfl (.cons rfl .nil)) rfl ?_
  rintro k ⟨hk0, hk1, hs⟩
  by_cases hp : 0 < k
  · by_cases hlt : gt xs k < gt xs (k - 1)
    · have hbf : b = false := by
        cases hbb : b with
        | false => rfl
        | true =>
          have h1 := (hb.1 hbb) (k - 1) (by omega) (by omega)
          rw [show k - 1 + 1 = k by omega] at h1
          omega
      subst hbf
      refine gg ?_
      refine wc_quiet mixed (by kernel_rfl) ?_
      refine gg ?_
      refine gc2 (fun w _ => less_t w hlt) (by exact rfl) ?_
      refine gg ?_
      exact grt () trivial
    · have hle : gt xs (k - 1) ≤ gt xs k := by omega
      refine gg ?_
      refine wc_quiet mixed (by kernel_rfl) ?_
      refine gg ?_
      refine gc2 (fun w _ => less_f w hle) (by exact rfl) ?_
      refine gg ?_
      refine ⟨k - 1, ⟨by omega, by omega, fun i h1 h2 h3 => ?_⟩, .cons rfl (.cons rfl .nil), rfl, by omega⟩
      by_cases hi : i = k - 1
      · subst hi; rw [show k - 1 + 1 = k by omega]; exact hle
      · exact hs i (by omega) h2 h3
  · have hbt : b = true := hb.2 fun i h0 h1 => hs i (by omega) h0 h1
    subst hbt
    refine gg ?_
    exact grt () trivial
section
variable {p : Pat} {A B : Option Addr} {c d : Nat}
/-- the rows of a pattern whose head is right, from row r on -/
theorem may_head {w : World} (hA : Rds vi w A c p.start) (hB : Rds vi w B d p.cols) (h : Head p) (b : Bool) (hb : b = true ↔ ∀ r, 0 ≤ r → r < p.rows → RowOK p r) :
    Calls Try.prog 50 [patV p A c B d].toArray w (one (.bool b) w) := by
  have oA := hA.old
  have oB := hB.old
  have lA := hA.len
  have lB := hB.len
  obtain ⟨h1, h2, h3, h4, h5, h6, h7, h8⟩ := h
  have HD : Head p := ⟨h1, h2, h3, h4, h5, h6, h7, h8⟩
  unfold patV
  refine calls_wc [] [] [.tmp 2] (fun _ => [.bool b]) Try.func50 rfl rfl (fun _ => rfl) Try.ntmps50 rfl (Own.nil w) rfl ?_
  refine gg ?_
  refine wl_op (ok_box rfl rfl rfl rfl rfl ?_); intro bp
  refine gg ?_
  refine wc_quiet mixed (by kernel_rfl) ?_
  refine gg ?_
  refine gc2 (fun w' _ => side_t w' h1 h2) (by exact rfl) ?_
  refine gg ?_
  refine gc2 (fun w' _ => side_t w' h3 h4) (by exact rfl) ?_
  refine gg ?_
  refine gc2 (fun w' hst => isSorted_c w' (oA.now hst) true (by simp [h8])) (by exact rfl) ?_
  refine gg ?_
  refine wc_loop (fun r : Int => 0 ≤ r ∧ r ≤ p.rows ∧ ∀ q, 0 ≤ q → q < r → RowOK p q) (fun r => [(1, .pointer (some ⟨bp, 0, none⟩)), (52, vi p.rows), (53, vi r)]) (fun _ => [blk bp [vi p.rows, vi p.width, .slice A p.start.length c, .slice B p.cols.length d] 24]) (fun r => (p.rows - r).toNat) 0 ⟨by omega, by omega, fun q hq hq' => by omega⟩ (.cons rfl (.cons rfl (.cons rfl .nil))) rfl ?_
  rintro r ⟨hr0, hr1, hrow⟩
  by_cases hr : r < p.rows
  · have g1 := HD.lo hr0 hr1
    have g2 := HD.hi (r := r + 1) (by omega) (by omega)
    have g3 := HD.step hr0 hr
    refine gg ?_
    refine wc_quiet mixed (by kernel_rfl) ?_
    refine gg ?_
    refine wq_slice oB rfl rfl rfl rfl rfl rfl rfl (el_of rfl) (sz_of rfl) g1 g3 g2 ?_
    intro A' c' hsub
    have hsl := sub_length p.cols g1 g3 g2
    refine gg ?_
    refine wc_loop (fun x : Int × Int => 0 ≤ x.1 ∧ x.1 ≤ (sub p.cols (gt p.start r) (gt p.start (r + 1))).length ∧ (x.1 = 0 → x.2 = -1) ∧ (0 < x.1 → x.2 = gt p.cols (gt p.start r + x.1 - 1)) ∧ (∀ i, gt p.start r ≤ i → i < gt p.start r + x.1 → 0 ≤ gt p.cols i ∧ gt p.cols i < p.width ∧ (gt p.start r < i → gt p.cols (i - 1) < gt p.cols i)))
      (fun x => [(1, .pointer (some ⟨bp, 0, none⟩)), (3, vi r), (4, vi x.2), (52, vi p.rows), (53, vi r), (69, .slice A' (sub p.cols (gt p.start r) (gt p.start (r + 1))).length c'), (70, vi (sub p.cols (gt p.start r) (gt p.start (r + 1))).length), (71, vi x.1)]) (fun _ => [blk bp [vi p.rows, vi p.width, .slice A p.start.length c, .slice B p.cols.length d] 24])
      (fun x => ((sub p.cols (gt p.start r) (gt p.start (r + 1))).length - x.1).toNat) (0, -1) ⟨by omega, by omega, fun _ => rfl, fun h => absurd h (by decide), fun i h h' => by simp only at h'; omega⟩ (.cons rfl (.cons rfl (.cons rfl (.cons rfl (.cons rfl (.cons rfl (.cons rfl (.cons rfl .nil)))))))) rfl ?_
    rintro ⟨k, last⟩ ⟨hk0, hk1, hl0, hl1, hi⟩
    dsimp only at hk0 hk1 hl0 hl1 hi ⊢
    by_cases hk : k < (sub p.cols (gt p.start r) (gt p.start (r + 1))).length
    · have hg := gt_sub g1 g3 g2 hk0 hk
      by_cases hbad : gt p.cols (gt p.start r + k) ≤ last ∨ p.width ≤ gt p.cols (gt p.start r + k)
      · have hbf : b = false := by
          cases hbb : b with
          | false => rfl
          | true =>
            have h1 := (hb.1 hbb) r hr0 hr (gt p.start r + k) (by omega) (by omega)
            obtain ⟨c1, c2, c3⟩ := h1
            rcases hbad with hbad | hbad
            · by_cases hz : k = 0
              · have := hl0 hz; omega
              · have := hl1 (by omega); have := c3 (by omega); omega
            · omega
        subst hbf
        by_cases hc1 : gt p.cols (gt p.start r + k) ≤ last
        · refine gg ?_
          exact grt () trivial
        · refine gg ?_
          exact grt () trivial
      · have e1 : last < gt p.cols (gt p.start r + k) := by omega
        have e2 : gt p.cols (gt p.start r + k) < p.width := by omega
        refine gg ?_
        refine ⟨(k + 1, gt (sub p.cols (gt p.start r) (gt p.start (r + 1))) k), ⟨by omega, by omega, fun h => by simp only at h; omega, fun _ => by simp only; rw [hg]; congr 1; omega, fun i h1 h2 => ?_⟩, .cons rfl (.cons rfl (.cons rfl (.cons rfl (.cons rfl (.cons rfl (.cons rfl (.cons rfl .nil))))))), rfl, by simp only; omega⟩
        simp only at h2
        by_cases hlast : i < gt p.start r + k
        · exact hi i h1 hlast
        · obtain rfl : i = gt p.start r + k := by omega
          refine ⟨?_, by omega, fun hlt => ?_⟩
          · by_cases hz : k = 0
            · have := hl0 hz; omega
            · have h3 := hl1 (by omega)
              have h4 := hi (gt p.start r + k - 1) (by omega) (by omega)
              omega
          · have h3 := hl1 (by omega); omega
    · refine gg ?_
      refine ⟨r + 1, ⟨by omega, by omega, fun q hq hq' => ?_⟩, .cons rfl (.cons rfl (.cons rfl .nil)), rfl, by omega⟩
      by_cases hqr : q < r
      · exact hrow q hq hqr
      · obtain rfl : q = r := by omega
        exact fun i h1 h2 => hi i h1 (by omega)
  · have hbt : b = true := hb.2 fun q hq hq' => hrow q hq (by omega)
    subst hbt
    refine gg ?_
    exact grt () trivial

theorem may_nohead {w : World} (hA : Rds vi w A c p.start) (hB : Rds vi w B d p.cols) (h : ¬ Head p) :
    Calls Try.prog 50 [patV p A c B d].toArray w (one (.bool false) w) := by
  have oA := hA.old
  have oB := hB.old
  have lA := hA.len
  have lB := hB.len
  unfold patV
  by_cases h1 : 0 ≤ p.rows ∧ p.rows ≤ 128
  · obtain ⟨h1, h2⟩ := h1
    by_cases h3 : 0 ≤ p.width ∧ p.width ≤ 128
    · obtain ⟨h3, h4⟩ := h3
      by_cases h5 : (p.start.length : Int) = p.rows + 1
      · by_cases h6 : gt p.start 0 = 0
        · by_cases h7 : gt p.start p.rows = p.cols.length
          · have h8 : ¬ SortedL p.start := fun h8 => h ⟨h1, h2, h3, h4, h5, h6, h7, h8⟩
            refine calls_wc [] [] [.tmp 2] (fun _ => [.bool false]) Try.func50 rfl rfl (fun _ => rfl) Try.ntmps50 rfl (Own.nil w) rfl ?_
            refine gg ?_
            refine wl_op (ok_box rfl rfl rfl rfl rfl ?_); intro bp
            refine gg ?_
            refine wc_quiet mixed (by kernel_rfl) ?_
            refine gg ?_
            refine gc2 (fun w' _ => side_t w' h1 h2) (by exact rfl) ?_
            refine gg ?_
            refine gc2 (fun w' _ => side_t w' h3 h4) (by exact rfl) ?_
            refine gg ?_
            refine gc2 (fun w' hst => isSorted_c w' (oA.now hst) false (by simp [h8])) (by exact rfl) ?_
            refine gg ?_
            exact grt () trivial
          · refine calls_wc [] [] [.tmp 2] (fun _ => [.bool false]) Try.func50 rfl rfl (fun _ => rfl) Try.ntmps50 rfl (Own.nil w) rfl ?_
            refine gg ?_
            refine wl_op (ok_box rfl rfl rfl rfl rfl ?_); intro bp
            refine gg ?_
            refine wc_quiet mixed (by kernel_rfl) ?_
            refine gg ?_
            refine gc2 (fun w' _ => side_t w' h1 h2) (by exact rfl) ?_
            refine gg ?_
            refine gc2 (fun w' _ => side_t w' h3 h4) (by exact rfl) ?_
            refine gg ?_
            exact grt () trivial
        · refine calls_wc [] [] [.tmp 2] (fun _ => [.bool false]) Try.func50 rfl rfl (fun _ => rfl) Try.ntmps50 rfl (Own.nil w) rfl ?_
          refine gg ?_
          refine wl_op (ok_box rfl rfl rfl rfl rfl ?_); intro bp
          refine gg ?_
          refine wc_quiet mixed (by kernel_rfl) ?_
          refine gg ?_
          refine gc2 (fun w' _ => side_t w' h1 h2) (by exact rfl) ?_
          refine gg ?_
          refine gc2 (fun w' _ => side_t w' h3 h4) (by exact rfl) ?_
          refine gg ?_
          exact grt () trivial
      · refine calls_wc [] [] [.tmp 2] (fun _ => [.bool false]) Try.func50 rfl rfl (fun _ => rfl) Try.ntmps50 rfl (Own.nil w) rfl ?_
        refine gg ?_
        refine wl_op (ok_box rfl rfl rfl rfl rfl ?_); intro bp
        refine gg ?_
        refine wc_quiet mixed (by kernel_rfl) ?_
        refine gg ?_
        refine gc2 (fun w' _ => side_t w' h1 h2) (by exact rfl) ?_
        refine gg ?_
        refine gc2 (fun w' _ => side_t w' h3 h4) (by exact rfl) ?_
        refine gg ?_
        exact grt () trivial
    · refine calls_wc [] [] [.tmp 2] (fun _ => [.bool false]) Try.func50 rfl rfl (fun _ => rfl) Try.ntmps50 rfl (Own.nil w) rfl ?_
      refine gg ?_
      refine wl_op (ok_box rfl rfl rfl rfl rfl ?_); intro bp
      refine gg ?_
      refine wc_quiet mixed (by kernel_rfl) ?_
      refine gg ?_
      refine gc2 (fun w' _ => side_t w' h1 h2) (by exact rfl) ?_
      refine gg ?_
      refine gc2 (fun w' _ => side_f (x := p.width) w' (by omega)) (by exact rfl) ?_
      refine gg ?_
      exact grt () trivial
  · refine calls_wc [] [] [.tmp 2] (fun _ => [.bool false]) Try.func50 rfl rfl (fun _ => rfl) Try.ntmps50 rfl (Own.nil w) rfl ?_
    refine gg ?_
    refine wl_op (ok_box rfl rfl rfl rfl rfl ?_); intro bp
    refine gg ?_
    refine wc_quiet mixed (by kernel_rfl) ?_
    refine gg ?_
    refine gc2 (fun w' _ => side_f (x := p.rows) w' (by omega)) (by exact rfl) ?_
    refine gg ?_
    exact grt () trivial
theorem may_t {w : World} (hA : Rds vi w A c p.start) (hB : Rds vi w B d p.cols) (h : May p) : Calls Try.prog 50 [patV p A c B d].toArray w (one (.bool true) w) :=
  may_head hA hB h.toHead true (by simp; exact h.row)
theorem may_f {w : World} (hA : Rds vi w A c p.start) (hB : Rds vi w B d p.cols) (h : ¬ May p) : Calls Try.prog 50 [patV p A c B d].toArray w (one (.bool false) w) := by
  by_cases hh : Head p
  · exact may_head hA hB hh false ⟨fun e => by (cases e), fun hr => (h ⟨hh, hr⟩).elim⟩
  · exact may_nohead hA hB hh
end
abbrev TT : TypeId := 119
def tabV (width : Int) (R : Nat) (ms : List Nat) : Value := .agg #[vi width, .slice (some ⟨R, 0, none⟩) ms.length ms.length]
theorem blank_c {rows width : Int} (w : World) (h0 : 0 ≤ rows) (h1 : rows ≤ 128) :
    Calls Try.prog 70 [vi rows, vi width].toArray w (Ret [] (fun x : Nat × List Nat => tabV width x.1 x.2) (fun x => [Tab x.1 x.2 (fun _ _ => false)]) (fun x => (x.2.length : Int) = rows) w) := by
  obtain ⟨m, rfl⟩ := Int.eq_ofNat_of_zero_le h0
  refine calls_wc [] [] [.cell 4 TT] (fun x : Nat × List Nat => [tabV width x.1 x.2]) Try.func70 rfl rfl (fun _ => rfl) Try.ntmps70 rfl (Own.nil w) rfl ?_
  refine gg ?_
  refine wl_op (ok_alloc rfl rfl rfl rfl (ze_of rfl) ?_); intro rb
  refine gg ?_
  refine wl_op (ok_makeTab rfl rfl rfl rfl rfl rfl h0 h1 ?_); intro R
  refine wl_v rfl rfl rfl (val_build (ps := [(0, vi width), (1, .slice (some ⟨R, 0, none⟩) m m)]) (cells := [vi width, .slice (some ⟨R, 0, none⟩) m m]) rfl rfl (by kernel_rfl)) ?_
  refine wl_op (ok_alloc rfl rfl rfl rfl (ze_of rfl) ?_); intro tb
  refine gg ?_
  refine wc_front 1 rfl ?_
  refine wc_loop (fun ms : List Nat => ms.length ≤ m) (fun ms => [(4, .pointer (some ⟨rb, 0, none⟩)), (5, .pointer (some ⟨tb, 0, none⟩)), (13, .int .i64 m), (14, vi ms.length)])
    (fun ms => [TabP R ms m, blk tb [vi width, .slice (some ⟨R, 0, none⟩) m m] TT, blk rb [vi 0, .slice none 0 0] TT]) (fun ms => (m - ms.length)) [] (by simp) (.cons rfl (.cons rfl (.cons rfl (.cons rfl .nil)))) rfl ?_
  intro ms hms
  by_cases hlt : ms.length < m
  · refine gg ?_
    refine wl_op (ok_makeSet rfl rfl rfl rfl ?_); intro b
    refine gg ?_
    refine wl_op (ok_tabFill rfl rfl rfl rfl rfl rfl rfl (by omega) ?_)
    refine gg ?_
    refine ⟨ms ++ [b], by simp; omega, .cons rfl (.cons rfl (.cons rfl (.cons (look_to rfl (by simp [vi])) .nil))), rfl, by simp; omega⟩
  · obtain rfl : ms.length = m := by omega
    refine wc_conv 0 (r' := Tab R ms (fun _ _ => false)) rfl rfl (fun w => tabP_done rfl) ?_
    refine gg ?_
    exact ⟨(R, ms), _, .cons (rv_agg 2 rfl rfl (ag_of rfl) (sz_of rfl) rfl rfl) .nil, rfl, List.Perm.refl _⟩

/-- each: the state x goes from place to place -/
theorem each_c {p : Pat} {A B : Option Addr} {c d : Nat} (hm : May p) {α : Type} (I : Int → α → List Res) (pre : Int → α → Prop) (f : FuncId) (cv : List Value) (hb : bodied Try.prog f = true) (x0 : α) (w : World)
    (hA : RdO vi w ((I 0 x0).flatMap Res.fp) A c p.start) (hB : RdO vi w ((I 0 x0).flatMap Res.fp) B d p.cols) (h0 : pre 0 x0) (hown : Own (I 0 x0) w)
    (step : ∀ (k r : Int) (x : α) (w' : World), 0 ≤ r → r < p.rows → gt p.start r ≤ k → k < gt p.start (r + 1) → pre k x → St w ((I 0 x0).flatMap Res.fp) (I k x) w' →
      Calls Try.prog f ([vi r, vi (gt p.cols k), vi k] ++ cv).toArray w' (Ret (I k x) (fun _ => .tuple #[]) (fun x' => I (k + 1) x') (fun x' => pre (k + 1) x') w')) :
    Calls Try.prog 71 [patV p A c B d, .func (.func f) #[] cv.toArray].toArray w (Ret (I 0 x0) (fun _ => .tuple #[]) (fun x' => I p.cols.length x') (fun x' => pre p.cols.length x') w) := by
  have HD := hm.toHead
  obtain ⟨h1, h2, h3, h4, h5, h6, h7, h8⟩ := hm.toHead
  have lA := (hA w (Only.refl _ _)).len
  have lB := (hB w (Only.refl _ _)).len
  unfold patV
  refine calls_wc ((I 0 x0).flatMap Res.fp) (I 0 x0) [] (fun _ => []) Try.func71 rfl rfl (fun _ => rfl) Try.ntmps71 rfl hown rfl ?_
  refine gg ?_
  refine wl_op (ok_box rfl rfl rfl rfl rfl ?_); intro bp
  refine gg ?_
  refine wc_loop (fun y : Int × α => 0 ≤ y.1 ∧ y.1 ≤ p.rows ∧ pre (gt p.start y.1) y.2) (fun y => [(1, .func (.func f) #[] cv.toArray), (2, .pointer (some ⟨bp, 0, none⟩)), (7, vi p.rows), (8, vi y.1)])
    (fun y => blk bp [vi p.rows, vi p.width, .slice A p.start.length c, .slice B p.cols.length d] 24 :: I (gt p.start y.1) y.2) (fun y => (p.rows - y.1).toNat) (0, x0) ⟨by simp, by simpa using h1, by simpa [h6] using h0⟩ (.cons rfl (.cons rfl (.cons rfl (.cons rfl .nil)))) (by simp only [h6]; rfl) ?_
  rintro ⟨r, x⟩ ⟨hr0, hr1, hpr⟩
  dsimp only at hr0 hr1 hpr ⊢
  by_cases hr : r < p.rows
  · have g1 := HD.lo hr0 hr1
    have g2 := HD.hi (r := r + 1) (by omega) (by omega)
    have g3 := HD.step hr0 hr
    refine gg ?_
    refine wc_loopP (fun y : Int × α => gt p.start r ≤ y.1 ∧ y.1 ≤ gt p.start (r + 1) ∧ pre y.1 y.2) (fun y => [(1, .func (.func f) #[] cv.toArray), (2, .pointer (some ⟨bp, 0, none⟩)), (4, vi r), (5, vi y.1), (7, vi p.rows), (8, vi r)])
      (fun y => blk bp [vi p.rows, vi p.width, .slice A p.start.length c, .slice B p.cols.length d] 24 :: I y.1 y.2) (fun y => (gt p.start (r + 1) - y.1).toNat) (gt p.start r, x) ⟨by simp, by simpa using g3, by simpa using hpr⟩ (.cons rfl (.cons rfl (.cons rfl (.cons rfl (.cons rfl (.cons rfl .nil)))))) (List.Perm.refl _) ?_
    rintro ⟨k, y⟩ ⟨hk0, hk1, hpk⟩
    dsimp only at hk0 hk1 hpk ⊢
    by_cases hk : k < gt p.start (r + 1)
    · refine gg ?_
      refine wl_callv (I k y) [blk bp [vi p.rows, vi p.width, .slice A p.start.length c, .slice B p.cols.length d] 24] (first := []) (captured := cv) (fun w hst => step k r y w hr0 hr hk0 hk hpk (St.keep (hst.perm (List.perm_append_singleton _ _)))) (by rfl) (by rfl) (by rfl) hb (by rfl) (by rfl) (by rfl) (List.perm_append_singleton _ _) ?_
      intro y' hy'
      refine gg ?_
      exact ⟨(k + 1, y'), ⟨by simp; omega, by simp; omega, hy'⟩, .cons rfl (.cons rfl (.cons rfl (.cons rfl (.cons rfl (.cons rfl .nil))))), permOf (List.perm_append_singleton _ _).symm, by simp; omega⟩
    · obtain rfl : k = gt p.start (r + 1) := by omega
      refine gg ?_
      exact ⟨(r + 1, y), ⟨by simp; omega, by simp; omega, hpk⟩, .cons rfl (.cons rfl (.cons rfl (.cons rfl .nil))), rfl, by simp; omega⟩
  · obtain rfl : r = p.rows := by omega
    rw [h7] at hpr ⊢
    refine wc_perm (List.perm_append_singleton _ _) ?_
    refine gg ?_
    exact ⟨x, _, .nil, hpr, List.Perm.refl _⟩
end Go.Proofs.Ytoiiellaoikojaa
