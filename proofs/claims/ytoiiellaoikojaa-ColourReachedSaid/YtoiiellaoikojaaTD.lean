/- Walks: the reference: sloperef9.May. Walks: the reference: empty, Open, At, Count. Walks: the reference: Open. -/
import Derived.Test.YtoiiellaoikojaaTC
set_option linter.unusedVariables false
set_option linter.unusedSimpArgs false
set_option maxHeartbeats 8000000
namespace Go.Proofs.Ytoiiellaoikojaa
open Go.RowKit
section
variable {p : Pat} {A B : Option Addr} {c d : Nat}
theorem refMay_c {w : World} (hA : Rds vi w A c p.start) (hB : Rds vi w B d p.cols) (b : Bool) (hb : b = true ↔ May p) :
    Calls Try.prog 33 [patV p A c B d].toArray w (one (.bool b) w) := by
  have oA := hA.old
  have oB := hB.old
  have lA := hA.len
  have lB := hB.len
  have hno : ¬ May p → b = false := fun h => by cases b with | false => rfl | true => exact absurd (hb.1 rfl) h
  unfold patV
  by_cases hs : 0 ≤ p.rows ∧ p.rows ≤ 128 ∧ 0 ≤ p.width ∧ p.width ≤ 128
  · have hs' := hs
    obtain ⟨h1, h2, h3, h4⟩ := hs'
    by_cases h5 : (p.start.length : Int) = p.rows + 1
    · by_cases h6 : gt p.start 0 = 0
      · by_cases h7 : gt p.start p.rows = p.cols.length
        · refine calls_wc [] [] [.tmp 2] (fun _ => [.bool b]) Try.func33 rfl rfl (fun _ => rfl) Try.ntmps33 rfl (Own.nil w) rfl ?_
          refine gg ?_
          refine wl_op (ok_box rfl rfl rfl rfl rfl ?_); intro bp
          refine gg ?_
          refine wc_quiet mixed (by kernel_rfl) ?_
          refine gg ?_
          refine gc2 (fun w' _ => sized_c (x := p.rows) (y := p.width) w' true (by simp [h1, h2, h3, h4])) (by exact rfl) ?_
          refine gg ?_
          refine wc_loop (fun r : Int => 0 ≤ r ∧ r ≤ p.rows ∧ 0 ≤ gt p.start r ∧ ∀ q, 0 ≤ q → q < r → gt p.start q ≤ gt p.start (q + 1) ∧ RowOK p q) (fun r => [(1, .pointer (some ⟨bp, 0, none⟩)), (3, vi r)]) (fun _ => [blk bp (patC p A c B d) TP]) (fun r => (p.rows - r).toNat) 0 ⟨by omega, by omega, by omega, fun q hq hq' => by omega⟩ (.cons rfl (.cons rfl .nil)) rfl ?_
          rintro r ⟨hr0, hr1, hr2, hrow⟩
          by_cases hr : r < p.rows
          · by_cases hbad1 : gt p.start (r + 1) < gt p.start r
            · obtain rfl := hno fun h => by have := h.toHead.step hr0 hr; omega
              refine gg ?_
              refine wc_quiet mixed (by kernel_rfl) ?_
              refine gg ?_
              exact grt () trivial
            · by_cases hbad2 : gt p.start (r + 1) > p.cols.length
              · obtain rfl := hno fun h => by have := h.toHead.hi (r := r + 1) (by omega) (by omega); omega
                refine gg ?_
                refine wc_quiet mixed (by kernel_rfl) ?_
                refine gg ?_
                exact grt () trivial
              · refine gg ?_
                refine wc_quiet mixed (by kernel_rfl) ?_
                refine gg ?_
                refine wc_loop (fun k : Int => gt p.start r ≤ k ∧ k ≤ gt p.start (r + 1) ∧ ∀ i, gt p.start r ≤ i → i < k → 0 ≤ gt p.cols i ∧ gt p.cols i < p.width ∧ (gt p.start r < i → gt p.cols (i - 1) < gt p.cols i)) (fun k => [(1, .pointer (some ⟨bp, 0, none⟩)), (3, vi r), (4, vi k)]) (fun _ => [blk bp (patC p A c B d) TP]) (fun k => (gt p.start (r + 1) - k).toNat) (gt p.start r) ⟨by omega, by omega, fun i hi hi' => by omega⟩ (.cons rfl (.cons rfl (.cons rfl .nil))) rfl ?_
                rintro k ⟨hk0, hk1, hi⟩
                by_cases hk : k < gt p.start (r + 1)
                · by_cases hc0 : gt p.cols k < 0
                  · obtain rfl := hno fun h => by have := (h.row r hr0 hr k hk0 hk).1; omega
                    refine gg ?_
                    refine wc_quiet mixed (by kernel_rfl) ?_
                    refine gg ?_
                    exact grt () trivial
                  · by_cases hc1 : p.width ≤ gt p.cols k
                    · obtain rfl := hno fun h => by have := (h.row r hr0 hr k hk0 hk).2.1; omega
                      refine gg ?_
                      refine wc_quiet mixed (by kernel_rfl) ?_
                      refine gg ?_
                      exact grt () trivial
                    · by_cases hc2 : gt p.start r < k
                      · by_cases hc3 : gt p.cols k ≤ gt p.cols (k - 1)
                        · obtain rfl := hno fun h => by have := (h.row r hr0 hr k hk0 hk).2.2 hc2; omega
                          refine gg ?_
                          refine wc_quiet mixed (by kernel_rfl) ?_
                          refine gg ?_
                          exact grt () trivial
                        · refine gg ?_
                          refine wc_quiet mixed (by kernel_rfl) ?_
                          refine gg ?_
                          refine ⟨k + 1, ⟨by omega, by omega, fun i h h' => ?_⟩, .cons rfl (.cons rfl (.cons rfl .nil)), rfl, by omega⟩
                          by_cases hik : i < k
                          · exact hi i h hik
                          · obtain rfl : i = k := by omega
                            exact ⟨by omega, by omega, fun _ => by omega⟩
                      · refine gg ?_
                        refine wc_quiet mixed (by kernel_rfl) ?_
                        refine gg ?_
                        refine ⟨k + 1, ⟨by omega, by omega, fun i h h' => ?_⟩, .cons rfl (.cons rfl (.cons rfl .nil)), rfl, by omega⟩
                        by_cases hik : i < k
                        · exact hi i h hik
                        · obtain rfl : i = k := by omega
                          exact ⟨by omega, by omega, fun hx => by omega⟩
                · refine gg ?_
                  refine ⟨r + 1, ⟨by omega, by omega, by omega, fun q hq hq' => ?_⟩, .cons rfl (.cons rfl .nil), rfl, by omega⟩
                  by_cases hqr : q < r
                  · exact hrow q hq hqr
                  · obtain rfl : q = r := by omega
                    exact ⟨by omega, fun i h1 h2 => hi i h1 (by omega)⟩
          · obtain rfl : b = true := hb.2 ⟨⟨h1, h2, h3, h4, h5, h6, h7, fun i h0 hl => (hrow i h0 (by omega)).1⟩, fun q hq hq' => (hrow q hq (by omega)).2⟩
            refine gg ?_
            exact grt () trivial
        · obtain rfl := hno fun h => h7 h.toHead.e
          refine calls_wc [] [] [.tmp 2] (fun _ => [.bool false]) Try.func33 rfl rfl (fun _ => rfl) Try.ntmps33 rfl (Own.nil w) rfl ?_
          refine gg ?_
          refine wl_op (ok_box rfl rfl rfl rfl rfl ?_); intro bp
          refine gg ?_
          refine wc_quiet mixed (by kernel_rfl) ?_
          refine gg ?_
          refine gc2 (fun w' _ => sized_c (x := p.rows) (y := p.width) w' true (by simp [h1, h2, h3, h4])) (by exact rfl) ?_
          refine gg ?_
          exact grt () trivial
      · obtain rfl := hno fun h => h6 h.toHead.z
        refine calls_wc [] [] [.tmp 2] (fun _ => [.bool false]) Try.func33 rfl rfl (fun _ => rfl) Try.ntmps33 rfl (Own.nil w) rfl ?_
        refine gg ?_
        refine wl_op (ok_box rfl rfl rfl rfl rfl ?_); intro bp
        refine gg ?_
        refine wc_quiet mixed (by kernel_rfl) ?_
        refine gg ?_
        refine gc2 (fun w' _ => sized_c (x := p.rows) (y := p.width) w' true (by simp [h1, h2, h3, h4])) (by exact rfl) ?_
        refine gg ?_
        exact grt () trivial
    · obtain rfl := hno fun h => h5 h.toHead.len
      refine calls_wc [] [] [.tmp 2] (fun _ => [.bool false]) Try.func33 rfl rfl (fun _ => rfl) Try.ntmps33 rfl (Own.nil w) rfl ?_
      refine gg ?_
      refine wl_op (ok_box rfl rfl rfl rfl rfl ?_); intro bp
      refine gg ?_
      refine wc_quiet mixed (by kernel_rfl) ?_
      refine gg ?_
      refine gc2 (fun w' _ => sized_c (x := p.rows) (y := p.width) w' true (by simp [h1, h2, h3, h4])) (by exact rfl) ?_
      refine gg ?_
      exact grt () trivial
  · obtain rfl := hno fun h => hs ⟨h.toHead.r0, h.toHead.r1, h.toHead.w0, h.toHead.w1⟩
    refine calls_wc [] [] [.tmp 2] (fun _ => [.bool false]) Try.func33 rfl rfl (fun _ => rfl) Try.ntmps33 rfl (Own.nil w) rfl ?_
    refine gg ?_
    refine wl_op (ok_box rfl rfl rfl rfl rfl ?_); intro bp
    refine gg ?_
    refine wc_quiet mixed (by kernel_rfl) ?_
    refine gg ?_
    refine gc2 (fun w' _ => sized_c (x := p.rows) (y := p.width) w' false (by simp [hs])) (by exact rfl) ?_
    refine gg ?_
    exact grt () trivial
end
abbrev TGr : TypeId := 115
abbrev gridC (rows width : Int) (A : Option Addr) (n c : Nat) : List Value := [vi rows, vi width, .slice A n c]
theorem mul_small {x y : Int} (h0 : 0 ≤ x) (h1 : x ≤ 128) (h2 : 0 ≤ y) (h3 : y ≤ 128) : 0 ≤ x * y ∧ x * y ≤ 16384 := by
  refine ⟨Int.mul_nonneg h0 h2, ?_⟩
  have := Int.mul_le_mul h1 h3 h2 (by omega : (0 : Int) ≤ 128)
  omega
theorem empty_c {rows width : Int} (w : World) (h0 : 0 ≤ rows) (h1 : rows ≤ 128) (h2 : 0 ≤ width) (h3 : width ≤ 128) :
    Calls Try.prog 102 [vi rows, vi width].toArray w (Ret [] (fun b : Nat => .agg (gridC rows width (some ⟨b, 0, none⟩) (rows * width).toNat (rows * width).toNat).toArray) (fun b => [osl TB vb (some ⟨b, 0, none⟩) (rows * width).toNat (List.replicate (rows * width).toNat false)]) (fun _ => True) w) := by
  obtain ⟨m0, m1⟩ := mul_small h0 h1 h2 h3
  refine calls_wc [] [] [.cell 4 TGr] (fun b : Nat => [.agg (gridC rows width (some ⟨b, 0, none⟩) (rows * width).toNat (rows * width).toNat).toArray]) Try.func102 rfl rfl (fun _ => rfl) Try.ntmps102 rfl (Own.nil w) rfl ?_
  refine gg ?_
  refine wl_op (ok_alloc rfl rfl rfl rfl (ze_of rfl) ?_); intro rb
  refine gg ?_
  refine wl_op (ok_makeSlice vb false rfl rfl rfl rfl rfl rfl (el_of rfl) (ze_of rfl) rfl (sz_of rfl) (by_of rfl) (by omega) (by omega) (by omega) (by omega) ?_)
  intro b
  rw [List.length_replicate]
  refine wl_v rfl rfl rfl (val_build (ps := [(0, vi rows), (1, vi width), (2, .slice (some ⟨b, 0, none⟩) (rows * width).toNat (rows * width).toNat)]) (cells := gridC rows width (some ⟨b, 0, none⟩) (rows * width).toNat (rows * width).toNat) rfl rfl (by kernel_rfl)) ?_
  refine gg ?_
  refine ⟨b, [_], .cons (rv_agg 1 rfl rfl (ag_of rfl) (sz_of rfl) rfl rfl) .nil, trivial, List.Perm.refl _⟩
theorem at_c {rows width r x : Int} {A : Option Addr} {c : Nat} {on : List Bool} (w : World) (hA : Rds vb w A c on) (h2 : 0 ≤ width) (h3 : width ≤ 128) (hr0 : 0 ≤ r) (hr1 : r ≤ 128) (hx0 : 0 ≤ x) (hx1 : x ≤ 128) (hin : r * width + x < on.length) (b : Bool) (hb : gt on (r * width + x) = b) :
    Calls Try.prog 69 [.agg (gridC rows width A on.length c).toArray, vi r, vi x].toArray w (one (.bool b) w) := by
  obtain ⟨m0, m1⟩ := mul_small hr0 hr1 h2 h3
  have oA := hA.old
  have lA := hA.len
  refine calls_wc [] [] [.tmp 6] (fun _ => [.bool b]) Try.func69 rfl rfl (fun _ => rfl) Try.ntmps69 rfl (Own.nil w) rfl ?_
  refine gg ?_
  refine wl_op (ok_box rfl rfl rfl rfl rfl ?_); intro bp
  refine gg ?_
  exact ⟨(), _, .cons (rv_tmp (look_to rfl (by rw [← hb]; rfl))) .nil, trivial, List.Perm.refl _⟩
section
variable {p : Pat} {A B : Option Addr} {c d : Nat}
end
/-- a grid of truths, row by row -/
structure IsGrid (on : List Bool) (rows width : Int) (S : Int → Int → Bool) : Prop where
  len : (on.length : Int) = rows * width
  at_ : ∀ r c : Int, 0 ≤ r → r < rows → 0 ≤ c → c < width → gt on (r * width + c) = S r c
theorem cell_lt {r c rows width : Int} (h0 : 0 ≤ r) (h1 : r < rows) (h2 : 0 ≤ c) (h3 : c < width) : 0 ≤ r * width + c ∧ r * width + c < rows * width := by
  have h4 : 0 ≤ r * width := Int.mul_nonneg h0 (by omega)
  have h5 : (r + 1) * width ≤ rows * width := Int.mul_le_mul_of_nonneg_right (by omega) (by omega)
  rw [Int.add_mul, Int.one_mul] at h5
  omega
theorem cell_inj {r c r' c' width : Int} (h2 : 0 ≤ c) (h3 : c < width) (h2' : 0 ≤ c') (h3' : c' < width) (h : r * width + c = r' * width + c') : r = r' ∧ c = c' := by
  have e1 : (c + r * width) / width = r := by rw [Int.add_mul_ediv_right _ _ (by omega), Int.ediv_eq_zero_of_lt h2 h3]; omega
  have e2 : (c' + r' * width) / width = r' := by rw [Int.add_mul_ediv_right _ _ (by omega), Int.ediv_eq_zero_of_lt h2' h3']; omega
  have : r = r' := by rw [← e1, ← e2]; congr 1; omega
  subst this
  exact ⟨rfl, by omega⟩
theorem gt_set {on : List Bool} {i j : Int} {b : Bool} (h0 : 0 ≤ i) (h1 : i < on.length) (hj0 : 0 ≤ j) : gt (on.set i.toNat b) j = if j = i then b else gt on j := by
  unfold gt
  simp only [List.getD_eq_getElem?_getD, List.getElem?_set]
  by_cases h : j = i
  · subst h; rw [if_pos rfl, if_pos rfl, if_pos (by omega)]; rfl
  · rw [if_neg (by omega), if_neg h]
theorem IsGrid.set {on : List Bool} {rows width : Int} {S : Int → Int → Bool} (h : IsGrid on rows width S) {r c : Int} (h0 : 0 ≤ r) (h1 : r < rows) (h2 : 0 ≤ c) (h3 : c < width) (b : Bool) (S' : Int → Int → Bool) (hS : ∀ r' c', S' r' c' = if r' = r ∧ c' = c then b else S r' c') :
    IsGrid (on.set (r * width + c).toNat b) rows width S' := by
  have hl := h.len
  have hc := cell_lt h0 h1 h2 h3
  refine ⟨by rw [List.length_set]; exact hl, fun r' c' a0 a1 a2 a3 => ?_⟩
  have hc' := cell_lt a0 a1 a2 a3
  rw [gt_set hc.1 (by omega) hc'.1, hS]
  by_cases e : r' = r ∧ c' = c
  · rw [if_pos e, if_pos (by rw [e.1, e.2])]
  · rw [if_neg e, if_neg (fun he => e (cell_inj a2 a3 h2 h3 he)), h.at_ r' c' a0 a1 a2 a3]
theorem IsGrid.none {rows width : Int} (h0 : 0 ≤ rows * width) : IsGrid (List.replicate (rows * width).toNat false) rows width (fun _ _ => false) := by
  refine ⟨by rw [List.length_replicate]; omega, fun r c a0 a1 a2 a3 => ?_⟩
  unfold gt
  simp only [List.getD_eq_getElem?_getD, List.getElem?_replicate]
  split <;> rfl
/-- the places of a pattern ahead of place k -/
def HasU (p : Pat) (k : Int) (r c : Int) : Prop := 0 ≤ r ∧ r < p.rows ∧ ∃ i, gt p.start r ≤ i ∧ i < gt p.start (r + 1) ∧ i < k ∧ gt p.cols i = c
open Classical in
noncomputable def hasU (p : Pat) (k : Int) (r c : Int) : Bool := decide (HasU p k r c)
open Classical in
noncomputable def hasB (p : Pat) (r c : Int) : Bool := decide (HasP p r c)
theorem hasB_iff {p : Pat} {r c : Int} : hasB p r c = true ↔ HasP p r c := by unfold hasB; simp
open Classical in
theorem hasU_zero {p : Pat} (h : May p) : hasU p 0 = fun _ _ => false := by
  funext r c
  unfold hasU
  refine decide_eq_false fun ⟨h0, h1, i, h2, h3, h4, h5⟩ => ?_
  have := h.toHead.lo h0 (by omega)
  omega
open Classical in
theorem hasU_all {p : Pat} (h : May p) : hasU p p.cols.length = hasB p := by
  funext r c
  unfold hasU hasB
  refine decide_eq_decide.2 ⟨fun ⟨h0, h1, i, h2, h3, h4, h5⟩ => ⟨h0, h1, i, h2, h3, h5⟩, fun ⟨h0, h1, i, h2, h3, h5⟩ => ⟨h0, h1, i, h2, h3, ?_, h5⟩⟩
  have := h.toHead.hi (r := r + 1) (by omega) (by omega)
  omega
open Classical in
theorem hasU_step {p : Pat} (h : May p) {r k : Int} (h0 : 0 ≤ r) (h1 : r < p.rows) (h2 : gt p.start r ≤ k) (h3 : k < gt p.start (r + 1)) (r' c' : Int) : hasU p (k + 1) r' c' = if r' = r ∧ c' = gt p.cols k then true else hasU p k r' c' := by
  by_cases e : r' = r ∧ c' = gt p.cols k
  · rw [if_pos e]
    unfold hasU
    exact decide_eq_true ⟨by omega, by omega, k, by rw [e.1]; exact h2, by rw [e.1]; exact h3, by omega, e.2.symm⟩
  · rw [if_neg e]
    unfold hasU
    refine decide_eq_decide.2 ⟨fun ⟨a0, a1, i, a2, a3, a4, a5⟩ => ⟨a0, a1, i, a2, a3, ?_, a5⟩, fun ⟨a0, a1, i, a2, a3, a4, a5⟩ => ⟨a0, a1, i, a2, a3, by omega, a5⟩⟩
    by_cases hik : i = k
    · subst hik
      refine (e ⟨?_, a5.symm⟩).elim
      have hs := h.toHead.s
      have hlen := h.toHead.len
      by_cases hlt : r' < r
      · have := hs.mono (i := r' + 1) (j := r) (by omega) (by omega) (by omega); omega
      · by_cases hgt : r < r'
        · have := hs.mono (i := r + 1) (j := r') (by omega) (by omega) (by omega); omega
        · omega
    · omega

structure OX where
  A : Option Addr
  c : Nat
  on : List Bool
section
variable {p : Pat} {A B : Option Addr} {c d : Nat}
theorem open_c (w : World) (hA : Rds vi w A c p.start) (hB : Rds vi w B d p.cols) (hm : May p) :
    Calls Try.prog 68 [patV p A c B d].toArray w (Ret [] (fun x : OX => .agg (gridC p.rows p.width x.A x.on.length x.c).toArray) (fun x => [osl TB vb x.A x.c x.on]) (fun x => IsGrid x.on p.rows p.width (hasB p)) w) := by
  have oA := hA.old
  have oB := hB.old
  have lA := hA.len
  have lB := hB.len
  have HD := hm.toHead
  obtain ⟨h1, h2, h3, h4, h5, h6, h7, h8⟩ := hm.toHead
  obtain ⟨m0, m1⟩ := mul_small h1 h2 h3 h4
  unfold patV
  refine calls_wc [] [] [.cell 2 TGr] (fun x : OX => [.agg (gridC p.rows p.width x.A x.on.length x.c).toArray]) Try.func68 rfl rfl (fun _ => rfl) Try.ntmps68 rfl (Own.nil w) rfl ?_
  refine gg ?_
  refine wl_op (ok_box rfl rfl rfl rfl rfl ?_); intro bp
  refine wl_op (ok_alloc rfl rfl rfl rfl (ze_of rfl) ?_); intro rb
  refine gg ?_
  refine wl_callr [] _ (fun w hst => empty_c w h1 h2 h3 h4) (by rfl) (by rfl) (bod_of rfl) (by rfl) (by rfl) (by rfl) (List.Perm.refl _) ?_
  intro b0 _
  refine wl_op (ok_alloc rfl rfl rfl rfl (ze_of rfl) ?_); intro gb
  refine gg ?_
  have hg0 := IsGrid.none m0
  rw [← hasU_zero hm] at hg0
  refine wc_loopP (fun x : Int × List Bool => 0 ≤ x.1 ∧ x.1 ≤ p.rows ∧ IsGrid x.2 p.rows p.width (hasU p (gt p.start x.1))) (fun x => [(1, .pointer (some ⟨bp, 0, none⟩)), (2, .pointer (some ⟨rb, 0, none⟩)), (3, .pointer (some ⟨gb, 0, none⟩)), (4, vi x.1)])
    (fun x => [blk gb (gridC p.rows p.width (some ⟨b0, 0, none⟩) x.2.length (p.rows * p.width).toNat) TGr, osl TB vb (some ⟨b0, 0, none⟩) (p.rows * p.width).toNat x.2, blk rb [vi 0, vi 0, nilS] TGr, blk bp (patC p A c B d) TP]) (fun x => (p.rows - x.1).toNat) (0, List.replicate (p.rows * p.width).toNat false) ⟨by simp, h1, by dsimp only; rw [h6]; exact hg0⟩ (.cons rfl (.cons rfl (.cons rfl (.cons rfl .nil)))) (by rw [List.length_replicate]; exact List.Perm.refl _) ?_
  rintro ⟨r, on⟩ ⟨hr0, hr1, hg⟩
  dsimp only at hr0 hr1 hg ⊢
  by_cases hr : r < p.rows
  · have g1 := HD.lo hr0 hr1
    have g2 := HD.hi (r := r + 1) (by omega) (by omega)
    have g3 := HD.step hr0 hr
    obtain ⟨q0, q1⟩ := mul_small hr0 (by omega) h3 h4
    refine gg ?_
    refine wc_loopP (fun x : Int × List Bool => gt p.start r ≤ x.1 ∧ x.1 ≤ gt p.start (r + 1) ∧ IsGrid x.2 p.rows p.width (hasU p x.1)) (fun x => [(1, .pointer (some ⟨bp, 0, none⟩)), (2, .pointer (some ⟨rb, 0, none⟩)), (3, .pointer (some ⟨gb, 0, none⟩)), (4, vi r), (5, vi x.1)])
      (fun x => [blk gb (gridC p.rows p.width (some ⟨b0, 0, none⟩) x.2.length (p.rows * p.width).toNat) TGr, osl TB vb (some ⟨b0, 0, none⟩) (p.rows * p.width).toNat x.2, blk rb [vi 0, vi 0, nilS] TGr, blk bp (patC p A c B d) TP]) (fun x => (gt p.start (r + 1) - x.1).toNat) (gt p.start r, on) ⟨by simp, g3, hg⟩ (.cons rfl (.cons rfl (.cons rfl (.cons rfl (.cons rfl .nil))))) (List.Perm.refl _) ?_
    rintro ⟨k, on⟩ ⟨hk0, hk1, hg⟩
    dsimp only at hk0 hk1 hg ⊢
    have hgl := hg.len
    by_cases hk : k < gt p.start (r + 1)
    · obtain ⟨c0, c1, _⟩ := hm.row r hr0 hr k hk0 hk
      have hcell := cell_lt hr0 hr c0 c1
      refine gg ?_
      refine wc_perm (List.Perm.swap (osl TB vb (some ⟨b0, 0, none⟩) (p.rows * p.width).toNat on) (blk gb (gridC p.rows p.width (some ⟨b0, 0, none⟩) on.length (p.rows * p.width).toNat) TGr) [blk rb [vi 0, vi 0, nilS] TGr, blk bp (patC p A c B d) TP]).symm ?_
      refine wa_beginS [_] _ rfl mixed ?_
      (first | refine ga1 0 (by exact rfl) (by exact rfl) ?_ | refine ga2 0 (by exact rfl) (by exact rfl) ?_ | refine ga3 0 (by exact rfl) (by exact rfl) ?_ | refine ga4 0 (by exact rfl) (by exact rfl) ?_)
      (first | refine ga1 1 (by exact rfl) (by exact rfl) ?_ | refine ga2 1 (by exact rfl) (by exact rfl) ?_ | refine ga3 1 (by exact rfl) (by exact rfl) ?_ | refine ga4 1 (by exact rfl) (by exact rfl) ?_)
      (first | refine ga1 2 (by exact rfl) (by exact rfl) ?_ | refine ga2 2 (by exact rfl) (by exact rfl) ?_ | refine ga3 2 (by exact rfl) (by exact rfl) ?_ | refine ga4 2 (by exact rfl) (by exact rfl) ?_)
      (first | refine ga1 3 (by exact rfl) (by exact rfl) ?_ | refine ga2 3 (by exact rfl) (by exact rfl) ?_ | refine ga3 3 (by exact rfl) (by exact rfl) ?_ | refine ga4 3 (by exact rfl) (by exact rfl) ?_)
      (first | refine ga1 4 (by exact rfl) (by exact rfl) ?_ | refine ga2 4 (by exact rfl) (by exact rfl) ?_ | refine ga3 4 (by exact rfl) (by exact rfl) ?_ | refine ga4 4 (by exact rfl) (by exact rfl) ?_)
      (first | refine ga1 5 (by exact rfl) (by exact rfl) ?_ | refine ga2 5 (by exact rfl) (by exact rfl) ?_ | refine ga3 5 (by exact rfl) (by exact rfl) ?_ | refine ga4 5 (by exact rfl) (by exact rfl) ?_)
      (first | refine ga1 6 (by exact rfl) (by exact rfl) ?_ | refine ga2 6 (by exact rfl) (by exact rfl) ?_ | refine ga3 6 (by exact rfl) (by exact rfl) ?_ | refine ga4 6 (by exact rfl) (by exact rfl) ?_)
      (first | refine ga1 7 (by exact rfl) (by exact rfl) ?_ | refine ga2 7 (by exact rfl) (by exact rfl) ?_ | refine ga3 7 (by exact rfl) (by exact rfl) ?_ | refine ga4 7 (by exact rfl) (by exact rfl) ?_)
      (first | refine ga1 8 (by exact rfl) (by exact rfl) ?_ | refine ga2 8 (by exact rfl) (by exact rfl) ?_ | refine ga3 8 (by exact rfl) (by exact rfl) ?_ | refine ga4 8 (by exact rfl) (by exact rfl) ?_)
      (first | refine ga1 9 (by exact rfl) (by exact rfl) ?_ | refine ga2 9 (by exact rfl) (by exact rfl) ?_ | refine ga3 9 (by exact rfl) (by exact rfl) ?_ | refine ga4 9 (by exact rfl) (by exact rfl) ?_)
      (first | refine ga1 10 (by exact rfl) (by exact rfl) ?_ | refine ga2 10 (by exact rfl) (by exact rfl) ?_ | refine ga3 10 (by exact rfl) (by exact rfl) ?_ | refine ga4 10 (by exact rfl) (by exact rfl) ?_)
      (first | refine ga1 11 (by exact rfl) (by exact rfl) ?_ | refine ga2 11 (by exact rfl) (by exact rfl) ?_ | refine ga3 11 (by exact rfl) (by exact rfl) ?_ | refine ga4 11 (by exact rfl) (by exact rfl) ?_)
      (first | refine ga1 12 (by exact rfl) (by exact rfl) ?_ | refine ga2 12 (by exact rfl) (by exact rfl) ?_ | refine ga3 12 (by exact rfl) (by exact rfl) ?_ | refine ga4 12 (by exact rfl) (by exact rfl) ?_)
      refine wa_one 13 rfl (by kernel_rfl) ?_
      refine ok_storeRow 0 vb (j := r * p.width + gt p.cols k) (v := true) rfl rfl rfl rfl rfl rfl rfl (sz_of rfl) (by omega) (by omega) ?_
      refine ⟨⟨[_], rfl⟩, ?_⟩
      refine wa_done (by kernel_rfl) ?_
      refine gg ?_
      refine ⟨(k + 1, on.set (r * p.width + gt p.cols k).toNat true), ⟨by dsimp only; omega, by dsimp only; omega, hg.set hr0 hr c0 c1 true _ (hasU_step hm hr0 hr hk0 hk)⟩, .cons rfl (.cons rfl (.cons rfl (.cons rfl (.cons rfl .nil)))), ⟨[], ?_⟩, by dsimp only; omega⟩
      dsimp only
      rw [List.length_set]
      exact List.Perm.swap _ _ _
    · obtain rfl : k = gt p.start (r + 1) := by omega
      refine gg ?_
      exact ⟨(r + 1, on), ⟨by simp; omega, by simp; omega, hg⟩, .cons rfl (.cons rfl (.cons rfl (.cons rfl .nil))), ⟨[], by simp⟩, by simp; omega⟩
  · obtain rfl : r = p.rows := by omega
    rw [h7, hasU_all hm] at hg
    refine gg ?_
    exact ⟨⟨some ⟨b0, 0, none⟩, (p.rows * p.width).toNat, on⟩, _, .cons (rv_agg 2 rfl rfl (ag_of rfl) (sz_of rfl) rfl rfl) .nil, hg, List.Perm.swap _ _ _⟩
end
end Go.Proofs.Ytoiiellaoikojaa
