/- The reference: Ways: which vertices are reached from which. Walks: the reference: Components. -/
import Derived.Test.YtofngbaefbbeiaaCA
import Derived.Test.YtofngbaefbbeiaaTF
import Derived.Test.YtofngbaefbbeiaaC1
set_option linter.unusedVariables false
set_option linter.unusedSimpArgs false
set_option maxHeartbeats 8000000
namespace Go.Proofs.Ytofngbaefbbeiaa
open Go.RowKit
/-- a way whose inner vertices are below k -/
inductive Via (E : Int → Int → Bool) (k : Int) : Int → Int → Prop
  | refl (a : Int) : Via E k a a
  | one {a b : Int} : E a b = true → Via E k a b
  | step {a b c : Int} : Via E k a b → 0 ≤ b → b < k → E b c = true → Via E k a c
section
variable {E : Int → Int → Bool} {k n : Int}
theorem Via.mono {a b : Int} (h : Via E k a b) : Via E (k + 1) a b := by
  induction h with
  | refl => exact .refl _
  | one h => exact .one h
  | step _ h0 h1 h ih => exact .step ih h0 (by omega) h
theorem via_next (h0 : 0 ≤ k) {a b : Int} : Via E (k + 1) a b ↔ Via E k a b ∨ (Via E k a k ∧ Via E k k b) := by
  constructor
  · intro h
    induction h with
    | refl => exact .inl (.refl _)
    | one h => exact .inl (.one h)
    | @step b c _ h2 h3 h ih =>
      by_cases e : b = k
      · subst e
        refine .inr ⟨?_, .one h⟩
        rcases ih with ih | ih
        · exact ih
        · exact ih.1
      · rcases ih with ih | ih
        · exact .inl (.step ih h2 (by omega) h)
        · exact .inr ⟨ih.1, .step ih.2 h2 (by omega) h⟩
  · rintro (h | ⟨h1, h2⟩)
    · exact h.mono
    · have h1 := h1.mono
      have : ∀ {b}, Via E k k b → Via E (k + 1) a b := by
        intro b h
        induction h with
        | refl => exact h1
        | one h => exact .step h1 h0 (by omega) h
        | step _ h2 h3 h ih => exact .step ih h2 (by omega) h
      exact this h2
theorem via_col (h0 : 0 ≤ k) {a : Int} : Via E (k + 1) a k ↔ Via E k a k := by
  rw [via_next h0]
  exact ⟨fun h => h.elim id (·.1), .inl⟩
theorem via_row (h0 : 0 ≤ k) {b : Int} : Via E (k + 1) k b ↔ Via E k k b := by
  rw [via_next h0]
  exact ⟨fun h => h.elim id (·.2), .inl⟩
theorem via_zero {a b : Int} : Via E 0 a b ↔ a = b ∨ E a b = true := by
  constructor
  · intro h
    cases h with
    | refl => exact .inl rfl
    | one h => exact .inr h
    | step _ h0 h1 _ => omega
  · rintro (rfl | h)
    · exact .refl _
    · exact .one h
theorem via_way (ho : On n E) {a b : Int} : Via E n a b ↔ Way E a b := by
  constructor
  · intro h
    induction h with
    | refl => exact .refl _
    | one h => exact Way.one h
    | step _ _ _ h ih => exact .step ih h
  · intro h
    induction h with
    | refl => exact .refl _
    | step _ h ih => exact .step ih (ho _ _ h).1 (ho _ _ h).2.1 h
end
open Classical in
noncomputable def viaB (E : Int → Int → Bool) (k a b : Int) : Bool := decide (Via E k a b)
theorem viaB_iff {E : Int → Int → Bool} {k a b : Int} : viaB E k a b = true ↔ Via E k a b := by unfold viaB; simp
/-- F up to place (r, c), G from there on -/
def mixS (F G : Int → Int → Bool) (r c : Int) (a b : Int) : Bool := if a < r ∨ a = r ∧ b < c then F a b else G a b
section
variable {on : List Bool} {rows width : Int} {F G : Int → Int → Bool}
theorem mix_zero (h : IsGrid on rows width G) : IsGrid on rows width (mixS F G 0 0) := h.congr fun a b a0 a1 b0 b1 => by
  unfold mixS; rw [if_neg (by omega)]
theorem mix_end (h : IsGrid on rows width (mixS F G rows 0)) : IsGrid on rows width F := h.congr fun a b a0 a1 b0 b1 => by
  unfold mixS; rw [if_pos (by omega)]
theorem mix_next {r : Int} (h : IsGrid on rows width (mixS F G r width)) : IsGrid on rows width (mixS F G (r + 1) 0) := h.congr fun a b a0 a1 b0 b1 => by
  unfold mixS
  by_cases e : a < r ∨ a = r ∧ b < width
  · rw [if_pos e, if_pos (by omega)]
  · rw [if_neg e, if_neg (by omega)]
theorem mix_stop {r c : Int} (h : IsGrid on rows width (mixS F G r c)) (hs : ∀ b, F r b = G r b) : IsGrid on rows width (mixS F G (r + 1) 0) := h.congr fun a b a0 a1 b0 b1 => by
  unfold mixS
  by_cases e : a < r ∨ a = r ∧ b < c
  · rw [if_pos e, if_pos (by omega)]
  · rw [if_neg e]
    by_cases e2 : a = r
    · rw [e2, if_pos (by omega), hs]
    · rw [if_neg (by omega)]
theorem mix_keep {r c : Int} (h : IsGrid on rows width (mixS F G r c)) (hs : F r c = G r c) : IsGrid on rows width (mixS F G r (c + 1)) := h.congr fun a b a0 a1 b0 b1 => by
  unfold mixS
  by_cases e2 : a = r ∧ b = c
  · rw [e2.1, e2.2, if_neg (by omega), if_pos (by omega), hs]
  · by_cases e : a < r ∨ a = r ∧ b < c
    · rw [if_pos e, if_pos (by omega)]
    · rw [if_neg e, if_neg (by omega)]
theorem mix_set {r c : Int} (h : IsGrid on rows width (mixS F G r c)) (h0 : 0 ≤ r) (h1 : r < rows) (h2 : 0 ≤ c) (h3 : c < width) {v : Bool} (hv : F r c = v) : IsGrid (on.set (r * width + c).toNat v) rows width (mixS F G r (c + 1)) := by
  refine h.set h0 h1 h2 h3 _ _ fun a b => ?_
  by_cases e2 : a = r ∧ b = c
  · rw [if_pos e2, ← hv, e2.1, e2.2]
    unfold mixS
    rw [if_pos (by omega)]
  · rw [if_neg e2]
    unfold mixS
    by_cases e : a < r ∨ a = r ∧ b < c
    · rw [if_pos e, if_pos (by omega)]
    · rw [if_neg e, if_neg (by omega)]
end
theorem atN_c {rows width r x : Int} {A : Option Addr} {c N : Nat} {on : List Bool} (w : World) (hN : on.length = N) (hA : Rds vb w A c on) (h2 : 0 ≤ width) (h3 : width ≤ 128) (hr0 : 0 ≤ r) (hr1 : r ≤ 128) (hx0 : 0 ≤ x) (hx1 : x ≤ 128) (hin : r * width + x < on.length) (b : Bool) (hb : gt on (r * width + x) = b) :
    Calls Try.prog 41 [.agg (gridC rows width A N c).toArray, vi r, vi x].toArray w (one (.bool b) w) := by
  subst hN
  exact at_c w hA h2 h3 hr0 hr1 hx0 hx1 hin b hb
structure WX where
  k : Int
  a : Int
  b : Int
  on : List Bool
theorem refWays_c {n : Int} {A : Option Addr} {c : Nat} {on : List Bool} {E : Int → Int → Bool} (w : World) (hA : Rds vb w A c on) (hg : IsGrid on n n E) (h0 : 0 ≤ n) (h1 : n ≤ 128) :
    Calls Try.prog 43 [.agg (gridC n n A on.length c).toArray].toArray w (Ret [] (fun y : OX => .agg (gridC n n y.A y.on.length y.c).toArray) (fun y => [osl TB vb y.A y.c y.on]) (fun y => IsGrid y.on n n (viaB E n)) w) := by
  have oA := hA.old
  have hgl := hg.len
  obtain ⟨m0, m1⟩ := mul_small h0 h1 h0 h1
  refine calls_wc [] [] [.cell 2 TGr] (fun y : OX => [.agg (gridC n n y.A y.on.length y.c).toArray]) Try.func43 rfl rfl (fun _ => rfl) Try.ntmps43 rfl (Own.nil w) rfl ?_
  refine gg ?_
  refine wl_op (ok_box rfl rfl rfl rfl rfl ?_); intro gb
  refine wl_op (ok_alloc rfl rfl rfl rfl (ze_of rfl) ?_); intro rb
  refine gg ?_
  refine gc3 [] (fun w hst hst1 => empty_c w h0 h1 h0 h1) (by exact rfl) ?_
  (repeat (first | refine gk1 ?_ | refine gk2 ?_ | refine gk3 ?_ | refine gk0 ?_ | refine gk4 ?_))
  rintro b0 _
  dsimp only [List.cons_append, List.nil_append]
  refine wl_op (ok_alloc rfl rfl rfl rfl (ze_of rfl) ?_); intro tb
  refine gg ?_
  refine glp (fun x : WX => 0 ≤ x.a ∧ x.a ≤ n ∧ IsGrid x.on n n (fillS (viaB E 0) x.a 0)) (fun x => [(1, .pointer (some ⟨gb, 0, none⟩)), (2, .pointer (some ⟨rb, 0, none⟩)), (3, vi n), (4, .pointer (some ⟨tb, 0, none⟩)), (5, vi x.a)])
    (fun x => [osl TB vb (some ⟨b0, 0, none⟩) (n * n).toNat x.on, blk tb (gridC n n (some ⟨b0, 0, none⟩) (n * n).toNat (n * n).toNat) TGr, blk gb (gridC n n A on.length c) TGr, blk rb [vi 0, vi 0, nilS] TGr]) (fun x => (n - x.a).toNat) ⟨0, 0, 0, List.replicate (n * n).toNat false⟩ ⟨by simp, h0, fill_zero (IsGrid.none m0)⟩ ?_
  rintro ⟨_, r, _, om⟩ ⟨hr0, hr1, hm⟩
  dsimp only at hr0 hr1 hm ⊢
  by_cases hr : r < n
  · refine gg ?_
    refine glp (fun x : WX => 0 ≤ x.b ∧ x.b ≤ n ∧ IsGrid x.on n n (fillS (viaB E 0) r x.b)) (fun x => [(1, .pointer (some ⟨gb, 0, none⟩)), (2, .pointer (some ⟨rb, 0, none⟩)), (3, vi n), (4, .pointer (some ⟨tb, 0, none⟩)), (5, vi r), (6, vi x.b)])
      (fun x => [osl TB vb (some ⟨b0, 0, none⟩) (n * n).toNat x.on, blk tb (gridC n n (some ⟨b0, 0, none⟩) (n * n).toNat (n * n).toNat) TGr, blk gb (gridC n n A on.length c) TGr, blk rb [vi 0, vi 0, nilS] TGr]) (fun x => (n - x.b).toNat) ⟨0, 0, 0, om⟩ ⟨by simp, h0, hm⟩ ?_
    rintro ⟨_, _, k, om⟩ ⟨hk0, hk1, hm⟩
    dsimp only at hk0 hk1 hm ⊢
    have hml := hm.len
    by_cases hk : k < n
    · have hcell := cell_lt hr0 hr hk0 hk
      obtain ⟨q0, q1⟩ := mul_small (x := r) (y := n) hr0 (by omega) h0 h1
      have hfs := fill_step (F := viaB E 0) hm hr0 hr hk0 hk
      by_cases e : r = k
      · have hv : viaB E 0 r k = true := viaB_iff.2 (via_zero.2 (.inl e))
        rw [hv] at hfs
        refine gg ?_
        refine gwa [osl TB vb (some ⟨b0, 0, none⟩) (n * n).toNat om] ?_
        (repeat (first | refine gk1 ?_ | refine gk2 ?_ | refine gk3 ?_ | refine gk0 ?_ | refine gk4 ?_))
        (first | refine ga1 0 (by exact rfl) (by exact rfl) ?_ | refine ga2 0 (by exact rfl) (by exact rfl) ?_ | refine ga3 0 (by exact rfl) (by exact rfl) ?_ | refine ga4 0 (by exact rfl) (by exact rfl) ?_)
        (first | refine ga1 1 (by exact rfl) (by exact rfl) ?_ | refine ga2 1 (by exact rfl) (by exact rfl) ?_ | refine ga3 1 (by exact rfl) (by exact rfl) ?_ | refine ga4 1 (by exact rfl) (by exact rfl) ?_)
        (first | refine ga1 2 (by exact rfl) (by exact rfl) ?_ | refine ga2 2 (by exact rfl) (by exact rfl) ?_ | refine ga3 2 (by exact rfl) (by exact rfl) ?_ | refine ga4 2 (by exact rfl) (by exact rfl) ?_)
        (first | refine ga1 3 (by exact rfl) (by exact rfl) ?_ | refine ga2 3 (by exact rfl) (by exact rfl) ?_ | refine ga3 3 (by exact rfl) (by exact rfl) ?_ | refine ga4 3 (by exact rfl) (by exact rfl) ?_)
        (first | refine ga1 4 (by exact rfl) (by exact rfl) ?_ | refine ga2 4 (by exact rfl) (by exact rfl) ?_ | refine ga3 4 (by exact rfl) (by exact rfl) ?_ | refine ga4 4 (by exact rfl) (by exact rfl) ?_)
        (first | refine ga1 5 (by exact rfl) (by exact rfl) ?_ | refine ga2 5 (by exact rfl) (by exact rfl) ?_ | refine ga3 5 (by exact rfl) (by exact rfl) ?_ | refine ga4 5 (by exact rfl) (by exact rfl) ?_)
        (first | refine ga1 6 (by exact rfl) (by exact rfl) ?_ | refine ga2 6 (by exact rfl) (by exact rfl) ?_ | refine ga3 6 (by exact rfl) (by exact rfl) ?_ | refine ga4 6 (by exact rfl) (by exact rfl) ?_)
        (first | refine ga1 7 (by exact rfl) (by exact rfl) ?_ | refine ga2 7 (by exact rfl) (by exact rfl) ?_ | refine ga3 7 (by exact rfl) (by exact rfl) ?_ | refine ga4 7 (by exact rfl) (by exact rfl) ?_)
        (first | refine ga1 8 (by exact rfl) (by exact rfl) ?_ | refine ga2 8 (by exact rfl) (by exact rfl) ?_ | refine ga3 8 (by exact rfl) (by exact rfl) ?_ | refine ga4 8 (by exact rfl) (by exact rfl) ?_)
        (first | refine ga1 9 (by exact rfl) (by exact rfl) ?_ | refine ga2 9 (by exact rfl) (by exact rfl) ?_ | refine ga3 9 (by exact rfl) (by exact rfl) ?_ | refine ga4 9 (by exact rfl) (by exact rfl) ?_)
        (first | refine ga1 10 (by exact rfl) (by exact rfl) ?_ | refine ga2 10 (by exact rfl) (by exact rfl) ?_ | refine ga3 10 (by exact rfl) (by exact rfl) ?_ | refine ga4 10 (by exact rfl) (by exact rfl) ?_)
        (first | refine ga1 11 (by exact rfl) (by exact rfl) ?_ | refine ga2 11 (by exact rfl) (by exact rfl) ?_ | refine ga3 11 (by exact rfl) (by exact rfl) ?_ | refine ga4 11 (by exact rfl) (by exact rfl) ?_)
        (first | refine ga1 12 (by exact rfl) (by exact rfl) ?_ | refine ga2 12 (by exact rfl) (by exact rfl) ?_ | refine ga3 12 (by exact rfl) (by exact rfl) ?_ | refine ga4 12 (by exact rfl) (by exact rfl) ?_)
        (first | refine ga1 13 (by exact rfl) (by exact rfl) ?_ | refine ga2 13 (by exact rfl) (by exact rfl) ?_ | refine ga3 13 (by exact rfl) (by exact rfl) ?_ | refine ga4 13 (by exact rfl) (by exact rfl) ?_)
        (first | refine ga1 14 (by exact rfl) (by exact rfl) ?_ | refine ga2 14 (by exact rfl) (by exact rfl) ?_ | refine ga3 14 (by exact rfl) (by exact rfl) ?_ | refine ga4 14 (by exact rfl) (by exact rfl) ?_)
        (first | refine ga1 15 (by exact rfl) (by exact rfl) ?_ | refine ga2 15 (by exact rfl) (by exact rfl) ?_ | refine ga3 15 (by exact rfl) (by exact rfl) ?_ | refine ga4 15 (by exact rfl) (by exact rfl) ?_)
        (first | refine ga1 16 (by exact rfl) (by exact rfl) ?_ | refine ga2 16 (by exact rfl) (by exact rfl) ?_ | refine ga3 16 (by exact rfl) (by exact rfl) ?_ | refine ga4 16 (by exact rfl) (by exact rfl) ?_)
        refine gaOne 17 rfl ?_
        refine gt0 (by exact rfl) ?_
        refine ⟨by (repeat (first | exact Suf.refl | exact Suf.nil | exact Suf.app _ _ | apply Suf.cons)), ?_⟩
        refine gaDone ?_
        refine gg ?_
        exact gnx (⟨0, 0, k + 1, om.set (r * n + k).toNat true⟩ : WX) ⟨by dsimp only; omega, by dsimp only; omega, hfs⟩ (by dsimp only; omega)
      · have hv : viaB E 0 r k = E r k := by
          rw [Bool.eq_iff_iff, viaB_iff, via_zero]
          exact ⟨fun h => h.elim (fun h => (e h).elim) id, .inr⟩
        rw [hv] at hfs
        have hat := hg.at_ r k hr0 hr hk0 hk
        refine gg ?_
        refine gwa [osl TB vb (some ⟨b0, 0, none⟩) (n * n).toNat om] ?_
        (repeat (first | refine gk1 ?_ | refine gk2 ?_ | refine gk3 ?_ | refine gk0 ?_ | refine gk4 ?_))
        (first | refine ga1 0 (by exact rfl) (by exact rfl) ?_ | refine ga2 0 (by exact rfl) (by exact rfl) ?_ | refine ga3 0 (by exact rfl) (by exact rfl) ?_ | refine ga4 0 (by exact rfl) (by exact rfl) ?_)
        (first | refine ga1 1 (by exact rfl) (by exact rfl) ?_ | refine ga2 1 (by exact rfl) (by exact rfl) ?_ | refine ga3 1 (by exact rfl) (by exact rfl) ?_ | refine ga4 1 (by exact rfl) (by exact rfl) ?_)
        (first | refine ga1 2 (by exact rfl) (by exact rfl) ?_ | refine ga2 2 (by exact rfl) (by exact rfl) ?_ | refine ga3 2 (by exact rfl) (by exact rfl) ?_ | refine ga4 2 (by exact rfl) (by exact rfl) ?_)
        (first | refine ga1 3 (by exact rfl) (by exact rfl) ?_ | refine ga2 3 (by exact rfl) (by exact rfl) ?_ | refine ga3 3 (by exact rfl) (by exact rfl) ?_ | refine ga4 3 (by exact rfl) (by exact rfl) ?_)
        (first | refine ga1 4 (by exact rfl) (by exact rfl) ?_ | refine ga2 4 (by exact rfl) (by exact rfl) ?_ | refine ga3 4 (by exact rfl) (by exact rfl) ?_ | refine ga4 4 (by exact rfl) (by exact rfl) ?_)
        (first | refine ga1 5 (by exact rfl) (by exact rfl) ?_ | refine ga2 5 (by exact rfl) (by exact rfl) ?_ | refine ga3 5 (by exact rfl) (by exact rfl) ?_ | refine ga4 5 (by exact rfl) (by exact rfl) ?_)
        (first | refine ga1 6 (by exact rfl) (by exact rfl) ?_ | refine ga2 6 (by exact rfl) (by exact rfl) ?_ | refine ga3 6 (by exact rfl) (by exact rfl) ?_ | refine ga4 6 (by exact rfl) (by exact rfl) ?_)
        (first | refine ga1 7 (by exact rfl) (by exact rfl) ?_ | refine ga2 7 (by exact rfl) (by exact rfl) ?_ | refine ga3 7 (by exact rfl) (by exact rfl) ?_ | refine ga4 7 (by exact rfl) (by exact rfl) ?_)
        (first | refine ga1 8 (by exact rfl) (by exact rfl) ?_ | refine ga2 8 (by exact rfl) (by exact rfl) ?_ | refine ga3 8 (by exact rfl) (by exact rfl) ?_ | refine ga4 8 (by exact rfl) (by exact rfl) ?_)
        (first | refine ga1 9 (by exact rfl) (by exact rfl) ?_ | refine ga2 9 (by exact rfl) (by exact rfl) ?_ | refine ga3 9 (by exact rfl) (by exact rfl) ?_ | refine ga4 9 (by exact rfl) (by exact rfl) ?_)
        (first | refine ga1 10 (by exact rfl) (by exact rfl) ?_ | refine ga2 10 (by exact rfl) (by exact rfl) ?_ | refine ga3 10 (by exact rfl) (by exact rfl) ?_ | refine ga4 10 (by exact rfl) (by exact rfl) ?_)
        (first | refine ga1 11 (by exact rfl) (by exact rfl) ?_ | refine ga2 11 (by exact rfl) (by exact rfl) ?_ | refine ga3 11 (by exact rfl) (by exact rfl) ?_ | refine ga4 11 (by exact rfl) (by exact rfl) ?_)
        (first | refine ga1 12 (by exact rfl) (by exact rfl) ?_ | refine ga2 12 (by exact rfl) (by exact rfl) ?_ | refine ga3 12 (by exact rfl) (by exact rfl) ?_ | refine ga4 12 (by exact rfl) (by exact rfl) ?_)
        (first | refine ga1 13 (by exact rfl) (by exact rfl) ?_ | refine ga2 13 (by exact rfl) (by exact rfl) ?_ | refine ga3 13 (by exact rfl) (by exact rfl) ?_ | refine ga4 13 (by exact rfl) (by exact rfl) ?_)
        refine gaOne 14 rfl ?_
        refine gc10 (fun w hst => at_c (rows := n) (width := n) (r := r) (x := k) w (oA.now hst) h0 h1 hr0 (by omega) hk0 (by omega) (by omega) _ hat) (by exact rfl) ?_
        refine ⟨by (repeat (first | exact Suf.refl | exact Suf.nil | exact Suf.app _ _ | apply Suf.cons)), ?_⟩
        (first | refine ga1 15 (by exact rfl) (by exact rfl) ?_ | refine ga2 15 (by exact rfl) (by exact rfl) ?_ | refine ga3 15 (by exact rfl) (by exact rfl) ?_ | refine ga4 15 (by exact rfl) (by exact rfl) ?_)
        (first | refine ga1 16 (by exact rfl) (by exact rfl) ?_ | refine ga2 16 (by exact rfl) (by exact rfl) ?_ | refine ga3 16 (by exact rfl) (by exact rfl) ?_ | refine ga4 16 (by exact rfl) (by exact rfl) ?_)
        refine gaOne 17 rfl ?_
        refine gt0 (by exact rfl) ?_
        refine ⟨by (repeat (first | exact Suf.refl | exact Suf.nil | exact Suf.app _ _ | apply Suf.cons)), ?_⟩
        refine gaDone ?_
        refine gg ?_
        exact gnx (⟨0, 0, k + 1, om.set (r * n + k).toNat (E r k)⟩ : WX) ⟨by dsimp only; omega, by dsimp only; omega, hfs⟩ (by dsimp only; omega)
    · obtain rfl : k = n := by omega
      refine gg ?_
      exact gnx (⟨0, r + 1, 0, om⟩ : WX) ⟨by dsimp only; omega, by dsimp only; omega, fill_next hm⟩ (by dsimp only; omega)
  · have hrn : r = n := by omega
    rw [hrn] at hm ⊢
    have hz := fill_end hm
    clear hm hrn hr hr0 hr1
    refine gg ?_
    refine glp (fun x : WX => 0 ≤ x.k ∧ x.k ≤ n ∧ IsGrid x.on n n (viaB E x.k)) (fun x => [(1, .pointer (some ⟨gb, 0, none⟩)), (2, .pointer (some ⟨rb, 0, none⟩)), (3, vi n), (4, .pointer (some ⟨tb, 0, none⟩)), (7, vi x.k)])
      (fun x => [osl TB vb (some ⟨b0, 0, none⟩) (n * n).toNat x.on, blk tb (gridC n n (some ⟨b0, 0, none⟩) (n * n).toNat (n * n).toNat) TGr, blk rb [vi 0, vi 0, nilS] TGr]) (fun x => (n - x.k).toNat) ⟨0, 0, 0, om⟩ ⟨by simp, h0, hz⟩ ?_
    rintro ⟨k, _, _, om⟩ ⟨hk0, hk1, hm⟩
    dsimp only at hk0 hk1 hm ⊢
    by_cases hk : k < n
    · refine gg ?_
      refine glp (fun x : WX => 0 ≤ x.a ∧ x.a ≤ n ∧ IsGrid x.on n n (mixS (viaB E (k + 1)) (viaB E k) x.a 0)) (fun x => [(1, .pointer (some ⟨gb, 0, none⟩)), (2, .pointer (some ⟨rb, 0, none⟩)), (3, vi n), (4, .pointer (some ⟨tb, 0, none⟩)), (7, vi k), (8, vi x.a)])
        (fun x => [osl TB vb (some ⟨b0, 0, none⟩) (n * n).toNat x.on, blk tb (gridC n n (some ⟨b0, 0, none⟩) (n * n).toNat (n * n).toNat) TGr, blk rb [vi 0, vi 0, nilS] TGr]) (fun x => (n - x.a).toNat) ⟨0, 0, 0, om⟩ ⟨by simp, h0, mix_zero hm⟩ ?_
      rintro ⟨_, r, _, om⟩ ⟨hr0, hr1, hm⟩
      dsimp only at hr0 hr1 hm ⊢
      by_cases hr : r < n
      · obtain ⟨q0, q1⟩ := mul_small (x := r) (y := n) hr0 (by omega) h0 h1
        have hcol : viaB E (k + 1) r k = viaB E k r k := by rw [Bool.eq_iff_iff, viaB_iff, viaB_iff]; exact via_col hk0
        refine gg ?_
        refine glp (fun x : WX => 0 ≤ x.b ∧ x.b ≤ n ∧ IsGrid x.on n n (mixS (viaB E (k + 1)) (viaB E k) r x.b)) (fun x => [(1, .pointer (some ⟨gb, 0, none⟩)), (2, .pointer (some ⟨rb, 0, none⟩)), (3, vi n), (4, .pointer (some ⟨tb, 0, none⟩)), (7, vi k), (8, vi r), (9, vi x.b)])
          (fun x => [osl TB vb (some ⟨b0, 0, none⟩) (n * n).toNat x.on, blk tb (gridC n n (some ⟨b0, 0, none⟩) (n * n).toNat (n * n).toNat) TGr, blk rb [vi 0, vi 0, nilS] TGr]) (fun x => (n - x.b).toNat) ⟨0, 0, 0, om⟩ ⟨by simp, h0, hm⟩ ?_
        rintro ⟨_, _, j, om⟩ ⟨hj0, hj1, hm⟩
        dsimp only at hj0 hj1 hm ⊢
        have hml := hm.len
        have hN : om.length = (n * n).toNat := by omega
        by_cases hj : j < n
        · have hcell := cell_lt hr0 hr hj0 hj
          have hcell1 := cell_lt hr0 hr hk0 hk
          have hcell2 := cell_lt hk0 hk hj0 hj
          have hat : gt om (r * n + k) = viaB E k r k := by
            rw [hm.at_ r k hr0 hr hk0 hk]
            unfold mixS
            split
            · exact hcol
            · rfl
          have hrow : viaB E (k + 1) k j = viaB E k k j := by rw [Bool.eq_iff_iff, viaB_iff, viaB_iff]; exact via_row hk0
          have hat2 : gt om (k * n + j) = viaB E k k j := by
            rw [hm.at_ k j hk0 hk hj0 hj]
            unfold mixS
            split
            · exact hrow
            · rfl
          cases hv : viaB E k r k with
          | true =>
            rw [hv] at hat
            refine gg ?_
            refine gc1 (fun w hst => atN_c (rows := n) (width := n) (r := r) (x := k) w hN (grd hst) h0 h1 hr0 (by omega) hk0 (by omega) (by omega) _ hat) (by exact rfl) ?_
            refine gg ?_
            cases hv2 : viaB E k k j with
            | true =>
              rw [hv2] at hat2
              refine gc1 (fun w hst => atN_c (rows := n) (width := n) (r := k) (x := j) w hN (grd hst) h0 h1 hk0 (by omega) hj0 (by omega) (by omega) _ hat2) (by exact rfl) ?_
              refine gg ?_
              exact gnx (⟨0, 0, j + 1, om.set (r * n + j).toNat true⟩ : WX) ⟨by dsimp only; omega, by dsimp only; omega, mix_set hm hr0 hr hj0 hj (viaB_iff.2 ((via_next hk0).2 (.inr ⟨viaB_iff.1 hv, viaB_iff.1 hv2⟩)))⟩ (by dsimp only; omega)
            | false =>
              rw [hv2] at hat2
              refine gc1 (fun w hst => atN_c (rows := n) (width := n) (r := k) (x := j) w hN (grd hst) h0 h1 hk0 (by omega) hj0 (by omega) (by omega) _ hat2) (by exact rfl) ?_
              refine gg ?_
              exact gnx (⟨0, 0, j + 1, om⟩ : WX) ⟨by dsimp only; omega, by dsimp only; omega, mix_keep hm (by
                rw [Bool.eq_iff_iff, viaB_iff, viaB_iff, via_next hk0]
                refine ⟨fun h => h.elim id fun h => ?_, .inl⟩
                rw [← viaB_iff (k := k) (a := k), hv2] at h
                cases h.2)⟩ (by dsimp only; omega)
          | false =>
            rw [hv] at hat
            refine gg ?_
            refine gc1 (fun w hst => atN_c (rows := n) (width := n) (r := r) (x := k) w hN (grd hst) h0 h1 hr0 (by omega) hk0 (by omega) (by omega) _ hat) (by exact rfl) ?_
            refine gg ?_
            exact gnx (⟨0, r + 1, 0, om⟩ : WX) ⟨by dsimp only; omega, by dsimp only; omega, mix_stop hm fun b => by
              rw [Bool.eq_iff_iff, viaB_iff, viaB_iff, via_next hk0]
              refine ⟨fun h => h.elim id fun h => ?_, .inl⟩
              rw [← viaB_iff (k := k) (a := r) (b := k), hv] at h
              cases h.1⟩ (by dsimp only; omega)
        · have hjn : j = n := by omega
          rw [hjn] at hm ⊢
          refine gg ?_
          exact gnx (⟨0, r + 1, 0, om⟩ : WX) ⟨by dsimp only; omega, by dsimp only; omega, mix_next hm⟩ (by dsimp only; omega)
      · have hrn : r = n := by omega
        rw [hrn] at hm ⊢
        refine gg ?_
        exact gnx (⟨k + 1, 0, 0, om⟩ : WX) ⟨by dsimp only; omega, by dsimp only; omega, mix_end hm⟩ (by dsimp only; omega)
    · have hkn : k = n := by omega
      rw [hkn] at hm ⊢
      have hml := hm.len
      have hN : (n * n).toNat = om.length := by omega
      rw [hN]
      refine gg ?_
      exact grt (⟨some ⟨b0, 0, none⟩, om.length, om⟩ : OX) hm
theorem cnt_same {E : Int → Int → Bool} {v : Int} (h0 : 0 ≤ v) (hR : ¬ Root E v) : cnt E (v + 1).toNat = cnt E v.toNat := by
  rw [show (v + 1).toNat = v.toNat + 1 by omega]
  show cnt E v.toNat + _ = _
  rw [if_neg (by rw [show ((v.toNat : Nat) : Int) = v by omega]; exact hR)]
  rfl
structure KX where
  v : Int
  u : Int
  L : List Int
theorem refComp_c {p : Pat} {x : PA} (w : World) (hp : RdP w x p) :
    Calls Try.prog 86 [pvl x p].toArray w (Ret [] (fun y : RX => .tuple #[.slice y.A y.xs.length y.c, vi (compS p).2]) (fun y => [osl TI vi y.A y.c y.xs]) (fun y => y.xs = (compS p).1) w) := by
  have op := hp.old
  unfold pvl patV
  by_cases he : (closedS p true).2 = 0
  · obtain ⟨hmq, hsq, hEv⟩ := closed_facts he
    have hon := hasB_on hmq hsq
    have hcs : compS p = (compL (hasB (closedS p true).1) (closedS p true).1.rows.toNat, 0) := if_pos he
    rw [hcs]
    have hcl : ∀ w, RdP w x p → Calls Try.prog 75 [pvl x p].toArray w (Ret [] (fun y : PA => .tuple #[pvl y (closedS p true).1, vi 0]) (fun y => PatR y (closedS p true).1) (fun _ => True) w) := fun w hw => by
      have := refClose_c w hw
      rwa [he] at this
    generalize (closedS p true).1 = q at hmq hsq hEv hon hcl ⊢
    obtain ⟨h1, h2, h3, h4, h5, h6, h7, h8⟩ := hmq.toHead
    obtain ⟨n, hn⟩ := Int.eq_ofNat_of_zero_le h1
    have hopen : ∀ w (y : PA), RdP w y q → Calls Try.prog 40 [pvl y q].toArray w (Ret [] (fun x : OX => .agg (gridC n n x.A x.on.length x.c).toArray) (fun x => [osl TB vb x.A x.c x.on]) (fun x => IsGrid x.on n n (hasB q)) w) := fun w y hy => by
      have := open_c w hy.s hy.c hmq
      rwa [← hsq, hn] at this
    rw [hn, Int.toNat_natCast]
    rw [hn] at hon
    generalize hE : hasB q = E at hEv hon hopen ⊢
    dsimp only
    refine calls_wc [] [] [.tmp 2, .tmp 3] (fun y : RX => [.slice y.A y.xs.length y.c, vi 0]) Try.func86 rfl rfl (fun _ => rfl) Try.ntmps86 rfl (Own.nil w) rfl ?_
    refine gg ?_
    refine wl_op (ok_box rfl rfl rfl rfl rfl ?_); intro bp
    refine gg ?_
    refine gc3 [] (fun w hst hst1 => hcl w (op.now hst)) (by exact rfl) ?_
    (repeat (first | refine gk1 ?_ | refine gk2 ?_ | refine gk3 ?_ | refine gk0 ?_ | refine gk4 ?_))
    rintro y _
    dsimp only [List.cons_append, List.nil_append]
    refine gg ?_
    refine wl_op (ok_alloc rfl rfl rfl rfl (ze_of rfl) ?_); intro q4
    refine gg ?_
    refine gc3 [] (fun w hst hst1 => hopen w y (grdP hst)) (by exact rfl) ?_
    (repeat (first | refine gk1 ?_ | refine gk2 ?_ | refine gk3 ?_ | refine gk0 ?_ | refine gk4 ?_))
    rintro ⟨A1, c1, on1⟩ hg1
    dsimp only [List.cons_append, List.nil_append] at hg1 ⊢
    refine gc3 [] (fun w hst hst1 => refWays_c (n := (n : Int)) (on := on1) (E := E) w (grd hst) hg1 (by omega) (by omega)) (by exact rfl) ?_
    (repeat (first | refine gk1 ?_ | refine gk2 ?_ | refine gk3 ?_ | refine gk0 ?_ | refine gk4 ?_))
    rintro ⟨A2, c2, on2⟩ hg2
    dsimp only [List.cons_append, List.nil_append] at hg2 ⊢
    have hgl2 := hg2.len
    refine wl_op (ok_alloc rfl rfl rfl rfl (ze_of rfl) ?_); intro q6
    refine gg ?_
    refine gmk vi 0 rfl rfl rfl rfl rfl rfl rfl rfl rfl rfl rfl h1 (Int.le_refl _) (by omega) (by omega) ?_
    intro b
    rw [hn, Int.toNat_natCast]
    refine gg ?_
    refine glp (fun s : KX => 0 ≤ s.v ∧ s.v ≤ n ∧ s.L.length = n ∧ ∀ i, 0 ≤ i → i < s.v → gt s.L i = lab E i) (fun s => [(4, .pointer (some ⟨q4, 0, none⟩)), (6, .pointer (some ⟨q6, 0, none⟩)), (7, .slice (some ⟨b, 0, none⟩) n n), (8, vi (cnt E s.v.toNat)), (9, vi s.v)])
      (fun s => [osl TI vi (some ⟨b, 0, none⟩) n s.L, blk q4 (pcs y q) TP, osl TB vb A2 c2 on2, blk q6 (gridC n n A2 on2.length c2) TGr]) (fun s => (n - s.v).toNat) ⟨0, 0, List.replicate n 0⟩ ⟨by simp, by simp, by simp, fun i i0 i1 => by dsimp only at i1; omega⟩ ?_
    rintro ⟨v, _, L⟩ ⟨hv0, hv1, hL, hlab⟩
    dsimp only at hv0 hv1 hL hlab ⊢
    have hcn := cnt_le E v.toNat
    by_cases hv : v < n
    · refine gg ?_
      refine glp (fun s : KX => 0 ≤ s.u ∧ s.u ≤ v ∧ s.L.length = n ∧ (∀ i, 0 ≤ i → i < v → gt s.L i = lab E i) ∧ ((gt s.L v = -1 ∧ ∀ u, 0 ≤ u → u < s.u → ¬ Way E u v) ∨ (gt s.L v = lab E v ∧ ¬ Root E v))) (fun s => [(4, .pointer (some ⟨q4, 0, none⟩)), (6, .pointer (some ⟨q6, 0, none⟩)), (7, .slice (some ⟨b, 0, none⟩) n n), (8, vi (cnt E v.toNat)), (9, vi v), (10, vi s.u)])
        (fun s => [osl TI vi (some ⟨b, 0, none⟩) n s.L, blk q4 (pcs y q) TP, osl TB vb A2 c2 on2, blk q6 (gridC n n A2 on2.length c2) TGr]) (fun s => (v - s.u).toNat) ⟨v, 0, L.set v.toNat (-1)⟩ ⟨by simp, hv0, by dsimp only; rw [List.length_set]; exact hL, fun i i0 i1 => by
          dsimp only
          rw [gt_setI hv0 (by omega) i0, if_neg (by omega)]
          exact hlab i i0 i1, .inl ⟨by dsimp only; rw [gt_setI hv0 (by omega) hv0, if_pos rfl], fun u u0 u1 => by dsimp only at u1; omega⟩⟩ ?_
      rintro ⟨_, u, M⟩ ⟨hu0, hu1, hM, hlab, hst⟩
      dsimp only at hu0 hu1 hM hlab hst ⊢
      have hln := lab_nonneg E v
      rcases hst with ⟨hneg, hnw⟩ | ⟨hlv, hnr⟩
      · by_cases hu : u < v
        · have hcell := cell_lt hu0 (show u < (n : Int) by omega) hv0 hv
          have hat := hg2.at_ u v hu0 (by omega) hv0 hv
          refine gg ?_
          cases hw : viaB E n u v with
          | true =>
            rw [hw] at hat
            have hWay : Way E u v := (via_way hon).1 (viaB_iff.1 hw)
            refine gc1 (fun w hst => at_c (rows := (n : Int)) (width := (n : Int)) (r := u) (x := v) w (grd hst) (by omega) (by omega) hu0 (by omega) hv0 (by omega) (by omega) _ hat) (by exact rfl) ?_
            refine gg ?_
            have hlu := hlab u hu0 hu
            have hluv : lab E u = lab E v := (lab_eq hEv hu0 hv0).2 hWay
            exact gnx (⟨v, u + 1, M.set v.toNat (gt M u)⟩ : KX) ⟨by dsimp only; omega, by dsimp only; omega, by dsimp only; rw [List.length_set]; exact hM, fun i i0 i1 => by
              dsimp only
              rw [gt_setI hv0 (by omega) i0, if_neg (by omega)]
              exact hlab i i0 i1, .inr ⟨by dsimp only; rw [gt_setI hv0 (by omega) hv0, if_pos rfl, hlu, hluv], fun hR => hR u hu0 hu hWay⟩⟩ (by dsimp only; omega)
          | false =>
            rw [hw] at hat
            have hWay : ¬ Way E u v := fun h => by
              rw [← via_way hon, ← viaB_iff, hw] at h
              cases h
            refine gc1 (fun w hst => at_c (rows := (n : Int)) (width := (n : Int)) (r := u) (x := v) w (grd hst) (by omega) (by omega) hu0 (by omega) hv0 (by omega) (by omega) _ hat) (by exact rfl) ?_
            refine gg ?_
            exact gnx (⟨v, u + 1, M⟩ : KX) ⟨by dsimp only; omega, by dsimp only; omega, hM, hlab, .inl ⟨hneg, fun z z0 z1 => by
              dsimp only at z1
              by_cases e : z = u
              · rw [e]; exact hWay
              · exact hnw z z0 (by omega)⟩⟩ (by dsimp only; omega)
        · obtain rfl : u = v := by omega
          have hR : Root E u := hnw
          have hcr := cnt_root hv0 hR
          have hlr := lab_root hv0 hEv hR
          refine gg ?_
          rw [show ((cnt E u.toNat : Nat) : Int) + 1 = ((cnt E (u + 1).toNat : Nat) : Int) by omega]
          exact gnx (⟨u + 1, 0, M.set u.toNat (cnt E u.toNat)⟩ : KX) ⟨by dsimp only; omega, by dsimp only; omega, by dsimp only; rw [List.length_set]; exact hM, fun i i0 i1 => by
            dsimp only at i1 ⊢
            rw [gt_setI hv0 (by omega) i0]
            by_cases e : i = u
            · rw [if_pos e, e, hlr]
            · rw [if_neg e]; exact hlab i i0 (by omega)⟩ (by dsimp only; omega)
      · have hcr := cnt_same hv0 hnr
        have hnext : ∀ i, 0 ≤ i → i < v + 1 → gt M i = lab E i := fun i i0 i1 => by
          by_cases e : i = v
          · rw [e]; exact hlv
          · exact hlab i i0 (by omega)
        by_cases hu : u < v
        · refine gg ?_
          rw [← hcr]
          exact gnx (⟨v + 1, 0, M⟩ : KX) ⟨by dsimp only; omega, by dsimp only; omega, hM, hnext⟩ (by dsimp only; omega)
        · refine gg ?_
          rw [← hcr]
          exact gnx (⟨v + 1, 0, M⟩ : KX) ⟨by dsimp only; omega, by dsimp only; omega, hM, hnext⟩ (by dsimp only; omega)
    · obtain rfl : v = n := by omega
      obtain rfl : L = compL E n := ext_gt (by rw [hL]; simp [compL]) fun i i0 i1 => by
        rw [hL] at i1
        rw [hlab i i0 i1, compL_at i0 i1]
      refine gg ?_
      exact grt (⟨some ⟨b, 0, none⟩, n, compL E n⟩ : RX) rfl (h1 := ⟨.t (look_to rfl (by simp [compL])), .t rfl, trivial⟩)
  · have hcs : compS p = ([], (closedS p true).2) := if_neg he
    rw [hcs]
    have hcl : ∀ w, RdP w x p → Calls Try.prog 75 [pvl x p].toArray w (Ret [] (fun y : PA => .tuple #[pvl y (closedS p true).1, vi (closedS p true).2]) (fun y => PatR y (closedS p true).1) (fun _ => True) w) := fun w hw => refClose_c w hw
    generalize (closedS p true).1 = q at hcl
    generalize (closedS p true).2 = e at he hcl ⊢
    dsimp only
    refine calls_wc [] [] [.tmp 2, .tmp 3] (fun y : RX => [.slice y.A y.xs.length y.c, vi e]) Try.func86 rfl rfl (fun _ => rfl) Try.ntmps86 rfl (Own.nil w) rfl ?_
    refine gnil ?_
    refine gg ?_
    refine wl_op (ok_box rfl rfl rfl rfl rfl ?_); intro bp
    refine gg ?_
    refine gc3 [] (fun w hst hst1 => hcl w (op.now hst)) (by exact rfl) ?_
    (repeat (first | refine gk1 ?_ | refine gk2 ?_ | refine gk3 ?_ | refine gk0 ?_ | refine gk4 ?_))
    rintro y _
    dsimp only [List.cons_append, List.nil_append]
    refine gg ?_
    refine wl_op (ok_alloc rfl rfl rfl rfl (ze_of rfl) ?_); intro q4
    refine gg ?_
    exact grt (⟨none, 0, []⟩ : RX) rfl
end Go.Proofs.Ytofngbaefbbeiaa
