/- Walks: the reference of colours: Meet, lines, shut. -/
import Derived.Test.YtoiiellaoikojaaF0
import Derived.Test.YtoiiellaoikojaaCR
set_option linter.unusedVariables false
set_option linter.unusedSimpArgs false
set_option maxHeartbeats 8000000
namespace Go.Proofs.Ytoiiellaoikojaa
open Go.RowKit
abbrev TGh : TypeId := 79
abbrev graC (n : Int) (A : Option Addr) (l c : Nat) : List Value := [vi n, .slice A l c]
theorem meet_c {n r x : Int} {A : Option Addr} {c : Nat} {on : List Bool} (w : World) (hA : Rds vb w A c on) (h2 : 0 ≤ n) (h3 : n ≤ 128) (hr0 : 0 ≤ r) (hr1 : r ≤ 128) (hx0 : 0 ≤ x) (hx1 : x ≤ 128) (hin : r * n + x < on.length) (b : Bool) (hb : gt on (r * n + x) = b) :
    Calls Try.prog 53 [.agg (graC n A on.length c).toArray, vi r, vi x].toArray w (one (.bool b) w) := by
  obtain ⟨m0, m1⟩ := mul_small hr0 hr1 h2 h3
  have oA := hA.old
  have lA := hA.len
  refine calls_wc [] [] [.tmp 6] (fun _ => [.bool b]) Try.func53 rfl rfl (fun _ => rfl) Try.ntmps53 rfl (Own.nil w) rfl ?_
  refine gg ?_
  refine wl_op (ok_box rfl rfl rfl rfl rfl ?_); intro bp
  refine gg ?_
  exact ⟨(), _, .cons (rv_tmp (look_to rfl (by rw [← hb]; rfl))) .nil, trivial, List.Perm.refl _⟩
theorem meetN_c {n r x : Int} {A : Option Addr} {c N : Nat} {on : List Bool} (w : World) (hN : on.length = N) (hA : Rds vb w A c on) (h2 : 0 ≤ n) (h3 : n ≤ 128) (hr0 : 0 ≤ r) (hr1 : r ≤ 128) (hx0 : 0 ≤ x) (hx1 : x ≤ 128) (hin : r * n + x < on.length) (b : Bool) (hb : gt on (r * n + x) = b) :
    Calls Try.prog 53 [.agg (graC n A N c).toArray, vi r, vi x].toArray w (one (.bool b) w) := by
  subst hN
  exact meet_c w hA h2 h3 hr0 hr1 hx0 hx1 hin b hb
/-- one place of a grid laid anew -/
def atS (S : Int → Int → Bool) (u v : Int) (b : Bool) (a c : Int) : Bool := if a = u ∧ c = v then b else S a c
section
variable {on : List Bool} {n u v : Int} {F G : Int → Int → Bool} {b b' : Bool}
theorem at_begin (h : IsGrid on n n (mixS F G u v)) (hb : G u v = b) : IsGrid on n n (atS (mixS F G u v) u v b) := h.congr fun a c a0 a1 c0 c1 => by
  unfold atS
  by_cases e : a = u ∧ c = v
  · rw [if_pos e, e.1, e.2]
    unfold mixS
    rw [if_neg (by omega), hb]
  · rw [if_neg e]
theorem at_end (h : IsGrid on n n (atS (mixS F G u v) u v b)) (hb : F u v = b) : IsGrid on n n (mixS F G u (v + 1)) := h.congr fun a c a0 a1 c0 c1 => by
  unfold atS mixS
  by_cases e : a = u ∧ c = v
  · rw [if_pos e, if_pos (by omega), e.1, e.2, hb]
  · rw [if_neg e]
    by_cases e2 : a < u ∨ a = u ∧ c < v
    · rw [if_pos e2, if_pos (by omega)]
    · rw [if_neg e2, if_neg (by omega)]
theorem at_set {S : Int → Int → Bool} (h : IsGrid on n n (atS S u v b)) (h0 : 0 ≤ u) (h1 : u < n) (h2 : 0 ≤ v) (h3 : v < n) : IsGrid (on.set (u * n + v).toNat b') n n (atS S u v b') := by
  refine h.set h0 h1 h2 h3 b' _ fun a c => ?_
  unfold atS
  by_cases e : a = u ∧ c = v
  · rw [if_pos e, if_pos e]
  · rw [if_neg e, if_neg e, if_neg e]
end
structure LnX where
  u : Int
  v : Int
  k : Int
  on : List Bool
open Classical
noncomputable def bitR (p : Pat) (u v k : Int) : Bool := decide (u ≠ v ∧ ∃ j : Int, 0 ≤ j ∧ j < k ∧ hasB p u j = true ∧ hasB p v j = true)
noncomputable def bitC (p : Pat) (u v k : Int) : Bool := decide (u ≠ v ∧ ∃ j : Int, 0 ≤ j ∧ j < k ∧ hasB p j u = true ∧ hasB p j v = true)
section
variable {p : Pat} {x : PA}
theorem bitR_zero (u v : Int) : bitR p u v 0 = false := by
  unfold bitR
  refine decide_eq_false ?_
  rintro ⟨_, j, h0, h1, _⟩
  omega
theorem bitR_all (hm : May p) (u v : Int) : bitR p u v p.width = meetB p u v := by
  unfold bitR meetB
  refine decide_eq_decide.2 (and_congr_right fun _ => exists_congr fun j => ?_)
  rw [hasB_iff, hasB_iff]
  exact ⟨fun h => h.2.2, fun h => ⟨(h.1.in_ hm).2.1, (h.1.in_ hm).2.2, h⟩⟩
theorem bitR_next {u v k : Int} (hne : u ≠ v) (hk : 0 ≤ k) : bitR p u v (k + 1) = (bitR p u v k || (hasB p u k && hasB p v k)) := by
  rw [Bool.eq_iff_iff, Bool.or_eq_true, Bool.and_eq_true]
  unfold bitR
  rw [decide_eq_true_iff, decide_eq_true_iff]
  constructor
  · rintro ⟨h1, j, h2, h3, h4⟩
    by_cases e : j = k
    · rw [e] at h4; exact .inr h4
    · exact .inl ⟨h1, j, h2, by omega, h4⟩
  · rintro (⟨h1, j, h2, h3, h4⟩ | h)
    · exact ⟨h1, j, h2, by omega, h4⟩
    · exact ⟨hne, k, hk, by omega, h⟩
theorem linesR_c (w : World) (hp : RdP w x p) (hm : May p) :
    Calls Try.prog 47 [pvl x p, .bool true].toArray w (Ret [] (fun y : OX => .agg (graC p.rows y.A y.on.length y.c).toArray) (fun y => [osl TB vb y.A y.c y.on]) (fun y => IsGrid y.on p.rows p.rows (meetB p)) w) := by
  have op := hp.old
  obtain ⟨h1, h2, h3, h4, h5, h6, h7, h8⟩ := hm.toHead
  have hopen : ∀ w (y : PA), RdP w y p → Calls Try.prog 68 [pvl y p].toArray w (Ret [] (fun x : OX => .agg (gridC p.rows p.width x.A x.on.length x.c).toArray) (fun x => [osl TB vb x.A x.c x.on]) (fun x => IsGrid x.on p.rows p.width (hasB p)) w) := fun w y hy => open_c w hy.s hy.c hm
  obtain ⟨m0, m1⟩ := mul_small h1 h2 h1 h2
  obtain ⟨m2, m3⟩ := mul_small h1 h2 h3 h4
  unfold pvl patV
  refine calls_wc [] [] [.cell 4 TGh] (fun y : OX => [.agg (graC p.rows y.A y.on.length y.c).toArray]) Try.func47 rfl rfl (fun _ => rfl) Try.ntmps47 rfl (Own.nil w) rfl ?_
  refine gg ?_
  refine wl_op (ok_box rfl rfl rfl rfl rfl ?_); intro bp
  refine wl_op (ok_alloc rfl rfl rfl rfl (ze_of rfl) ?_); intro rb
  refine gg ?_
  refine gc3 [] (fun w hst hst1 => hopen w x (op.now hst)) (by exact rfl) ?_
  (repeat (first | refine gk1 ?_ | refine gk2 ?_ | refine gk3 ?_ | refine gk0 ?_ | refine gk4 ?_))
  rintro ⟨G1, d1, on1⟩ hg1
  dsimp only [List.cons_append, List.nil_append] at hg1 ⊢
  have hgl1 := hg1.len
  refine wl_op (ok_alloc rfl rfl rfl rfl (ze_of rfl) ?_); intro q5
  refine gg ?_
  refine gmk vb false rfl rfl rfl rfl rfl rfl rfl rfl rfl rfl rfl m0 (Int.le_refl _) (by omega) (by omega) ?_
  intro sb
  refine wl_v rfl rfl rfl (val_build (ps := [(0, vi p.rows), (1, .slice (some ⟨sb, 0, none⟩) (p.rows * p.rows).toNat (p.rows * p.rows).toNat)]) (cells := graC p.rows (some ⟨sb, 0, none⟩) (p.rows * p.rows).toNat (p.rows * p.rows).toNat) rfl rfl (by kernel_rfl)) ?_
  refine wl_op (ok_alloc rfl rfl rfl rfl (ze_of rfl) ?_); intro q8
  refine gg ?_
  refine glp (fun y : LnX => 0 ≤ y.u ∧ y.u ≤ p.rows ∧ IsGrid y.on p.rows p.rows (mixS (meetB p) (fun _ _ => false) y.u 0)) (fun y => [(1, .bool true), (4, .pointer (some ⟨rb, 0, none⟩)), (5, .pointer (some ⟨q5, 0, none⟩)), (6, vi p.rows), (7, vi p.width), (8, .pointer (some ⟨q8, 0, none⟩)), (9, vi y.u)])
    (fun y => [blk rb [vi 0, nilS] TGh, osl TB vb G1 d1 on1, blk q5 (gridC p.rows p.width G1 on1.length d1) TGr, osl TB vb (some ⟨sb, 0, none⟩) (p.rows * p.rows).toNat y.on, blk q8 (graC p.rows (some ⟨sb, 0, none⟩) (p.rows * p.rows).toNat (p.rows * p.rows).toNat) TGh]) (fun y => (p.rows - y.u).toNat) ⟨0, 0, 0, List.replicate (p.rows * p.rows).toNat false⟩ ⟨by simp, by dsimp only; omega, mix_zero (IsGrid.none m0)⟩ ?_
  rintro ⟨u, _, _, on⟩ ⟨hu0, hu1, hg⟩
  dsimp only at hu0 hu1 hg ⊢
  by_cases hu : u < p.rows
  · refine gg ?_
    refine glp (fun y : LnX => 0 ≤ y.v ∧ y.v ≤ p.rows ∧ IsGrid y.on p.rows p.rows (mixS (meetB p) (fun _ _ => false) u y.v)) (fun y => [(1, .bool true), (4, .pointer (some ⟨rb, 0, none⟩)), (5, .pointer (some ⟨q5, 0, none⟩)), (6, vi p.rows), (7, vi p.width), (8, .pointer (some ⟨q8, 0, none⟩)), (9, vi u), (10, vi y.v)])
      (fun y => [blk rb [vi 0, nilS] TGh, osl TB vb G1 d1 on1, blk q5 (gridC p.rows p.width G1 on1.length d1) TGr, osl TB vb (some ⟨sb, 0, none⟩) (p.rows * p.rows).toNat y.on, blk q8 (graC p.rows (some ⟨sb, 0, none⟩) (p.rows * p.rows).toNat (p.rows * p.rows).toNat) TGh]) (fun y => (p.rows - y.v).toNat) ⟨0, 0, 0, on⟩ ⟨by simp, by dsimp only; omega, hg⟩ ?_
    rintro ⟨_, v, _, on⟩ ⟨hv0, hv1, hg⟩
    dsimp only at hv0 hv1 hg ⊢
    by_cases hv : v < p.rows
    · refine gg ?_
      refine glp (fun y : LnX => 0 ≤ y.k ∧ y.k ≤ p.width ∧ IsGrid y.on p.rows p.rows (atS (mixS (meetB p) (fun _ _ => false) u v) u v (bitR p u v y.k))) (fun y => [(1, .bool true), (4, .pointer (some ⟨rb, 0, none⟩)), (5, .pointer (some ⟨q5, 0, none⟩)), (6, vi p.rows), (7, vi p.width), (8, .pointer (some ⟨q8, 0, none⟩)), (9, vi u), (10, vi v), (11, vi y.k)])
        (fun y => [blk rb [vi 0, nilS] TGh, osl TB vb G1 d1 on1, blk q5 (gridC p.rows p.width G1 on1.length d1) TGr, osl TB vb (some ⟨sb, 0, none⟩) (p.rows * p.rows).toNat y.on, blk q8 (graC p.rows (some ⟨sb, 0, none⟩) (p.rows * p.rows).toNat (p.rows * p.rows).toNat) TGh]) (fun y => (p.width - y.k).toNat) ⟨0, 0, 0, on⟩ ⟨by simp, by dsimp only; omega, at_begin hg (bitR_zero u v).symm⟩ ?_
      rintro ⟨_, _, k, on⟩ ⟨hk0, hk1, hg⟩
      dsimp only at hk0 hk1 hg ⊢
      have hgl := hg.len
      have luv := cell_lt hu0 hu hv0 hv
      obtain ⟨m4, m5⟩ := mul_small hu0 (show u ≤ 128 by omega) h1 h2
      by_cases hne : u = v
      · refine gg ?_
        exact gnx (⟨0, v + 1, 0, on⟩ : LnX) ⟨by dsimp only; omega, by dsimp only; omega, at_end hg (by rw [hne]; unfold meetB bitR; rw [decide_eq_false (fun h => h.1 rfl), decide_eq_false (fun h => h.1 rfl)])⟩ (by dsimp only; omega)
      · by_cases hk : k < p.width
        · have hnx := bitR_next (p := p) hne hk0
          have hA := hg1.at_ u k hu0 hu hk0 hk
          have lA := cell_lt hu0 hu hk0 hk
          have hB := hg1.at_ v k hv0 hv hk0 hk
          have lB := cell_lt hv0 hv hk0 hk
          obtain ⟨m6, m7⟩ := mul_small (x := u) (y := p.width) (by omega) (by omega) h3 h4
          obtain ⟨m8, m9⟩ := mul_small (x := v) (y := p.width) (by omega) (by omega) h3 h4
          refine gg ?_
          cases ha : hasB p u k with
          | false =>
            rw [ha] at hA
            rw [ha, Bool.false_and, Bool.or_false] at hnx
            refine gc1 (fun w hst => at_c (rows := p.rows) (width := p.width) (r := u) (x := k) w (grd hst) h3 h4 (by omega) (by omega) (by omega) (by omega) (by omega) _ hA) (by exact rfl) ?_
            refine gg ?_
            exact gnx (⟨0, 0, k + 1, on⟩ : LnX) ⟨by dsimp only; omega, by dsimp only; omega, by dsimp only; rw [hnx]; exact hg⟩ (by dsimp only; omega)
          | true =>
            rw [ha] at hA
            refine gc1 (fun w hst => at_c (rows := p.rows) (width := p.width) (r := u) (x := k) w (grd hst) h3 h4 (by omega) (by omega) (by omega) (by omega) (by omega) _ hA) (by exact rfl) ?_
            refine gg ?_
            cases hb : hasB p v k with
            | false =>
              rw [hb] at hB
              rw [hb, Bool.and_false, Bool.or_false] at hnx
              refine gc1 (fun w hst => at_c (rows := p.rows) (width := p.width) (r := v) (x := k) w (grd hst) h3 h4 (by omega) (by omega) (by omega) (by omega) (by omega) _ hB) (by exact rfl) ?_
              refine gg ?_
              exact gnx (⟨0, 0, k + 1, on⟩ : LnX) ⟨by dsimp only; omega, by dsimp only; omega, by dsimp only; rw [hnx]; exact hg⟩ (by dsimp only; omega)
            | true =>
              rw [hb] at hB
              rw [ha, hb, Bool.and_true, Bool.or_true] at hnx
              refine gc1 (fun w hst => at_c (rows := p.rows) (width := p.width) (r := v) (x := k) w (grd hst) h3 h4 (by omega) (by omega) (by omega) (by omega) (by omega) _ hB) (by exact rfl) ?_
              refine gg ?_
              exact gnx (⟨0, 0, k + 1, on.set (u * p.rows + v).toNat true⟩ : LnX) ⟨by dsimp only; omega, by dsimp only; omega, by dsimp only; rw [hnx]; exact at_set hg hu0 hu hv0 hv⟩ (by dsimp only; omega)
        · obtain rfl : k = p.width := by omega
          refine gg ?_
          exact gnx (⟨0, v + 1, 0, on⟩ : LnX) ⟨by dsimp only; omega, by dsimp only; omega, at_end hg (bitR_all hm u v).symm⟩ (by dsimp only; omega)
    · obtain rfl : v = p.rows := by omega
      refine gg ?_
      exact gnx (⟨u + 1, 0, 0, on⟩ : LnX) ⟨by dsimp only; omega, by dsimp only; omega, mix_next hg⟩ (by dsimp only; omega)
  · obtain rfl : u = p.rows := by omega
    have hgl := hg.len
    refine gg ?_
    rw [show (p.rows * p.rows).toNat = on.length by omega]
    exact grt (⟨some ⟨sb, 0, none⟩, on.length, on⟩ : OX) (mix_end hg)
theorem bitC_zero (u v : Int) : bitC p u v 0 = false := by
  unfold bitC
  refine decide_eq_false ?_
  rintro ⟨_, j, h0, h1, _⟩
  omega
theorem bitC_all (hm : May p) (u v : Int) : bitC p u v p.rows = meetC p u v := by
  unfold bitC meetC
  refine decide_eq_decide.2 (and_congr_right fun _ => exists_congr fun j => ?_)
  rw [hasB_iff, hasB_iff]
  exact ⟨fun h => h.2.2, fun h => ⟨(h.1.in_ hm).1.1, (h.1.in_ hm).1.2, h⟩⟩
theorem bitC_next {u v k : Int} (hne : u ≠ v) (hk : 0 ≤ k) : bitC p u v (k + 1) = (bitC p u v k || (hasB p k u && hasB p k v)) := by
  rw [Bool.eq_iff_iff, Bool.or_eq_true, Bool.and_eq_true]
  unfold bitC
  rw [decide_eq_true_iff, decide_eq_true_iff]
  constructor
  · rintro ⟨h1, j, h2, h3, h4⟩
    by_cases e : j = k
    · rw [e] at h4; exact .inr h4
    · exact .inl ⟨h1, j, h2, by omega, h4⟩
  · rintro (⟨h1, j, h2, h3, h4⟩ | h)
    · exact ⟨h1, j, h2, by omega, h4⟩
    · exact ⟨hne, k, hk, by omega, h⟩
theorem linesC_c (w : World) (hp : RdP w x p) (hm : May p) :
    Calls Try.prog 47 [pvl x p, .bool false].toArray w (Ret [] (fun y : OX => .agg (graC p.width y.A y.on.length y.c).toArray) (fun y => [osl TB vb y.A y.c y.on]) (fun y => IsGrid y.on p.width p.width (meetC p)) w) := by
  have op := hp.old
  obtain ⟨h1, h2, h3, h4, h5, h6, h7, h8⟩ := hm.toHead
  have hopen : ∀ w (y : PA), RdP w y p → Calls Try.prog 68 [pvl y p].toArray w (Ret [] (fun x : OX => .agg (gridC p.rows p.width x.A x.on.length x.c).toArray) (fun x => [osl TB vb x.A x.c x.on]) (fun x => IsGrid x.on p.rows p.width (hasB p)) w) := fun w y hy => open_c w hy.s hy.c hm
  obtain ⟨m0, m1⟩ := mul_small h3 h4 h3 h4
  obtain ⟨m2, m3⟩ := mul_small h1 h2 h3 h4
  unfold pvl patV
  refine calls_wc [] [] [.cell 4 TGh] (fun y : OX => [.agg (graC p.width y.A y.on.length y.c).toArray]) Try.func47 rfl rfl (fun _ => rfl) Try.ntmps47 rfl (Own.nil w) rfl ?_
  refine gg ?_
  refine wl_op (ok_box rfl rfl rfl rfl rfl ?_); intro bp
  refine wl_op (ok_alloc rfl rfl rfl rfl (ze_of rfl) ?_); intro rb
  refine gg ?_
  refine gc3 [] (fun w hst hst1 => hopen w x (op.now hst)) (by exact rfl) ?_
  (repeat (first | refine gk1 ?_ | refine gk2 ?_ | refine gk3 ?_ | refine gk0 ?_ | refine gk4 ?_))
  rintro ⟨G1, d1, on1⟩ hg1
  dsimp only [List.cons_append, List.nil_append] at hg1 ⊢
  have hgl1 := hg1.len
  refine wl_op (ok_alloc rfl rfl rfl rfl (ze_of rfl) ?_); intro q5
  refine gg ?_
  refine gmk vb false rfl rfl rfl rfl rfl rfl rfl rfl rfl rfl rfl m0 (Int.le_refl _) (by omega) (by omega) ?_
  intro sb
  refine wl_v rfl rfl rfl (val_build (ps := [(0, vi p.width), (1, .slice (some ⟨sb, 0, none⟩) (p.width * p.width).toNat (p.width * p.width).toNat)]) (cells := graC p.width (some ⟨sb, 0, none⟩) (p.width * p.width).toNat (p.width * p.width).toNat) rfl rfl (by kernel_rfl)) ?_
  refine wl_op (ok_alloc rfl rfl rfl rfl (ze_of rfl) ?_); intro q8
  refine gg ?_
  refine glp (fun y : LnX => 0 ≤ y.u ∧ y.u ≤ p.width ∧ IsGrid y.on p.width p.width (mixS (meetC p) (fun _ _ => false) y.u 0)) (fun y => [(1, .bool false), (4, .pointer (some ⟨rb, 0, none⟩)), (5, .pointer (some ⟨q5, 0, none⟩)), (6, vi p.width), (7, vi p.rows), (8, .pointer (some ⟨q8, 0, none⟩)), (9, vi y.u)])
    (fun y => [blk rb [vi 0, nilS] TGh, osl TB vb G1 d1 on1, blk q5 (gridC p.rows p.width G1 on1.length d1) TGr, osl TB vb (some ⟨sb, 0, none⟩) (p.width * p.width).toNat y.on, blk q8 (graC p.width (some ⟨sb, 0, none⟩) (p.width * p.width).toNat (p.width * p.width).toNat) TGh]) (fun y => (p.width - y.u).toNat) ⟨0, 0, 0, List.replicate (p.width * p.width).toNat false⟩ ⟨by simp, by dsimp only; omega, mix_zero (IsGrid.none m0)⟩ ?_
  rintro ⟨u, _, _, on⟩ ⟨hu0, hu1, hg⟩
  dsimp only at hu0 hu1 hg ⊢
  by_cases hu : u < p.width
  · refine gg ?_
    refine glp (fun y : LnX => 0 ≤ y.v ∧ y.v ≤ p.width ∧ IsGrid y.on p.width p.width (mixS (meetC p) (fun _ _ => false) u y.v)) (fun y => [(1, .bool false), (4, .pointer (some ⟨rb, 0, none⟩)), (5, .pointer (some ⟨q5, 0, none⟩)), (6, vi p.width), (7, vi p.rows), (8, .pointer (some ⟨q8, 0, none⟩)), (9, vi u), (10, vi y.v)])
      (fun y => [blk rb [vi 0, nilS] TGh, osl TB vb G1 d1 on1, blk q5 (gridC p.rows p.width G1 on1.length d1) TGr, osl TB vb (some ⟨sb, 0, none⟩) (p.width * p.width).toNat y.on, blk q8 (graC p.width (some ⟨sb, 0, none⟩) (p.width * p.width).toNat (p.width * p.width).toNat) TGh]) (fun y => (p.width - y.v).toNat) ⟨0, 0, 0, on⟩ ⟨by simp, by dsimp only; omega, hg⟩ ?_
    rintro ⟨_, v, _, on⟩ ⟨hv0, hv1, hg⟩
    dsimp only at hv0 hv1 hg ⊢
    by_cases hv : v < p.width
    · refine gg ?_
      refine glp (fun y : LnX => 0 ≤ y.k ∧ y.k ≤ p.rows ∧ IsGrid y.on p.width p.width (atS (mixS (meetC p) (fun _ _ => false) u v) u v (bitC p u v y.k))) (fun y => [(1, .bool false), (4, .pointer (some ⟨rb, 0, none⟩)), (5, .pointer (some ⟨q5, 0, none⟩)), (6, vi p.width), (7, vi p.rows), (8, .pointer (some ⟨q8, 0, none⟩)), (9, vi u), (10, vi v), (11, vi y.k)])
        (fun y => [blk rb [vi 0, nilS] TGh, osl TB vb G1 d1 on1, blk q5 (gridC p.rows p.width G1 on1.length d1) TGr, osl TB vb (some ⟨sb, 0, none⟩) (p.width * p.width).toNat y.on, blk q8 (graC p.width (some ⟨sb, 0, none⟩) (p.width * p.width).toNat (p.width * p.width).toNat) TGh]) (fun y => (p.rows - y.k).toNat) ⟨0, 0, 0, on⟩ ⟨by simp, by dsimp only; omega, at_begin hg (bitC_zero u v).symm⟩ ?_
      rintro ⟨_, _, k, on⟩ ⟨hk0, hk1, hg⟩
      dsimp only at hk0 hk1 hg ⊢
      have hgl := hg.len
      have luv := cell_lt hu0 hu hv0 hv
      obtain ⟨m4, m5⟩ := mul_small hu0 (show u ≤ 128 by omega) h3 h4
      by_cases hne : u = v
      · refine gg ?_
        exact gnx (⟨0, v + 1, 0, on⟩ : LnX) ⟨by dsimp only; omega, by dsimp only; omega, at_end hg (by rw [hne]; unfold meetC bitC; rw [decide_eq_false (fun h => h.1 rfl), decide_eq_false (fun h => h.1 rfl)])⟩ (by dsimp only; omega)
      · by_cases hk : k < p.rows
        · have hnx := bitC_next (p := p) hne hk0
          have hA := hg1.at_ k u hk0 hk hu0 hu
          have lA := cell_lt hk0 hk hu0 hu
          have hB := hg1.at_ k v hk0 hk hv0 hv
          have lB := cell_lt hk0 hk hv0 hv
          obtain ⟨m6, m7⟩ := mul_small (x := k) (y := p.width) (by omega) (by omega) h3 h4
          obtain ⟨m8, m9⟩ := mul_small (x := k) (y := p.width) (by omega) (by omega) h3 h4
          refine gg ?_
          cases ha : hasB p k u with
          | false =>
            rw [ha] at hA
            rw [ha, Bool.false_and, Bool.or_false] at hnx
            refine gc1 (fun w hst => at_c (rows := p.rows) (width := p.width) (r := k) (x := u) w (grd hst) h3 h4 (by omega) (by omega) (by omega) (by omega) (by omega) _ hA) (by exact rfl) ?_
            refine gg ?_
            exact gnx (⟨0, 0, k + 1, on⟩ : LnX) ⟨by dsimp only; omega, by dsimp only; omega, by dsimp only; rw [hnx]; exact hg⟩ (by dsimp only; omega)
          | true =>
            rw [ha] at hA
            refine gc1 (fun w hst => at_c (rows := p.rows) (width := p.width) (r := k) (x := u) w (grd hst) h3 h4 (by omega) (by omega) (by omega) (by omega) (by omega) _ hA) (by exact rfl) ?_
            refine gg ?_
            cases hb : hasB p k v with
            | false =>
              rw [hb] at hB
              rw [hb, Bool.and_false, Bool.or_false] at hnx
              refine gc1 (fun w hst => at_c (rows := p.rows) (width := p.width) (r := k) (x := v) w (grd hst) h3 h4 (by omega) (by omega) (by omega) (by omega) (by omega) _ hB) (by exact rfl) ?_
              refine gg ?_
              exact gnx (⟨0, 0, k + 1, on⟩ : LnX) ⟨by dsimp only; omega, by dsimp only; omega, by dsimp only; rw [hnx]; exact hg⟩ (by dsimp only; omega)
            | true =>
              rw [hb] at hB
              rw [ha, hb, Bool.and_true, Bool.or_true] at hnx
              refine gc1 (fun w hst => at_c (rows := p.rows) (width := p.width) (r := k) (x := v) w (grd hst) h3 h4 (by omega) (by omega) (by omega) (by omega) (by omega) _ hB) (by exact rfl) ?_
              refine gg ?_
              exact gnx (⟨0, 0, k + 1, on.set (u * p.width + v).toNat true⟩ : LnX) ⟨by dsimp only; omega, by dsimp only; omega, by dsimp only; rw [hnx]; exact at_set hg hu0 hu hv0 hv⟩ (by dsimp only; omega)
        · obtain rfl : k = p.rows := by omega
          refine gg ?_
          exact gnx (⟨0, v + 1, 0, on⟩ : LnX) ⟨by dsimp only; omega, by dsimp only; omega, at_end hg (bitC_all hm u v).symm⟩ (by dsimp only; omega)
    · obtain rfl : v = p.width := by omega
      refine gg ?_
      exact gnx (⟨u + 1, 0, 0, on⟩ : LnX) ⟨by dsimp only; omega, by dsimp only; omega, mix_next hg⟩ (by dsimp only; omega)
  · obtain rfl : u = p.width := by omega
    have hgl := hg.len
    refine gg ?_
    rw [show (p.width * p.width).toNat = on.length by omega]
    exact grt (⟨some ⟨sb, 0, none⟩, on.length, on⟩ : OX) (mix_end hg)
end
end Go.Proofs.Ytoiiellaoikojaa
