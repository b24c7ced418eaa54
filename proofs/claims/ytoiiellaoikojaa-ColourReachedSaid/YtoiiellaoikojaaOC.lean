/- Walks: colours: the reference's right. Greedy of every kind; the reference's; the law ColourGreedy. -/
import Derived.Test.YtoiiellaoikojaaOB
set_option linter.unusedVariables false
set_option linter.unusedSimpArgs false
set_option maxHeartbeats 8000000
namespace Go.Proofs.Ytoiiellaoikojaa
open Go.RowKit Classical
section
variable {F : Int → Int → Bool} {n N m : Nat} {on : List Bool} {A B : Option Addr} {c d : Nat} {K : List Int} {v kd : Int}
theorem right_c (w : World) (hN : on.length = N) (hA : Rds vb w A c on) (hg : IsGrid on n n F) (hn : n ≤ 128) (hK : Rds vi w B d K) (hm : K.length = m) (hl : K.length = n) (hev : ∀ a b, F a b = true → F b a = true) (v0 : 0 ≤ v) (v1 : v < n) (b : Bool) (hb : b = true ↔ RightP kd F n K v) :
    Calls Try.prog 64 [vi kd, .agg (graC n A N c).toArray, .slice B m d, vi v].toArray w (one (.bool b) w) := by
  subst hN
  subst hm
  have oA := hA.old
  have oK := hK.old
  have hgl := hg.len
  have fals : ¬ RightP kd F n K v → b = false := fun h => by
    cases b with
    | false => rfl
    | true => exact (h (hb.1 rfl)).elim
  obtain ⟨m0, m1⟩ := mul_small (x := (n : Int)) (y := n) (by omega) (by omega) (by omega) (by omega)
  refine calls_wc [] [] [.tmp 8] (fun _ => [.bool b]) Try.func64 rfl rfl (fun _ => rfl) Try.ntmps64 rfl (Own.nil w) rfl ?_
  refine gg ?_
  refine wl_op (ok_box rfl rfl rfl rfl rfl ?_); intro bp
  refine gg ?_
  refine glp (fun k : Int => 0 ≤ k ∧ k ≤ n ∧ ∀ u : Int, 0 ≤ u → u < k → ¬ (F u v = true ∧ gt K u = gt K v)) (fun k => [(0, vi kd), (2, .slice B K.length d), (3, vi v), (5, .pointer (some ⟨bp, 0, none⟩)), (9, vi k)])
    (fun _ => [blk bp (graC n A on.length c) TGh]) (fun k => (n - k).toNat) 0 ⟨by omega, by omega, fun q q0 q1 => by omega⟩ ?_
  rintro k ⟨hk0, hk1, hno⟩
  by_cases hk : k < n
  · have hkv := hg.at_ k v hk0 hk v0 v1
    have lkv := cell_lt hk0 hk v0 v1
    have nxt : ¬ (F k v = true ∧ gt K k = gt K v) → ∀ u : Int, 0 ≤ u → u < k + 1 → ¬ (F u v = true ∧ gt K u = gt K v) := fun h q q0 q1 => by
      by_cases e : q = k
      · rw [e]; exact h
      · exact hno q q0 (by omega)
    cases hF : F k v with
    | false =>
      rw [hF] at hkv
      refine gg ?_
      refine wc_quiet mixed (by kernel_rfl) ?_
      refine gg ?_
      refine gc2 (fun w hst => meet_c (n := n) (r := k) (x := v) w (oA.now hst) (by omega) (by omega) hk0 (by omega) v0 (by omega) (by omega) _ hkv) (by exact rfl) ?_
      refine gg ?_
      exact gnx (k + 1) ⟨by omega, by omega, nxt fun h => by rw [hF] at h; cases h.1⟩ (by omega)
    | true =>
      rw [hF] at hkv
      by_cases h1 : gt K k = gt K v
      · obtain rfl := fals fun h => h.1 k hk0 hk ⟨hF, h1⟩
        refine gg ?_
        refine wc_quiet mixed (by kernel_rfl) ?_
        refine gg ?_
        refine gc2 (fun w hst => meet_c (n := n) (r := k) (x := v) w (oA.now hst) (by omega) (by omega) hk0 (by omega) v0 (by omega) (by omega) _ hkv) (by exact rfl) ?_
        refine gg ?_
        exact grt () trivial
      · refine gg ?_
        refine wc_quiet mixed (by kernel_rfl) ?_
        refine gg ?_
        refine gc2 (fun w hst => meet_c (n := n) (r := k) (x := v) w (oA.now hst) (by omega) (by omega) hk0 (by omega) v0 (by omega) (by omega) _ hkv) (by exact rfl) ?_
        refine gg ?_
        exact gnx (k + 1) ⟨by omega, by omega, nxt fun h => h1 h.2⟩ (by omega)
  obtain rfl : k = n := by omega
  clear hk hk0 hk1
  refine gg ?_
  refine wc_meetK (fun _ : Nat × Nat => True) (fun z => [(0, vi kd), (2, .slice B K.length d), (3, vi v), (5, .pointer (some ⟨bp, 0, none⟩)), (10, .pointer (some ⟨z.2, 0, none⟩))])
    (fun z => [osl TB vb (some ⟨z.1, 0, none⟩) ((n : Int) * n).toNat (List.replicate ((n : Int) * n).toNat false), blk z.2 (graC n (some ⟨z.1, 0, none⟩) ((n : Int) * n).toNat ((n : Int) * n).toNat) TGh, blk bp (graC n A on.length c) TGh]) ?_ ?_
  · refine gwa [] ?_
    (repeat (first | refine gk1 ?_ | refine gk2 ?_ | refine gk3 ?_ | refine gk0 ?_ | refine gk4 ?_))
    dsimp only [List.nil_append]
    (first | refine ga1 0 (by exact rfl) (by exact rfl) ?_ | refine ga2 0 (by exact rfl) (by exact rfl) ?_ | refine ga3 0 (by exact rfl) (by exact rfl) ?_ | refine ga4 0 (by exact rfl) (by exact rfl) ?_)
    (first | refine ga1 1 (by exact rfl) (by exact rfl) ?_ | refine ga2 1 (by exact rfl) (by exact rfl) ?_ | refine ga3 1 (by exact rfl) (by exact rfl) ?_ | refine ga4 1 (by exact rfl) (by exact rfl) ?_)
    (first | refine ga1 2 (by exact rfl) (by exact rfl) ?_ | refine ga2 2 (by exact rfl) (by exact rfl) ?_ | refine ga3 2 (by exact rfl) (by exact rfl) ?_ | refine ga4 2 (by exact rfl) (by exact rfl) ?_)
    (first | refine ga1 3 (by exact rfl) (by exact rfl) ?_ | refine ga2 3 (by exact rfl) (by exact rfl) ?_ | refine ga3 3 (by exact rfl) (by exact rfl) ?_ | refine ga4 3 (by exact rfl) (by exact rfl) ?_)
    (first | refine ga1 4 (by exact rfl) (by exact rfl) ?_ | refine ga2 4 (by exact rfl) (by exact rfl) ?_ | refine ga3 4 (by exact rfl) (by exact rfl) ?_ | refine ga4 4 (by exact rfl) (by exact rfl) ?_)
    (first | refine ga1 5 (by exact rfl) (by exact rfl) ?_ | refine ga2 5 (by exact rfl) (by exact rfl) ?_ | refine ga3 5 (by exact rfl) (by exact rfl) ?_ | refine ga4 5 (by exact rfl) (by exact rfl) ?_)
    (first | refine ga1 6 (by exact rfl) (by exact rfl) ?_ | refine ga2 6 (by exact rfl) (by exact rfl) ?_ | refine ga3 6 (by exact rfl) (by exact rfl) ?_ | refine ga4 6 (by exact rfl) (by exact rfl) ?_)
    refine gaAll [7, 9] ?_
    intro j hj
    simp only [List.mem_cons, List.not_mem_nil, or_false] at hj
    rcases hj with rfl | rfl
    · refine ⟨_, rfl, ?_⟩
      refine gmk0 vb false rfl rfl rfl rfl rfl rfl rfl rfl rfl rfl rfl m0 (Int.le_refl _) (by omega) (by omega) ?_
      intro sb
      refine ⟨by (repeat (first | exact Suf.refl | exact Suf.nil | exact Suf.app _ _ | apply Suf.cons)), ?_⟩
      refine wa_v 8 [_] rfl (by kernel_rfl) rfl rfl rfl rfl (val_build (ps := [(0, vi n), (1, .slice (some ⟨sb, 0, none⟩) ((n : Int) * n).toNat ((n : Int) * n).toNat)]) (cells := graC n (some ⟨sb, 0, none⟩) ((n : Int) * n).toNat ((n : Int) * n).toNat) rfl rfl (by kernel_rfl)) ?_
      refine gaOne 9 rfl ?_
      refine ok_alloc rfl rfl rfl rfl (ze_of rfl) ?_
      intro q
      refine ⟨by (repeat (first | exact Suf.refl | exact Suf.nil | exact Suf.app _ _ | apply Suf.cons)), ?_⟩
      refine gaOne 10 rfl ?_
      refine gt0 (by exact rfl) ?_
      refine ⟨by (repeat (first | exact Suf.refl | exact Suf.nil | exact Suf.app _ _ | apply Suf.cons)), ?_⟩
      refine gaDone ?_
      exact ⟨(sb, q), trivial, .cons rfl (.cons rfl (.cons rfl (.cons rfl (.cons rfl .nil)))), by refine SubK.e ?_; (repeat (first | refine gk1 ?_ | refine gk2 ?_ | refine gk3 ?_ | refine gk0 ?_ | refine gk4 ?_)); trivial⟩
    · refine ⟨_, rfl, ?_⟩
      refine ok_alloc rfl rfl rfl rfl (ze_of rfl) ?_
      intro q
      refine ⟨by (repeat (first | exact Suf.refl | exact Suf.nil | exact Suf.app _ _ | apply Suf.cons)), ?_⟩
      refine gaOne 7 rfl ?_
      refine gmk0 vb false rfl rfl rfl rfl rfl rfl rfl rfl rfl rfl rfl m0 (Int.le_refl _) (by omega) (by omega) ?_
      intro sb
      refine ⟨by (repeat (first | exact Suf.refl | exact Suf.nil | exact Suf.app _ _ | apply Suf.cons)), ?_⟩
      refine wa_v 8 [_, _] rfl (by kernel_rfl) rfl rfl rfl rfl (val_build (ps := [(0, vi n), (1, .slice (some ⟨sb, 0, none⟩) ((n : Int) * n).toNat ((n : Int) * n).toNat)]) (cells := graC n (some ⟨sb, 0, none⟩) ((n : Int) * n).toNat ((n : Int) * n).toNat) rfl rfl (by kernel_rfl)) ?_
      refine gaOne 10 rfl ?_
      refine gt0 (by exact rfl) ?_
      refine ⟨by (repeat (first | exact Suf.refl | exact Suf.nil | exact Suf.app _ _ | apply Suf.cons)), ?_⟩
      refine gaDone ?_
      exact ⟨(sb, q), trivial, .cons rfl (.cons rfl (.cons rfl (.cons rfl (.cons rfl .nil)))), by refine SubK.e ?_; (repeat (first | refine gk1 ?_ | refine gk2 ?_ | refine gk3 ?_ | refine gk0 ?_ | refine gk4 ?_)); trivial⟩
  rintro ⟨sb, q⟩ _
  dsimp only
  refine gg ?_
  refine glp (fun y : LnX => 0 ≤ y.u ∧ y.u ≤ n ∧ IsGrid y.on n n (mixS (prt F K) (fun _ _ => false) y.u 0)) (fun y => [(0, vi kd), (2, .slice B K.length d), (3, vi v), (5, .pointer (some ⟨bp, 0, none⟩)), (10, .pointer (some ⟨q, 0, none⟩)), (11, vi y.u)])
    (fun y => [osl TB vb (some ⟨sb, 0, none⟩) ((n : Int) * n).toNat y.on, blk q (graC n (some ⟨sb, 0, none⟩) ((n : Int) * n).toNat ((n : Int) * n).toNat) TGh, blk bp (graC n A on.length c) TGh]) (fun y => (n - y.u).toNat) ⟨0, 0, 0, List.replicate ((n : Int) * n).toNat false⟩ ⟨by simp, by simp, mix_zero (IsGrid.none m0)⟩ ?_
  rintro ⟨u, _, _, on2⟩ ⟨hu0, hu1, hg2⟩
  dsimp only at hu0 hu1 hg2 ⊢
  by_cases hu : u < n
  · obtain ⟨m4, m5⟩ := mul_small (x := u) (y := n) hu0 (by omega) (by omega) (by omega)
    refine gg ?_
    refine glp (fun y : LnX => 0 ≤ y.v ∧ y.v ≤ n ∧ IsGrid y.on n n (mixS (prt F K) (fun _ _ => false) u y.v)) (fun y => [(0, vi kd), (2, .slice B K.length d), (3, vi v), (5, .pointer (some ⟨bp, 0, none⟩)), (10, .pointer (some ⟨q, 0, none⟩)), (11, vi u), (12, vi y.v)])
      (fun y => [osl TB vb (some ⟨sb, 0, none⟩) ((n : Int) * n).toNat y.on, blk q (graC n (some ⟨sb, 0, none⟩) ((n : Int) * n).toNat ((n : Int) * n).toNat) TGh, blk bp (graC n A on.length c) TGh]) (fun y => (n - y.v).toNat) ⟨0, 0, 0, on2⟩ ⟨by simp, by simp, hg2⟩ ?_
    clear hg2 on2
    rintro ⟨_, x, _, on2⟩ ⟨hx0, hx1, hg2⟩
    dsimp only at hx0 hx1 hg2 ⊢
    by_cases hx : x < n
    · have hgl2 := hg2.len
      have lux := cell_lt hu0 hu hx0 hx
      have hux := hg.at_ u x hu0 hu hx0 hx
      obtain ⟨m6, m7⟩ := mul_small (x := x) (y := n) hx0 (by omega) (by omega) (by omega)
      by_cases h1 : 0 ≤ gt K u
      · by_cases h2 : 0 ≤ gt K x
        · have hset := mix_set (F := prt F K) hg2 hu0 hu hx0 hx (v := F u x) (by unfold prt; rw [decide_eq_true h1, decide_eq_true h2]; rfl)
          refine gg ?_
          refine gwa [osl TB vb (some ⟨sb, 0, none⟩) ((n : Int) * n).toNat on2] ?_
          (repeat (first | refine gk1 ?_ | refine gk2 ?_ | refine gk3 ?_ | refine gk0 ?_ | refine gk4 ?_))
          dsimp only [List.cons_append, List.nil_append]
          (first | refine ga1 0 (by exact rfl) (by exact rfl) ?_ | refine ga2 0 (by exact rfl) (by exact rfl) ?_ | refine ga3 0 (by exact rfl) (by exact rfl) ?_ | refine ga4 0 (by exact rfl) (by exact rfl) ?_)
          (first | refine ga1 1 (by exact rfl) (by exact rfl) ?_ | refine ga2 1 (by exact rfl) (by exact rfl) ?_ | refine ga3 1 (by exact rfl) (by exact rfl) ?_ | refine ga4 1 (by exact rfl) (by exact rfl) ?_)
          (first | refine ga1 2 (by exact rfl) (by exact rfl) ?_ | refine ga2 2 (by exact rfl) (by exact rfl) ?_ | refine ga3 2 (by exact rfl) (by exact rfl) ?_ | refine ga4 2 (by exact rfl) (by exact rfl) ?_)
          (first | refine ga1 3 (by exact rfl) (by exact rfl) ?_ | refine ga2 3 (by exact rfl) (by exact rfl) ?_ | refine ga3 3 (by exact rfl) (by exact rfl) ?_ | refine ga4 3 (by exact rfl) (by exact rfl) ?_)
          (first | refine ga1 4 (by exact rfl) (by exact rfl) ?_ | refine ga2 4 (by exact rfl) (by exact rfl) ?_ | refine ga3 4 (by exact rfl) (by exact rfl) ?_ | refine ga4 4 (by exact rfl) (by exact rfl) ?_)
          (first | refine ga1 5 (by exact rfl) (by exact rfl) ?_ | refine ga2 5 (by exact rfl) (by exact rfl) ?_ | refine ga3 5 (by exact rfl) (by exact rfl) ?_ | refine ga4 5 (by exact rfl) (by exact rfl) ?_)
          (first | refine ga1 6 (by exact rfl) (by exact rfl) ?_ | refine ga2 6 (by exact rfl) (by exact rfl) ?_ | refine ga3 6 (by exact rfl) (by exact rfl) ?_ | refine ga4 6 (by exact rfl) (by exact rfl) ?_)
          (first | refine ga1 7 (by exact rfl) (by exact rfl) ?_ | refine ga2 7 (by exact rfl) (by exact rfl) ?_ | refine ga3 7 (by exact rfl) (by exact rfl) ?_ | refine ga4 7 (by exact rfl) (by exact rfl) ?_)
          (first | refine ga1 8 (by exact rfl) (by exact rfl) ?_ | refine ga2 8 (by exact rfl) (by exact rfl) ?_ | refine ga3 8 (by exact rfl) (by exact rfl) ?_ | refine ga4 8 (by exact rfl) (by exact rfl) ?_)
          (first | refine ga1 9 (by exact rfl) (by exact rfl) ?_ | refine ga2 9 (by exact rfl) (by exact rfl) ?_ | refine ga3 9 (by exact rfl) (by exact rfl) ?_ | refine ga4 9 (by exact rfl) (by exact rfl) ?_)
          (first | refine ga1 10 (by exact rfl) (by exact rfl) ?_ | refine ga2 10 (by exact rfl) (by exact rfl) ?_ | refine ga3 10 (by exact rfl) (by exact rfl) ?_ | refine ga4 10 (by exact rfl) (by exact rfl) ?_)
          (first | refine ga1 11 (by exact rfl) (by exact rfl) ?_ | refine ga2 11 (by exact rfl) (by exact rfl) ?_ | refine ga3 11 (by exact rfl) (by exact rfl) ?_ | refine ga4 11 (by exact rfl) (by exact rfl) ?_)
          (first | refine ga1 12 (by exact rfl) (by exact rfl) ?_ | refine ga2 12 (by exact rfl) (by exact rfl) ?_ | refine ga3 12 (by exact rfl) (by exact rfl) ?_ | refine ga4 12 (by exact rfl) (by exact rfl) ?_)
          (first | refine ga1 13 (by exact rfl) (by exact rfl) ?_ | refine ga2 13 (by exact rfl) (by exact rfl) ?_ | refine ga3 13 (by exact rfl) (by exact rfl) ?_ | refine ga4 13 (by exact rfl) (by exact rfl) ?_)
          (first | refine ga1 14 (by exact rfl) (by exact rfl) ?_ | refine ga2 14 (by exact rfl) (by exact rfl) ?_ | refine ga3 14 (by exact rfl) (by exact rfl) ?_ | refine ga4 14 (by exact rfl) (by exact rfl) ?_)
          (first | refine ga1 15 (by exact rfl) (by exact rfl) ?_ | refine ga2 15 (by exact rfl) (by exact rfl) ?_ | refine ga3 15 (by exact rfl) (by exact rfl) ?_ | refine ga4 15 (by exact rfl) (by exact rfl) ?_)
          (first | refine ga1 16 (by exact rfl) (by exact rfl) ?_ | refine ga2 16 (by exact rfl) (by exact rfl) ?_ | refine ga3 16 (by exact rfl) (by exact rfl) ?_ | refine ga4 16 (by exact rfl) (by exact rfl) ?_)
          (first | refine ga1 17 (by exact rfl) (by exact rfl) ?_ | refine ga2 17 (by exact rfl) (by exact rfl) ?_ | refine ga3 17 (by exact rfl) (by exact rfl) ?_ | refine ga4 17 (by exact rfl) (by exact rfl) ?_)
          (first | refine ga1 18 (by exact rfl) (by exact rfl) ?_ | refine ga2 18 (by exact rfl) (by exact rfl) ?_ | refine ga3 18 (by exact rfl) (by exact rfl) ?_ | refine ga4 18 (by exact rfl) (by exact rfl) ?_)
          (first | refine ga1 19 (by exact rfl) (by exact rfl) ?_ | refine ga2 19 (by exact rfl) (by exact rfl) ?_ | refine ga3 19 (by exact rfl) (by exact rfl) ?_ | refine ga4 19 (by exact rfl) (by exact rfl) ?_)
          (first | refine ga1 20 (by exact rfl) (by exact rfl) ?_ | refine ga2 20 (by exact rfl) (by exact rfl) ?_ | refine ga3 20 (by exact rfl) (by exact rfl) ?_ | refine ga4 20 (by exact rfl) (by exact rfl) ?_)
          (first | refine ga1 21 (by exact rfl) (by exact rfl) ?_ | refine ga2 21 (by exact rfl) (by exact rfl) ?_ | refine ga3 21 (by exact rfl) (by exact rfl) ?_ | refine ga4 21 (by exact rfl) (by exact rfl) ?_)
          (first | refine ga1 22 (by exact rfl) (by exact rfl) ?_ | refine ga2 22 (by exact rfl) (by exact rfl) ?_ | refine ga3 22 (by exact rfl) (by exact rfl) ?_ | refine ga4 22 (by exact rfl) (by exact rfl) ?_)
          (first | refine ga1 23 (by exact rfl) (by exact rfl) ?_ | refine ga2 23 (by exact rfl) (by exact rfl) ?_ | refine ga3 23 (by exact rfl) (by exact rfl) ?_ | refine ga4 23 (by exact rfl) (by exact rfl) ?_)
          refine gaOne 24 rfl ?_
          refine gc10 (fun w hst => meet_c (n := n) (r := u) (x := x) w (oA.now hst) (by omega) (by omega) hu0 (by omega) hx0 (by omega) (by omega) _ hux) (by exact rfl) ?_
          refine ⟨by (repeat (first | exact Suf.refl | exact Suf.nil | exact Suf.app _ _ | apply Suf.cons)), ?_⟩
          (first | refine ga1 25 (by exact rfl) (by exact rfl) ?_ | refine ga2 25 (by exact rfl) (by exact rfl) ?_ | refine ga3 25 (by exact rfl) (by exact rfl) ?_ | refine ga4 25 (by exact rfl) (by exact rfl) ?_)
          (first | refine ga1 26 (by exact rfl) (by exact rfl) ?_ | refine ga2 26 (by exact rfl) (by exact rfl) ?_ | refine ga3 26 (by exact rfl) (by exact rfl) ?_ | refine ga4 26 (by exact rfl) (by exact rfl) ?_)
          refine gaOne 27 rfl ?_
          refine gt0 (by exact rfl) ?_
          refine ⟨by (repeat (first | exact Suf.refl | exact Suf.nil | exact Suf.app _ _ | apply Suf.cons)), ?_⟩
          refine gaDone ?_
          refine gg ?_
          exact gnx (⟨0, x + 1, 0, on2.set (u * n + x).toNat (F u x)⟩ : LnX) ⟨by dsimp only; omega, by dsimp only; omega, hset⟩ (by dsimp only; omega)
        · have hset := mix_set (F := prt F K) hg2 hu0 hu hx0 hx (v := false) (by unfold prt; rw [decide_eq_false h2]; simp)
          refine gg ?_
          refine gwa [osl TB vb (some ⟨sb, 0, none⟩) ((n : Int) * n).toNat on2] ?_
          (repeat (first | refine gk1 ?_ | refine gk2 ?_ | refine gk3 ?_ | refine gk0 ?_ | refine gk4 ?_))
          dsimp only [List.cons_append, List.nil_append]
          (first | refine ga1 0 (by exact rfl) (by exact rfl) ?_ | refine ga2 0 (by exact rfl) (by exact rfl) ?_ | refine ga3 0 (by exact rfl) (by exact rfl) ?_ | refine ga4 0 (by exact rfl) (by exact rfl) ?_)
          (first | refine ga1 1 (by exact rfl) (by exact rfl) ?_ | refine ga2 1 (by exact rfl) (by exact rfl) ?_ | refine ga3 1 (by exact rfl) (by exact rfl) ?_ | refine ga4 1 (by exact rfl) (by exact rfl) ?_)
          (first | refine ga1 2 (by exact rfl) (by exact rfl) ?_ | refine ga2 2 (by exact rfl) (by exact rfl) ?_ | refine ga3 2 (by exact rfl) (by exact rfl) ?_ | refine ga4 2 (by exact rfl) (by exact rfl) ?_)
          (first | refine ga1 3 (by exact rfl) (by exact rfl) ?_ | refine ga2 3 (by exact rfl) (by exact rfl) ?_ | refine ga3 3 (by exact rfl) (by exact rfl) ?_ | refine ga4 3 (by exact rfl) (by exact rfl) ?_)
          (first | refine ga1 4 (by exact rfl) (by exact rfl) ?_ | refine ga2 4 (by exact rfl) (by exact rfl) ?_ | refine ga3 4 (by exact rfl) (by exact rfl) ?_ | refine ga4 4 (by exact rfl) (by exact rfl) ?_)
          (first | refine ga1 5 (by exact rfl) (by exact rfl) ?_ | refine ga2 5 (by exact rfl) (by exact rfl) ?_ | refine ga3 5 (by exact rfl) (by exact rfl) ?_ | refine ga4 5 (by exact rfl) (by exact rfl) ?_)
          (first | refine ga1 6 (by exact rfl) (by exact rfl) ?_ | refine ga2 6 (by exact rfl) (by exact rfl) ?_ | refine ga3 6 (by exact rfl) (by exact rfl) ?_ | refine ga4 6 (by exact rfl) (by exact rfl) ?_)
          (first | refine ga1 7 (by exact rfl) (by exact rfl) ?_ | refine ga2 7 (by exact rfl) (by exact rfl) ?_ | refine ga3 7 (by exact rfl) (by exact rfl) ?_ | refine ga4 7 (by exact rfl) (by exact rfl) ?_)
          (first | refine ga1 8 (by exact rfl) (by exact rfl) ?_ | refine ga2 8 (by exact rfl) (by exact rfl) ?_ | refine ga3 8 (by exact rfl) (by exact rfl) ?_ | refine ga4 8 (by exact rfl) (by exact rfl) ?_)
          (first | refine ga1 9 (by exact rfl) (by exact rfl) ?_ | refine ga2 9 (by exact rfl) (by exact rfl) ?_ | refine ga3 9 (by exact rfl) (by exact rfl) ?_ | refine ga4 9 (by exact rfl) (by exact rfl) ?_)
          (first | refine ga1 10 (by exact rfl) (by exact rfl) ?_ | refine ga2 10 (by exact rfl) (by exact rfl) ?_ | refine ga3 10 (by exact rfl) (by exact rfl) ?_ | refine ga4 10 (by exact rfl) (by exact rfl) ?_)
          (first | refine ga1 11 (by exact rfl) (by exact rfl) ?_ | refine ga2 11 (by exact rfl) (by exact rfl) ?_ | refine ga3 11 (by exact rfl) (by exact rfl) ?_ | refine ga4 11 (by exact rfl) (by exact rfl) ?_)
          (first | refine ga1 12 (by exact rfl) (by exact rfl) ?_ | refine ga2 12 (by exact rfl) (by exact rfl) ?_ | refine ga3 12 (by exact rfl) (by exact rfl) ?_ | refine ga4 12 (by exact rfl) (by exact rfl) ?_)
          (first | refine ga1 13 (by exact rfl) (by exact rfl) ?_ | refine ga2 13 (by exact rfl) (by exact rfl) ?_ | refine ga3 13 (by exact rfl) (by exact rfl) ?_ | refine ga4 13 (by exact rfl) (by exact rfl) ?_)
          (first | refine ga1 14 (by exact rfl) (by exact rfl) ?_ | refine ga2 14 (by exact rfl) (by exact rfl) ?_ | refine ga3 14 (by exact rfl) (by exact rfl) ?_ | refine ga4 14 (by exact rfl) (by exact rfl) ?_)
          (first | refine ga1 15 (by exact rfl) (by exact rfl) ?_ | refine ga2 15 (by exact rfl) (by exact rfl) ?_ | refine ga3 15 (by exact rfl) (by exact rfl) ?_ | refine ga4 15 (by exact rfl) (by exact rfl) ?_)
          (first | refine ga1 16 (by exact rfl) (by exact rfl) ?_ | refine ga2 16 (by exact rfl) (by exact rfl) ?_ | refine ga3 16 (by exact rfl) (by exact rfl) ?_ | refine ga4 16 (by exact rfl) (by exact rfl) ?_)
          (first | refine ga1 17 (by exact rfl) (by exact rfl) ?_ | refine ga2 17 (by exact rfl) (by exact rfl) ?_ | refine ga3 17 (by exact rfl) (by exact rfl) ?_ | refine ga4 17 (by exact rfl) (by exact rfl) ?_)
          (first | refine ga1 18 (by exact rfl) (by exact rfl) ?_ | refine ga2 18 (by exact rfl) (by exact rfl) ?_ | refine ga3 18 (by exact rfl) (by exact rfl) ?_ | refine ga4 18 (by exact rfl) (by exact rfl) ?_)
          (first | refine ga1 19 (by exact rfl) (by exact rfl) ?_ | refine ga2 19 (by exact rfl) (by exact rfl) ?_ | refine ga3 19 (by exact rfl) (by exact rfl) ?_ | refine ga4 19 (by exact rfl) (by exact rfl) ?_)
          (first | refine ga1 20 (by exact rfl) (by exact rfl) ?_ | refine ga2 20 (by exact rfl) (by exact rfl) ?_ | refine ga3 20 (by exact rfl) (by exact rfl) ?_ | refine ga4 20 (by exact rfl) (by exact rfl) ?_)
          (first | refine ga1 21 (by exact rfl) (by exact rfl) ?_ | refine ga2 21 (by exact rfl) (by exact rfl) ?_ | refine ga3 21 (by exact rfl) (by exact rfl) ?_ | refine ga4 21 (by exact rfl) (by exact rfl) ?_)
          (first | refine ga1 22 (by exact rfl) (by exact rfl) ?_ | refine ga2 22 (by exact rfl) (by exact rfl) ?_ | refine ga3 22 (by exact rfl) (by exact rfl) ?_ | refine ga4 22 (by exact rfl) (by exact rfl) ?_)
          (first | refine ga1 23 (by exact rfl) (by exact rfl) ?_ | refine ga2 23 (by exact rfl) (by exact rfl) ?_ | refine ga3 23 (by exact rfl) (by exact rfl) ?_ | refine ga4 23 (by exact rfl) (by exact rfl) ?_)
          (first | refine ga1 24 (by exact rfl) (by exact rfl) ?_ | refine ga2 24 (by exact rfl) (by exact rfl) ?_ | refine ga3 24 (by exact rfl) (by exact rfl) ?_ | refine ga4 24 (by exact rfl) (by exact rfl) ?_)
          (first | refine ga1 25 (by exact rfl) (by exact rfl) ?_ | refine ga2 25 (by exact rfl) (by exact rfl) ?_ | refine ga3 25 (by exact rfl) (by exact rfl) ?_ | refine ga4 25 (by exact rfl) (by exact rfl) ?_)
          (first | refine ga1 26 (by exact rfl) (by exact rfl) ?_ | refine ga2 26 (by exact rfl) (by exact rfl) ?_ | refine ga3 26 (by exact rfl) (by exact rfl) ?_ | refine ga4 26 (by exact rfl) (by exact rfl) ?_)
          refine gaOne 27 rfl ?_
          refine gt0 (by exact rfl) ?_
          refine ⟨by (repeat (first | exact Suf.refl | exact Suf.nil | exact Suf.app _ _ | apply Suf.cons)), ?_⟩
          refine gaDone ?_
          refine gg ?_
          exact gnx (⟨0, x + 1, 0, on2.set (u * n + x).toNat false⟩ : LnX) ⟨by dsimp only; omega, by dsimp only; omega, hset⟩ (by dsimp only; omega)
      · have hset := mix_set (F := prt F K) hg2 hu0 hu hx0 hx (v := false) (by unfold prt; rw [decide_eq_false h1]; simp)
        refine gg ?_
        refine gwa [osl TB vb (some ⟨sb, 0, none⟩) ((n : Int) * n).toNat on2] ?_
        (repeat (first | refine gk1 ?_ | refine gk2 ?_ | refine gk3 ?_ | refine gk0 ?_ | refine gk4 ?_))
        dsimp only [List.cons_append, List.nil_append]
        (first | refine ga1 0 (by exact rfl) (by exact rfl) ?_ | refine ga2 0 (by exact rfl) (by exact rfl) ?_ | refine ga3 0 (by exact rfl) (by exact rfl) ?_ | refine ga4 0 (by exact rfl) (by exact rfl) ?_)
        (first | refine ga1 1 (by exact rfl) (by exact rfl) ?_ | refine ga2 1 (by exact rfl) (by exact rfl) ?_ | refine ga3 1 (by exact rfl) (by exact rfl) ?_ | refine ga4 1 (by exact rfl) (by exact rfl) ?_)
        (first | refine ga1 2 (by exact rfl) (by exact rfl) ?_ | refine ga2 2 (by exact rfl) (by exact rfl) ?_ | refine ga3 2 (by exact rfl) (by exact rfl) ?_ | refine ga4 2 (by exact rfl) (by exact rfl) ?_)
        (first | refine ga1 3 (by exact rfl) (by exact rfl) ?_ | refine ga2 3 (by exact rfl) (by exact rfl) ?_ | refine ga3 3 (by exact rfl) (by exact rfl) ?_ | refine ga4 3 (by exact rfl) (by exact rfl) ?_)
        (first | refine ga1 4 (by exact rfl) (by exact rfl) ?_ | refine ga2 4 (by exact rfl) (by exact rfl) ?_ | refine ga3 4 (by exact rfl) (by exact rfl) ?_ | refine ga4 4 (by exact rfl) (by exact rfl) ?_)
        (first | refine ga1 5 (by exact rfl) (by exact rfl) ?_ | refine ga2 5 (by exact rfl) (by exact rfl) ?_ | refine ga3 5 (by exact rfl) (by exact rfl) ?_ | refine ga4 5 (by exact rfl) (by exact rfl) ?_)
        (first | refine ga1 6 (by exact rfl) (by exact rfl) ?_ | refine ga2 6 (by exact rfl) (by exact rfl) ?_ | refine ga3 6 (by exact rfl) (by exact rfl) ?_ | refine ga4 6 (by exact rfl) (by exact rfl) ?_)
        (first | refine ga1 7 (by exact rfl) (by exact rfl) ?_ | refine ga2 7 (by exact rfl) (by exact rfl) ?_ | refine ga3 7 (by exact rfl) (by exact rfl) ?_ | refine ga4 7 (by exact rfl) (by exact rfl) ?_)
        (first | refine ga1 8 (by exact rfl) (by exact rfl) ?_ | refine ga2 8 (by exact rfl) (by exact rfl) ?_ | refine ga3 8 (by exact rfl) (by exact rfl) ?_ | refine ga4 8 (by exact rfl) (by exact rfl) ?_)
        (first | refine ga1 9 (by exact rfl) (by exact rfl) ?_ | refine ga2 9 (by exact rfl) (by exact rfl) ?_ | refine ga3 9 (by exact rfl) (by exact rfl) ?_ | refine ga4 9 (by exact rfl) (by exact rfl) ?_)
        (first | refine ga1 10 (by exact rfl) (by exact rfl) ?_ | refine ga2 10 (by exact rfl) (by exact rfl) ?_ | refine ga3 10 (by exact rfl) (by exact rfl) ?_ | refine ga4 10 (by exact rfl) (by exact rfl) ?_)
        (first | refine ga1 11 (by exact rfl) (by exact rfl) ?_ | refine ga2 11 (by exact rfl) (by exact rfl) ?_ | refine ga3 11 (by exact rfl) (by exact rfl) ?_ | refine ga4 11 (by exact rfl) (by exact rfl) ?_)
        (first | refine ga1 12 (by exact rfl) (by exact rfl) ?_ | refine ga2 12 (by exact rfl) (by exact rfl) ?_ | refine ga3 12 (by exact rfl) (by exact rfl) ?_ | refine ga4 12 (by exact rfl) (by exact rfl) ?_)
        (first | refine ga1 13 (by exact rfl) (by exact rfl) ?_ | refine ga2 13 (by exact rfl) (by exact rfl) ?_ | refine ga3 13 (by exact rfl) (by exact rfl) ?_ | refine ga4 13 (by exact rfl) (by exact rfl) ?_)
        (first | refine ga1 14 (by exact rfl) (by exact rfl) ?_ | refine ga2 14 (by exact rfl) (by exact rfl) ?_ | refine ga3 14 (by exact rfl) (by exact rfl) ?_ | refine ga4 14 (by exact rfl) (by exact rfl) ?_)
        (first | refine ga1 15 (by exact rfl) (by exact rfl) ?_ | refine ga2 15 (by exact rfl) (by exact rfl) ?_ | refine ga3 15 (by exact rfl) (by exact rfl) ?_ | refine ga4 15 (by exact rfl) (by exact rfl) ?_)
        (first | refine ga1 16 (by exact rfl) (by exact rfl) ?_ | refine ga2 16 (by exact rfl) (by exact rfl) ?_ | refine ga3 16 (by exact rfl) (by exact rfl) ?_ | refine ga4 16 (by exact rfl) (by exact rfl) ?_)
        (first | refine ga1 17 (by exact rfl) (by exact rfl) ?_ | refine ga2 17 (by exact rfl) (by exact rfl) ?_ | refine ga3 17 (by exact rfl) (by exact rfl) ?_ | refine ga4 17 (by exact rfl) (by exact rfl) ?_)
        (first | refine ga1 18 (by exact rfl) (by exact rfl) ?_ | refine ga2 18 (by exact rfl) (by exact rfl) ?_ | refine ga3 18 (by exact rfl) (by exact rfl) ?_ | refine ga4 18 (by exact rfl) (by exact rfl) ?_)
        (first | refine ga1 19 (by exact rfl) (by exact rfl) ?_ | refine ga2 19 (by exact rfl) (by exact rfl) ?_ | refine ga3 19 (by exact rfl) (by exact rfl) ?_ | refine ga4 19 (by exact rfl) (by exact rfl) ?_)
        (first | refine ga1 20 (by exact rfl) (by exact rfl) ?_ | refine ga2 20 (by exact rfl) (by exact rfl) ?_ | refine ga3 20 (by exact rfl) (by exact rfl) ?_ | refine ga4 20 (by exact rfl) (by exact rfl) ?_)
        (first | refine ga1 21 (by exact rfl) (by exact rfl) ?_ | refine ga2 21 (by exact rfl) (by exact rfl) ?_ | refine ga3 21 (by exact rfl) (by exact rfl) ?_ | refine ga4 21 (by exact rfl) (by exact rfl) ?_)
        (first | refine ga1 22 (by exact rfl) (by exact rfl) ?_ | refine ga2 22 (by exact rfl) (by exact rfl) ?_ | refine ga3 22 (by exact rfl) (by exact rfl) ?_ | refine ga4 22 (by exact rfl) (by exact rfl) ?_)
        (first | refine ga1 23 (by exact rfl) (by exact rfl) ?_ | refine ga2 23 (by exact rfl) (by exact rfl) ?_ | refine ga3 23 (by exact rfl) (by exact rfl) ?_ | refine ga4 23 (by exact rfl) (by exact rfl) ?_)
        (first | refine ga1 24 (by exact rfl) (by exact rfl) ?_ | refine ga2 24 (by exact rfl) (by exact rfl) ?_ | refine ga3 24 (by exact rfl) (by exact rfl) ?_ | refine ga4 24 (by exact rfl) (by exact rfl) ?_)
        (first | refine ga1 25 (by exact rfl) (by exact rfl) ?_ | refine ga2 25 (by exact rfl) (by exact rfl) ?_ | refine ga3 25 (by exact rfl) (by exact rfl) ?_ | refine ga4 25 (by exact rfl) (by exact rfl) ?_)
        (first | refine ga1 26 (by exact rfl) (by exact rfl) ?_ | refine ga2 26 (by exact rfl) (by exact rfl) ?_ | refine ga3 26 (by exact rfl) (by exact rfl) ?_ | refine ga4 26 (by exact rfl) (by exact rfl) ?_)
        refine gaOne 27 rfl ?_
        refine gt0 (by exact rfl) ?_
        refine ⟨by (repeat (first | exact Suf.refl | exact Suf.nil | exact Suf.app _ _ | apply Suf.cons)), ?_⟩
        refine gaDone ?_
        refine gg ?_
        exact gnx (⟨0, x + 1, 0, on2.set (u * n + x).toNat false⟩ : LnX) ⟨by dsimp only; omega, by dsimp only; omega, hset⟩ (by dsimp only; omega)
    · obtain rfl : x = n := by omega
      refine gg ?_
      exact gnx (⟨u + 1, 0, 0, on2⟩ : LnX) ⟨by dsimp only; omega, by dsimp only; omega, mix_next hg2⟩ (by dsimp only; omega)
  obtain rfl : u = n := by omega
  have hg2 := mix_end hg2
  have hgl2 := hg2.len
  have hl2 : on2.length = ((n : Int) * n).toNat := by omega
  have hevP : ∀ a b, prt F K a b = true → prt F K b a = true := fun a b h => by
    rw [prt_iff] at h ⊢
    exact ⟨h.2.1, h.1, hev _ _ h.2.2⟩
  by_cases hk4 : kd = 4
  · have hb4 : b = true ↔ ¬ StrP (prt F K) n K v := by
      rw [hb]
      exact ⟨fun h => h.2.1 hk4, fun h => ⟨hno, fun _ => h, fun h5 => by omega⟩⟩
    by_cases hs : StrP (prt F K) n K v
    · obtain rfl : b = false := by
        cases b with
        | false => rfl
        | true => exact (hb4.1 rfl hs).elim
      refine gg ?_
      refine gc1 (fun w hst => struck_c (n := n) (v := v) w hl2 (grd hst) hg2 hn (oK.now hst) rfl hl v0 v1 true (by simp [hs])) (by exact rfl) ?_
      refine gg ?_
      exact grt () trivial
    · obtain rfl : b = true := hb4.2 hs
      refine gg ?_
      refine gc1 (fun w hst => struck_c (n := n) (v := v) w hl2 (grd hst) hg2 hn (oK.now hst) rfl hl v0 v1 false (by simp [hs])) (by exact rfl) ?_
      refine gg ?_
      exact grt () trivial
  refine gg ?_
  refine glp (fun k : Int => 0 ≤ k ∧ k ≤ n ∧ (kd ≠ 5 → k = 0) ∧ ∀ u : Int, 0 ≤ u → u < k → prt F K u v = true → NoCore (prt F K) n K (gt K u) (gt K v)) (fun k => [(0, vi kd), (2, .slice B K.length d), (3, vi v), (5, .pointer (some ⟨bp, 0, none⟩)), (10, .pointer (some ⟨q, 0, none⟩)), (13, vi k)])
    (fun _ => [osl TB vb (some ⟨sb, 0, none⟩) ((n : Int) * n).toNat on2, blk q (graC n (some ⟨sb, 0, none⟩) ((n : Int) * n).toNat ((n : Int) * n).toNat) TGh, blk bp (graC n A on.length c) TGh]) (fun k => (n - k).toNat) 0 ⟨by omega, by omega, fun _ => rfl, fun q q0 q1 => by omega⟩ ?_
  rintro k ⟨hk0, hk1, hkz, hnk⟩
  by_cases hk5 : kd = 5
  · by_cases hk : k < n
    · have hkv := hg2.at_ k v hk0 hk v0 v1
      have lkv := cell_lt hk0 hk v0 v1
      have nxt : (prt F K k v = true → NoCore (prt F K) n K (gt K k) (gt K v)) → ∀ u : Int, 0 ≤ u → u < k + 1 → prt F K u v = true → NoCore (prt F K) n K (gt K u) (gt K v) := fun h q q0 q1 => by
        by_cases e : q = k
        · rw [e]; exact h
        · exact hnk q q0 (by omega)
      cases hF : prt F K k v with
      | false =>
        rw [hF] at hkv
        refine gg ?_
        refine wc_quiet mixed (by kernel_rfl) ?_
        refine gg ?_
        refine gc2 (fun w hst => meetN_c (n := n) (r := k) (x := v) w hl2 (grd hst) (by omega) (by omega) hk0 (by omega) v0 (by omega) (by omega) _ hkv) (by exact rfl) ?_
        refine gg ?_
        exact gnx (k + 1) ⟨by omega, by omega, fun h => (h hk5).elim, nxt fun h => by rw [hF] at h; cases h⟩ (by omega)
      | true =>
        rw [hF] at hkv
        by_cases hc : NoCore (prt F K) n K (gt K k) (gt K v)
        · refine gg ?_
          refine wc_quiet mixed (by kernel_rfl) ?_
          refine gg ?_
          refine gc2 (fun w hst => meetN_c (n := n) (r := k) (x := v) w hl2 (grd hst) (by omega) (by omega) hk0 (by omega) v0 (by omega) (by omega) _ hkv) (by exact rfl) ?_
          refine gg ?_
          refine gc2 (fun w hst => forest_c (n := n) (c1 := gt K k) (d1 := gt K v) w hl2 (grd hst) hg2 hn (oK.now hst) rfl hl hevP true (by simp [hc])) (by exact rfl) ?_
          refine gg ?_
          exact gnx (k + 1) ⟨by omega, by omega, fun h => (h hk5).elim, nxt fun _ => hc⟩ (by omega)
        · obtain rfl := fals fun h => hc (h.2.2 hk5 k hk0 hk hF)
          refine gg ?_
          refine wc_quiet mixed (by kernel_rfl) ?_
          refine gg ?_
          refine gc2 (fun w hst => meetN_c (n := n) (r := k) (x := v) w hl2 (grd hst) (by omega) (by omega) hk0 (by omega) v0 (by omega) (by omega) _ hkv) (by exact rfl) ?_
          refine gg ?_
          refine gc2 (fun w hst => forest_c (n := n) (c1 := gt K k) (d1 := gt K v) w hl2 (grd hst) hg2 hn (oK.now hst) rfl hl hevP false (by simp [hc])) (by exact rfl) ?_
          refine gg ?_
          exact grt () trivial
    · obtain rfl : k = n := by omega
      obtain rfl : b = true := hb.2 ⟨hno, fun h => (hk4 h).elim, fun _ => hnk⟩
      refine gg ?_
      exact grt () trivial
  · obtain rfl := hkz hk5
    obtain rfl : b = true := hb.2 ⟨hno, fun h => (hk4 h).elim, fun h => (hk5 h).elim⟩
    refine gg ?_
    exact grt () trivial
end
section
variable {p : Pat} {x : PA} {kd : Int} {A B : Option Addr} {c d : Nat} {l cs : List Int}
theorem greedyA_c (w : World) (hp : RdP w x p) (hl : Rds vi w A c l) :
    Calls Try.prog 21 [vi kd, pvl x p, .slice A l.length c].toArray w (Ret [] (fun y : RX => .tuple #[.slice y.A y.xs.length y.c, vi (numS (grL kd p l)), vi (grE kd p l)]) (fun y => [osl TI vi y.A y.c y.xs]) (fun y => y.xs = grL kd p l) w) := by
  have op := hp.old
  by_cases he : thE kd p = 0
  · obtain ⟨hm, hk⟩ := thE_zero he
    have h0 := hm.toHead.r0
    by_cases ho : IsOrd l (thN kd p)
    · have hL : grL kd p l = greedyS kd (thF kd p) (thN kd p).toNat l := by unfold grL; rw [if_neg (not_not_intro he), if_neg (not_not_intro ho)]
      have hE : grE kd p l = 0 := by unfold grE; rw [if_neg (not_not_intro he), if_neg (not_not_intro ho)]
      rw [hL, hE]
      rcases hk with ⟨hk, hg⟩ | hk | hk
      · have k2 : kd ≠ 2 := by omega
        have k3 : kd ≠ 3 := by omega
        rw [show thN kd p = p.rows from if_neg k2] at ho ⊢
        rw [show thF kd p = hasB p from (if_neg k2).trans (if_neg k3)]
        by_cases h5 : kd = 5
        · exact (greedy_acy (n := p.rows.toNat) (R := fun _ => []) (yf := fun _ => x) w h5 hm (by omega) hg.1.2.1 (fun a b h => by rw [← hg.sym]; exact h) hg.irr hl (by rw [show ((p.rows.toNat : Nat) : Int) = p.rows by omega]; exact ho)
            (fun w' ho' => ordG_c w' ⟨hp.s.only ho', hp.c.only ho'⟩ (hl.only ho') hm hg hk ho) (fun t => RdB.nil op)).mono fun e w' h => ret_val h fun y hy => ⟨by rw [hy], hy⟩
        · exact (greedy_ok (n := p.rows.toNat) (R := fun _ => []) (yf := fun _ => x) w h5 hm (by omega) hg.1.2.1 (fun a b h => by rw [← hg.sym]; exact h) hg.irr hl (by rw [show ((p.rows.toNat : Nat) : Int) = p.rows by omega]; exact ho)
            (fun w' ho' => ordG_c w' ⟨hp.s.only ho', hp.c.only ho'⟩ (hl.only ho') hm hg hk ho) (fun t => RdB.nil op)).mono fun e w' h => ret_val h fun y hy => ⟨by rw [hy], hy⟩
      · obtain ⟨f1, f2, f3, f4⟩ := cols_facts hm
        have hg := gr_cols hm
        have e1 : thN kd p = (colsS p).1.rows := by rw [f2]; exact if_pos hk
        have h0' := f1.toHead.r0
        rw [e1] at ho ⊢
        rw [show thF kd p = hasB (colsS p).1 by rw [f4]; exact if_pos hk]
        exact (greedy_ok (n := (colsS p).1.rows.toNat) (R := fun t => PatR t.y (colsS p).1) (yf := fun t => t.y) w (by omega) f1 (by omega) (by omega) (fun a b h => by rw [← hg.sym]; exact h) hg.irr hl (by rw [show (((colsS p).1.rows.toNat : Nat) : Int) = (colsS p).1.rows by omega]; exact ho)
          (fun w' ho' => ordcols_c w' ⟨hp.s.only ho', hp.c.only ho'⟩ (hl.only ho') hm hk ho) (fun t => RdB.own)).mono fun e w' h => ret_val h fun y hy => ⟨by rw [hy], hy⟩
      · obtain ⟨f1, f2, f3, f4⟩ := rows_facts hm
        have hg := gr_rows hm
        have e1 : thN kd p = (rowsS p).1.rows := by rw [f2]; exact if_neg (by omega)
        have h0' := f1.toHead.r0
        rw [e1] at ho ⊢
        rw [show thF kd p = hasB (rowsS p).1 by rw [f4]; exact (if_neg (by omega)).trans (if_pos hk)]
        exact (greedy_ok (n := (rowsS p).1.rows.toNat) (R := fun t => PatR t.y (rowsS p).1) (yf := fun t => t.y) w (by omega) f1 (by omega) (by omega) (fun a b h => by rw [← hg.sym]; exact h) hg.irr hl (by rw [show (((rowsS p).1.rows.toNat : Nat) : Int) = (rowsS p).1.rows by omega]; exact ho)
          (fun w' ho' => ordrows_c w' ⟨hp.s.only ho', hp.c.only ho'⟩ (hl.only ho') hm hk ho) (fun t => RdB.own)).mono fun e w' h => ret_val h fun y hy => ⟨by rw [hy], hy⟩
    · have hL : grL kd p l = [] := by unfold grL; rw [if_neg (not_not_intro he), if_pos ho]
      have hE : grE kd p l = 182 := by unfold grE; rw [if_neg (not_not_intro he), if_pos ho]
      rw [hL, hE]
      refine greedyX_c w hp hl 182 (by decide) fun w' hp' hl' => ?_
      rcases hk with ⟨hk, hg⟩ | hk | hk
      · rw [show thN kd p = p.rows from if_neg (by omega)] at ho
        exact ordNG_c w' hp' hl' hm hg hk ho
      · rw [show thN kd p = (colsS p).1.rows by rw [(cols_facts hm).2.1]; exact if_pos hk] at ho
        exact ordNcols_c w' hp' hl' hm hk ho
      · rw [show thN kd p = (rowsS p).1.rows by rw [(rows_facts hm).2.1]; exact if_neg (by omega)] at ho
        exact ordNrows_c w' hp' hl' hm hk ho
  · have hL : grL kd p l = [] := by unfold grL; rw [if_pos he]
    have hE : grE kd p l = thE kd p := by unfold grE; rw [if_pos he]
    rw [hL, hE]
    exact greedyX_c w hp hl (thE kd p) he fun w' hp' hl' => ordE_c w' hp' he
theorem thF_gr (he : thE kd p = 0) : ∃ g : Pat, IsGr g ∧ g.rows = thN kd p ∧ hasB g = thF kd p := by
  obtain ⟨hm, ⟨hk, hg⟩ | rfl | rfl⟩ := thE_zero he
  · exact ⟨p, hg, (if_neg (by omega)).symm, ((if_neg (by omega)).trans (if_neg (by omega))).symm⟩
  · obtain ⟨f1, f2, f3, f4⟩ := cols_facts hm
    exact ⟨_, gr_cols hm, f2.trans (if_pos rfl).symm, f4.trans (if_pos rfl).symm⟩
  · obtain ⟨f1, f2, f3, f4⟩ := rows_facts hm
    exact ⟨_, gr_rows hm, f2.trans (if_neg (by decide)).symm, f4.trans ((if_neg (by decide)).trans (if_pos rfl)).symm⟩
theorem refGreedyE_c (w : World) (hp : RdP w x p) (he : thE kd p ≠ 0) :
    Calls Try.prog 23 [vi kd, pvl x p, .slice A l.length c].toArray w (Ret [] (fun y : RX => .tuple #[.slice y.A y.xs.length y.c, vi 0, vi (thE kd p)]) (fun y => [osl TI vi y.A y.c y.xs]) (fun y => y.xs = []) w) := by
  have op := hp.old
  have hth : ∀ w, RdP w x p → _ := fun w h => things_c (p := p) (x := x) (k := kd) w h
  rw [if_neg he] at hth
  generalize thE kd p = e at *
  unfold pvl patV at *
  refine calls_wc [] [] [.tmp 6, .tmp 7, .tmp 8] (fun y : RX => [.slice y.A y.xs.length y.c, vi 0, vi e]) Try.func23 rfl rfl (fun _ => rfl) Try.ntmps23 rfl (Own.nil w) rfl ?_
  refine gnil ?_
  refine gg ?_
  refine wl_op (ok_box rfl rfl rfl rfl rfl ?_); intro bp
  refine gg ?_
  refine gc3 [] (fun w hst hst1 => hth w (op.now hst)) (by exact rfl) ?_
  (repeat (first | refine gk1 ?_ | refine gk2 ?_ | refine gk3 ?_ | refine gk0 ?_ | refine gk4 ?_))
  rintro y _
  dsimp only [List.cons_append, List.nil_append]
  refine gg ?_
  refine wl_op (ok_alloc rfl rfl rfl rfl (ze_of rfl) ?_); intro q8
  refine gg ?_
  exact grt (⟨none, 0, []⟩ : RX) rfl
theorem refGreedyN_c (w : World) (hp : RdP w x p) (hl : Rds vi w A c l) (he : thE kd p = 0) (h0 : 0 ≤ thN kd p) (h1 : thN kd p ≤ 128) (ho : ¬ IsOrd l (thN kd p)) :
    Calls Try.prog 23 [vi kd, pvl x p, .slice A l.length c].toArray w (Ret [] (fun y : RX => .tuple #[.slice y.A y.xs.length y.c, vi 0, vi 182]) (fun y => [osl TI vi y.A y.c y.xs]) (fun y => y.xs = []) w) := by
  have op := hp.old
  have oL := hl.old
  have hth : ∀ w, RdP w x p → _ := fun w h => things_c (p := p) (x := x) (k := kd) w h
  rw [if_pos he, he] at hth
  generalize thN kd p = N at *
  unfold pvl patV at *
  refine calls_wc [] [] [.tmp 6, .tmp 7, .tmp 8] (fun y : RX => [.slice y.A y.xs.length y.c, vi 0, vi 182]) Try.func23 rfl rfl (fun _ => rfl) Try.ntmps23 rfl (Own.nil w) rfl ?_
  refine gnil ?_
  refine gg ?_
  refine wl_op (ok_box rfl rfl rfl rfl rfl ?_); intro bp
  refine gg ?_
  refine gc3 [] (fun w hst hst1 => hth w (op.now hst)) (by exact rfl) ?_
  (repeat (first | refine gk1 ?_ | refine gk2 ?_ | refine gk3 ?_ | refine gk0 ?_ | refine gk4 ?_))
  rintro y _
  dsimp only [List.cons_append, List.nil_append]
  refine gg ?_
  refine wl_op (ok_alloc rfl rfl rfl rfl (ze_of rfl) ?_); intro q8
  refine gg ?_
  refine gc1 (fun w hst => isOrder_c w (oL.now hst) h0 h1 false (by simp [ho])) (by exact rfl) ?_
  refine gg ?_
  exact grt (⟨none, 0, []⟩ : RX) rfl
theorem refGreedy_ok {n : Nat} (w : World) (hp : RdP w x p) (hl : Rds vi w A c l) (he : thE kd p = 0) (hN : thN kd p = n) (h1 : n ≤ 128) (ho : IsOrd l n) :
    Calls Try.prog 23 [vi kd, pvl x p, .slice A l.length c].toArray w (Ret [] (fun y : RX => .tuple #[.slice y.A y.xs.length y.c, vi (numS y.xs), vi 0]) (fun y => [osl TI vi y.A y.c y.xs]) (fun y => y.xs = greedyS kd (thF kd p) n l) w) := by
  have op := hp.old
  have oL := hl.old
  have hll := ho.len
  have hth : ∀ w, RdP w x p → _ := fun w h => things_c (p := p) (x := x) (k := kd) w h
  rw [if_pos he, he, hN] at hth
  obtain ⟨g0, hgr, hgn, hgF⟩ := thF_gr he
  have hon : On n (thF kd p) := by rw [← hgF, ← hN, ← hgn]; exact hasB_on hgr.1.1 hgr.1.2.1
  have hev : ∀ a b, thF kd p a b = true → thF kd p b a = true := fun a b h => by rw [← hgF] at h ⊢; rw [← hgr.sym]; exact h
  have hirr : ∀ u, thF kd p u u = false := by rw [← hgF]; exact hgr.irr
  clear hgr hgn hgF g0
  generalize thF kd p = F at *
  unfold pvl patV at *
  refine calls_wc [] [] [.tmp 6, .tmp 7, .tmp 8] (fun y : RX => [.slice y.A y.xs.length y.c, vi (numS y.xs), vi 0]) Try.func23 rfl rfl (fun _ => rfl) Try.ntmps23 rfl (Own.nil w) rfl ?_
  refine gg ?_
  refine wl_op (ok_box rfl rfl rfl rfl rfl ?_); intro bp
  refine gg ?_
  refine gc3 [] (fun w hst hst1 => hth w (op.now hst)) (by exact rfl) ?_
  (repeat (first | refine gk1 ?_ | refine gk2 ?_ | refine gk3 ?_ | refine gk0 ?_ | refine gk4 ?_))
  rintro ⟨A1, c1, on1⟩ ⟨hg, _⟩
  have hg := hg rfl
  dsimp only [List.cons_append, List.nil_append] at hg ⊢
  have hgl := hg.len
  refine gg ?_
  refine wl_op (ok_alloc rfl rfl rfl rfl (ze_of rfl) ?_); intro q8
  refine gg ?_
  refine gc1 (fun w hst => isOrder_c (n := (n : Int)) w (oL.now hst) (by omega) (by omega) true (by simp [ho])) (by exact rfl) ?_
  refine gg ?_
  refine gmk vi 0 rfl rfl rfl rfl rfl rfl rfl rfl rfl rfl rfl (by omega) (Int.le_refl _) (by omega) (by omega) ?_
  intro cb
  rw [show ((n : Int)).toNat = n by omega]
  refine gg ?_
  refine glp (fun s : GrX => 0 ≤ s.k ∧ s.k ≤ n ∧ s.cs.length = n ∧ ∀ i, 0 ≤ i → i < s.k → gt s.cs i = -1) (fun s => [(0, vi kd), (2, .slice A l.length c), (9, .pointer (some ⟨q8, 0, none⟩)), (11, .slice (some ⟨cb, 0, none⟩) n n), (12, vi s.k)])
    (fun s => [osl TI vi (some ⟨cb, 0, none⟩) n s.cs, blk q8 (graC n A1 on1.length c1) TGh, osl TB vb A1 c1 on1]) (fun s => (n - s.k).toNat) ⟨0, List.replicate n 0, []⟩ ⟨by simp, by simp, by simp, fun i i0 i1 => by dsimp only at i1; omega⟩ ?_
  rintro ⟨j, cs, _⟩ ⟨hj0, hj1, hcl, hneg⟩
  dsimp only at hj0 hj1 hcl hneg ⊢
  by_cases hj : j < n
  · refine gg ?_
    exact gnx (⟨j + 1, cs.set j.toNat (-1), []⟩ : GrX) ⟨by dsimp only; omega, by dsimp only; omega, by dsimp only; rw [List.length_set]; exact hcl, fun i i0 i1 => by
      dsimp only at i1 ⊢
      rw [gt_setI hj0 (by omega) i0]
      by_cases e : i = j
      · rw [if_pos e]
      · rw [if_neg e]; exact hneg i i0 (by omega)⟩ (by dsimp only; omega)
  obtain rfl : j = n := by omega
  obtain rfl : cs = List.replicate n (-1) := ext_gt (by simpa using hcl) fun i i0 i1 => by
    rw [hneg i i0 (by omega), gt_elem i0 (by simp; omega)]; simp
  clear hneg hj0 hj1 hcl hj
  refine gg ?_
  refine glp (fun s : GrX => 0 ≤ s.k ∧ s.k ≤ n ∧ s.cs = greedyS kd F n (l.take s.k.toNat) ∧ GI F n (l.take s.k.toNat) s.cs ∧ (kd = 5 → Acy F n s.cs)) (fun s => [(0, vi kd), (2, .slice A l.length c), (9, .pointer (some ⟨q8, 0, none⟩)), (11, .slice (some ⟨cb, 0, none⟩) n n), (13, vi (numS s.cs)), (14, vi s.k)])
    (fun s => [osl TI vi (some ⟨cb, 0, none⟩) n s.cs, blk q8 (graC n A1 on1.length c1) TGh, osl TB vb A1 c1 on1]) (fun s => (n - s.k).toNat) ⟨0, List.replicate n (-1), []⟩ ⟨by simp, by simp, rfl, GI.zero hon, fun _ => Acy.zero⟩ ?_ (hT := .cons rfl (.cons rfl (.cons rfl (.cons rfl (.cons (look_to rfl (by rw [numS_blank]; rfl)) (.cons rfl .nil))))))
  rintro ⟨j, cs, _⟩ ⟨hj0, hj1, hcs, hGI, hacy⟩
  dsimp only at hj0 hj1 hcs hGI hacy ⊢
  have hcl := hGI.len
  have hrn : numS cs ≤ n ∧ 0 ≤ numS cs := by
    have := numS_rng cs (m := n) (fun e he => by
      obtain ⟨u, u0, u1, h⟩ := mem_gt he
      by_cases hu : u ∈ l.take j.toNat
      · have := hGI.on u u0 (by omega) hu; omega
      · have := hGI.off u u0 (by omega) hu; omega) (by omega)
    omega
  by_cases hj : j < n
  · have hv := ho.rng j hj0 hj
    have htk : (l.take j.toNat).length = j.toNat := by rw [List.length_take]; omega
    have hnin : gt l j ∉ l.take j.toNat := fun hmem => by
      obtain ⟨i, i0, i1, e⟩ := mem_gt hmem
      rw [htk] at i1
      have e2 : gt (l.take j.toNat) i = gt l i := by
        rw [gt_elem i0 (by rw [htk]; exact i1), gt_elem i0 (by omega)]
        simp
      rw [e2] at e
      have := ho.inj i j i0 (by omega) hj0 hj e
      omega
    have hnext : l.take (j + 1).toNat = l.take j.toNat ++ [gt l j] := by
      rw [show (j + 1).toNat = j.toNat + 1 by omega, List.take_add_one, List.getElem?_eq_getElem (by omega), gt_elem hj0 (by omega)]
      rfl
    obtain ⟨c0, c00, c01, hfr⟩ := hGI.fresh hon
    rw [htk] at c01
    have hfr := hfr kd (gt l j)
    have hcv := hGI.off (gt l j) hv.1 hv.2 hnin
    refine gg ?_
    generalize hvv : gt l j = v at hv hnin hnext hfr hcv ⊢
    have hsl : ∀ d : Int, (cs.set v.toNat d).length = n := fun d => by rw [List.length_set]; exact hcl
    have hsg : ∀ d : Int, gt (cs.set v.toNat d) v = d := fun d => by rw [gt_setI hv.1 (by omega) hv.1, if_pos rfl]
    have hss : ∀ d e : Int, (cs.set v.toNat d).set v.toNat e = cs.set v.toNat e := fun d e => List.set_set _
    refine glp (fun d : Int => 0 ≤ d ∧ d ≤ c0 ∧ ∀ e : Int, 0 ≤ e → e < d → badB kd F n cs v e = true) (fun d => [(0, vi kd), (2, .slice A l.length c), (9, .pointer (some ⟨q8, 0, none⟩)), (11, .slice (some ⟨cb, 0, none⟩) n n), (13, vi (numS cs)), (14, vi j), (15, vi v)])
      (fun d => [osl TI vi (some ⟨cb, 0, none⟩) n (cs.set v.toNat d), blk q8 (graC n A1 on1.length c1) TGh, osl TB vb A1 c1 on1]) (fun d => (c0 - d).toNat) 0 ⟨by omega, by omega, fun e e0 e1 => by omega⟩ ?_
    rintro d ⟨hd0, hd1, hdb⟩
    have hsd := hsl d
    have hrb := right_bad (kd := kd) (F := F) hon hev hirr hGI hv.1 hv.2 hnin hd0 hacy
    cases hbd : badB kd F n cs v d with
    | true =>
      have hne : d ≠ c0 := fun e => by rw [e, hfr] at hbd; cases hbd
      rw [hbd] at hrb
      refine gg ?_
      refine gc1 (fun w hst => right_c (F := F) (n := n) (kd := kd) (K := cs.set v.toNat d) w rfl (grd hst) hg h1 (grd hst) hsd hsd hev hv.1 hv.2 false (by simp [hrb])) (by exact rfl) ?_
      refine gg ?_
      rw [hsg]
      refine gg ?_
      rw [hss]
      exact gnx (d + 1) ⟨by omega, by omega, fun e e0 e1 => by
        by_cases h : e = d
        · rw [h]; exact hbd
        · exact hdb e e0 (by omega)⟩ (by omega)
    | false =>
      have hlc : leastC (badB kd F n cs v) (n + 1) 0 = d := leastC_eq c00 (by omega) hfr hd0 hbd hdb
      have hbN : badN F n cs v d = false := by
        unfold badB at hbd
        exact (Bool.or_eq_false_iff.1 hbd).1
      have hGI2 := hGI.next hon hev hirr hv.1 hv.2 hnin (by rw [htk]; omega) hd0 (by omega) hbN
      have hcs2 : cs.set v.toNat d = greedyS kd F n (l.take (j + 1).toNat) := by
        rw [hnext]
        unfold greedyS
        rw [greedyL_snoc]
        unfold greedyS at hcs
        rw [← hcs, hlc]
      have hacy2 : kd = 5 → Acy F n (cs.set v.toNat d) := fun hk => Acy.next hon hev hirr hGI hv.1 hv.2 (hacy hk) hbN (by
        unfold badB at hbd
        rw [decide_eq_true hk, Bool.true_and] at hbd
        exact (Bool.or_eq_false_iff.1 (Bool.or_eq_false_iff.1 hbd).2).2)
      have hnum : numS (cs.set v.toNat d) = max (numS cs) (d + 1) := numS_set (by omega) (by rw [List.getElem?_eq_getElem (by omega)]; rw [gt_elem hv.1 (by omega)] at hcv; rw [hcv]) hd0
      rw [hbd] at hrb
      have hg2 := hsg d
      by_cases hgt : numS cs < d + 1
      · refine gg ?_
        refine gc1 (fun w hst => right_c (F := F) (n := n) (kd := kd) (K := cs.set v.toNat d) w rfl (grd hst) hg h1 (grd hst) hsd hsd hev hv.1 hv.2 true (by simp [hrb])) (by exact rfl) ?_
        refine gg ?_
        rw [hsg]
        refine gg ?_
        rw [show d + 1 = numS (cs.set v.toNat d) by omega]
        exact gnx (⟨j + 1, cs.set v.toNat d, []⟩ : GrX) ⟨by dsimp only; omega, by dsimp only; omega, hcs2, by dsimp only; rw [hnext]; exact hGI2, hacy2⟩ (by dsimp only; omega)
      · refine gg ?_
        refine gc1 (fun w hst => right_c (F := F) (n := n) (kd := kd) (K := cs.set v.toNat d) w rfl (grd hst) hg h1 (grd hst) hsd hsd hev hv.1 hv.2 true (by simp [hrb])) (by exact rfl) ?_
        refine gg ?_
        rw [show numS cs = numS (cs.set v.toNat d) by omega]
        exact gnx (⟨j + 1, cs.set v.toNat d, []⟩ : GrX) ⟨by dsimp only; omega, by dsimp only; omega, hcs2, by dsimp only; rw [hnext]; exact hGI2, hacy2⟩ (by dsimp only; omega)
  obtain rfl : j = n := by omega
  rw [Int.toNat_natCast, List.take_of_length_le (by omega)] at hcs
  refine gg ?_
  exact grt (⟨some ⟨cb, 0, none⟩, n, cs⟩ : RX) hcs (h1 := ⟨.t (look_to rfl (by rw [hcl])), .t rfl, .t rfl, trivial⟩)
theorem refGreedy_c (w : World) (hp : RdP w x p) (hl : Rds vi w A c l) :
    Calls Try.prog 23 [vi kd, pvl x p, .slice A l.length c].toArray w (Ret [] (fun y : RX => .tuple #[.slice y.A y.xs.length y.c, vi (numS (grL kd p l)), vi (grE kd p l)]) (fun y => [osl TI vi y.A y.c y.xs]) (fun y => y.xs = grL kd p l) w) := by
  by_cases he : thE kd p = 0
  · obtain ⟨hm, hk⟩ := thE_zero he
    obtain ⟨h1, h2, h3, h4, h5, h6, h7, h8⟩ := hm.toHead
    have hN : 0 ≤ thN kd p ∧ thN kd p ≤ 128 := by unfold thN; split <;> omega
    by_cases ho : IsOrd l (thN kd p)
    · have hL : grL kd p l = greedyS kd (thF kd p) (thN kd p).toNat l := by unfold grL; rw [if_neg (not_not_intro he), if_neg (not_not_intro ho)]
      have hE : grE kd p l = 0 := by unfold grE; rw [if_neg (not_not_intro he), if_neg (not_not_intro ho)]
      rw [hL, hE]
      exact (refGreedy_ok (n := (thN kd p).toNat) w hp hl he (by omega) (by omega) (by rw [show (((thN kd p).toNat : Nat) : Int) = thN kd p by omega]; exact ho)).mono fun e w' h => ret_val h fun y hy => ⟨by rw [hy], hy⟩
    · have hL : grL kd p l = [] := by unfold grL; rw [if_neg (not_not_intro he), if_pos ho]
      have hE : grE kd p l = 182 := by unfold grE; rw [if_neg (not_not_intro he), if_pos ho]
      rw [hL, hE]
      exact refGreedyN_c w hp hl he hN.1 hN.2 ho
  · have hL : grL kd p l = [] := by unfold grL; rw [if_pos he]
    have hE : grE kd p l = thE kd p := by unfold grE; rw [if_pos he]
    rw [hL, hE]
    exact refGreedyE_c w hp he
theorem lawColourGreedy_c (w : World) (hp : RdP w x p) (hA : Rds vi w A c l) (hl : p.start.length ≤ 17592186043904) (hl2 : p.cols.length ≤ 17592186043904) (hl3 : l.length ≤ 17592186043904) :
    Calls Try.prog 4 [vi kd, pvl x p, .slice A l.length c].toArray w (one (.bool true) w) := by
  have op := hp.old
  have oA := hA.old
  have hb : ∀ (w : World) (x : PA) (A : Option Addr) (c : Nat), RdP w x p → Rds vi w A c l → _ := fun w x A c h1 h2 => greedyA_c (p := p) (kd := kd) (l := l) (x := x) (A := A) (c := c) w h1 h2
  have hrb : ∀ (w : World) (x : PA) (A : Option Addr) (c : Nat), RdP w x p → Rds vi w A c l → _ := fun w x A c h1 h2 => refGreedy_c (p := p) (kd := kd) (l := l) (x := x) (A := A) (c := c) w h1 h2
  generalize grL kd p l = gl at hb hrb
  generalize grE kd p l = ge at hb hrb
  unfold pvl patV
  refine calls_wc [] [] [.tmp 6] (fun _ => [.bool true]) Try.func4 rfl rfl (fun _ => rfl) Try.ntmps4 rfl (Own.nil w) rfl ?_
  refine gg ?_
  refine wl_op (ok_box rfl rfl rfl rfl rfl ?_); intro bp
  refine wl_none TIs sv ?_
  refine wl_none TIs sv ?_
  refine gg ?_
  refine wl_op (ok_alloc rfl rfl rfl rfl (ze_of rfl) ?_); intro g
  refine wl_giv (g := g) ?_
  (repeat (first | refine gk1 ?_ | refine gk2 ?_ | refine gk3 ?_ | refine gk0 ?_ | refine gk4 ?_))
  refine gg ?_
  refine gc3 [bun (Giv g ⟨none, 0, none, 0, []⟩)] (fun w hst hst1 => gpat_c (p := p) (x := x) ⟨none, 0, none, 0, []⟩ w (op.later (bun_out1 hst1)) hl hl2 (by simp) (bun_out1 hst1).own) (by exact rfl) ?_
  (repeat (first | refine gk1 ?_ | refine gk2 ?_ | refine gk3 ?_ | refine gk0 ?_ | refine gk4 ?_))
  rintro ⟨z1, e1, f1⟩ ⟨h1a, h1b, h1c⟩
  dsimp only [List.cons_append, List.nil_append] at h1a h1b h1c ⊢
  refine gg ?_
  refine gc3 [bun (Giv g z1)] (fun w hst hst1 => gints_c (l := l) z1 w (oA.later (bun_out1 hst1)) hl3 (by rw [h1a]; simp) (bun_out1 hst1).own) (by exact rfl) ?_
  (repeat (first | refine gk1 ?_ | refine gk2 ?_ | refine gk3 ?_ | refine gk0 ?_ | refine gk4 ?_))
  rintro ⟨z2, e2⟩ ⟨h2a, h2b⟩
  dsimp only [List.cons_append, List.nil_append] at h2a h2b ⊢
  have me1 : e1 ∈ z2.es := by rw [h2a, h1a]; simp
  have mf1 : f1 ∈ z2.es := by rw [h2a, h1a]; simp
  have me2 : e2 ∈ z2.es := by rw [h2a]; simp
  refine gc3 [] (fun w hst hst1 => hb w ⟨e1.A, e1.c, f1.A, f1.c⟩ e2.A e2.c (grdG hst me1 mf1 h1b h1c) (grdI hst me2 h2b)) (by exact rfl) ?_
  (repeat (first | refine gk1 ?_ | refine gk2 ?_ | refine gk3 ?_ | refine gk0 ?_ | refine gk4 ?_))
  rintro y1 r1
  dsimp only [List.cons_append, List.nil_append]
  refine gg ?_
  refine gc3 [] (fun w hst hst1 => hrb w x A c (op.now hst) (oA.now hst)) (by exact rfl) ?_
  (repeat (first | refine gk1 ?_ | refine gk2 ?_ | refine gk3 ?_ | refine gk0 ?_ | refine gk4 ?_))
  rintro y2 r2
  dsimp only [List.cons_append, List.nil_append]
  refine gg ?_
  refine gc1 (fun w hst => num_c _ w) (by exact rfl) ?_
  refine gg ?_
  refine gc1 (fun w hst => sameInts_c (xs := y1.xs) (ys := y2.xs) w (grd hst) (grd hst) true (by rw [r1, r2]; simp)) (by exact rfl) ?_
  refine gg ?_
  refine gc3 [bun (Giv g z2)] (fun w hst hst1 => gintact_c z2 w (by rw [h2a, h1a]; simp) (bun_out1 hst1).own) (by exact rfl) ?_
  (repeat (first | refine gk1 ?_ | refine gk2 ?_ | refine gk3 ?_ | refine gk0 ?_ | refine gk4 ?_))
  rintro _ _
  dsimp only [List.cons_append, List.nil_append]
  refine gg ?_
  exact grt () trivial
end
end Go.Proofs.Ytoiiellaoikojaa
