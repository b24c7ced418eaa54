/- Walks: colours: the reference's struck and forest. Plain: what is right is what is not bad. -/
import Derived.Test.YtoiiellaoikojaaOA
set_option linter.unusedVariables false
set_option linter.unusedSimpArgs false
set_option maxHeartbeats 8000000
namespace Go.Proofs.Ytoiiellaoikojaa
open Go.RowKit Classical
/-! ### plain -/
theorem cntB_sum (l : List Bool) : cntB true l + cntB false l = l.length := by
  unfold cntB
  induction l with
  | nil => rfl
  | cons a l ih =>
    rw [List.countP_cons, List.countP_cons, List.length_cons]
    cases a with
    | true =>
      show (List.countP (fun x => x == true) l + 1) + (List.countP (fun x => x == false) l + 0) = l.length + 1
      omega
    | false =>
      show (List.countP (fun x => x == true) l + 0) + (List.countP (fun x => x == false) l + 1) = l.length + 1
      omega
theorem cntQ_one {Q : Int → Prop} : ∀ {n : Nat}, 1 ≤ cntQ Q n → ∃ a : Int, 0 ≤ a ∧ a < n ∧ Q a
  | 0, h => by exact absurd h (by show ¬ (1 ≤ 0); omega)
  | n + 1, h => by
    by_cases hq : Q n
    · exact ⟨n, by omega, by omega, hq⟩
    · rw [(cntQ_succ Q n).2 hq] at h
      obtain ⟨a, h0, h1, h2⟩ := cntQ_one h
      exact ⟨a, h0, by omega, h2⟩
theorem cntQ_two {Q : Int → Prop} : ∀ {n : Nat}, 2 ≤ cntQ Q n → ∃ a b : Int, a ≠ b ∧ 0 ≤ a ∧ a < n ∧ 0 ≤ b ∧ b < n ∧ Q a ∧ Q b
  | 0, h => by exact absurd h (by show ¬ (2 ≤ 0); omega)
  | n + 1, h => by
    by_cases hq : Q n
    · rw [(cntQ_succ Q n).1 hq] at h
      obtain ⟨a, h0, h1, h2⟩ := cntQ_one (Q := Q) (n := n) (by omega)
      exact ⟨a, n, by omega, h0, by omega, by omega, by omega, h2, hq⟩
    · rw [(cntQ_succ Q n).2 hq] at h
      obtain ⟨a, b, h0, h1, h2, h3, h4, h5, h6⟩ := cntQ_two h
      exact ⟨a, b, h0, h1, by omega, h3, by omega, h5, h6⟩
theorem cntQ_two' {Q : Int → Prop} {n : Nat} {a b : Int} (hab : a ≠ b) (a0 : 0 ≤ a) (a1 : a < n) (b0 : 0 ≤ b) (b1 : b < n) (ha : Q a) (hb : Q b) : 2 ≤ cntQ Q n := by
  have h1 := cntQ_del a0 a1 ha
  have h2 := cntQ_del (S := fun y => Q y ∧ y ≠ a) b0 b1 ⟨hb, hab.symm⟩
  omega
def HitD (F : Int → Int → Bool) (K : List Int) (v b c d : Int) : Prop := d ≠ b ∧ (F c d = true ∨ F v d = true) ∧ gt K d = gt K b
def HitC (F : Int → Int → Bool) (n : Nat) (K : List Int) (v b c : Int) : Prop := F b c = true ∧ c ≠ v ∧ gt K c = gt K v ∧ ∃ d : Int, 0 ≤ d ∧ d < n ∧ HitD F K v b c d
/-- v stands in a path of four in two colours -/
def StrP (F : Int → Int → Bool) (n : Nat) (K : List Int) (v : Int) : Prop := ∃ b : Int, 0 ≤ b ∧ b < n ∧ F v b = true ∧ ∃ c : Int, 0 ≤ c ∧ c < n ∧ HitC F n K v b c
/-- no circle: no set of the two colours in which each has two neighbours -/
def NoCore (F : Int → Int → Bool) (n : Nat) (K : List Int) (c d : Int) : Prop := ¬ ∃ S : Int → Prop, (∃ x, S x) ∧ (∀ x, S x → (0 ≤ x ∧ x < n) ∧ (gt K x = c ∨ gt K x = d)) ∧ Core F S
structure FoX where
  L : List Bool
  ag : Bool
  k : Int
section
variable {F : Int → Int → Bool} {n N m : Nat} {on : List Bool} {A B : Option Addr} {c d : Nat} {K : List Int} {v : Int}
theorem struck_c (w : World) (hN : on.length = N) (hA : Rds vb w A c on) (hg : IsGrid on n n F) (hn : n ≤ 128) (hK : Rds vi w B d K) (hm : K.length = m) (hl : K.length = n) (v0 : 0 ≤ v) (v1 : v < n) (b : Bool) (hb : b = true ↔ StrP F n K v) :
    Calls Try.prog 98 [.agg (graC n A N c).toArray, .slice B m d, vi v].toArray w (one (.bool b) w) := by
  subst hN
  subst hm
  have oA := hA.old
  have oK := hK.old
  have hgl := hg.len
  have tru : ∀ b0 c0 d0 : Int, 0 ≤ b0 → b0 < n → F v b0 = true → 0 ≤ c0 → c0 < n → F b0 c0 = true → c0 ≠ v → gt K c0 = gt K v → 0 ≤ d0 → d0 < n → HitD F K v b0 c0 d0 → b = true := fun b0 c0 d0 h1 h2 h3 h4 h5 h6 h7 h8 h9 h10 h11 => hb.2 ⟨b0, h1, h2, h3, c0, h4, h5, h6, h7, h8, d0, h9, h10, h11⟩
  refine calls_wc [] [] [.tmp 6] (fun _ => [.bool b]) Try.func98 rfl rfl (fun _ => rfl) Try.ntmps98 rfl (Own.nil w) rfl ?_
  refine gg ?_
  refine wl_op (ok_box rfl rfl rfl rfl rfl ?_); intro bp
  refine gg ?_
  refine glp (fun k : Int => 0 ≤ k ∧ k ≤ n ∧ ∀ b0 : Int, 0 ≤ b0 → b0 < k → ¬ (F v b0 = true ∧ ∃ c : Int, 0 ≤ c ∧ c < n ∧ HitC F n K v b0 c)) (fun k => [(1, .slice B K.length d), (2, vi v), (3, .pointer (some ⟨bp, 0, none⟩)), (7, vi k)])
    (fun _ => [blk bp (graC n A on.length c) TGh]) (fun k => (n - k).toNat) 0 ⟨by omega, by omega, fun q q0 q1 => by omega⟩ ?_
  rintro k ⟨hk0, hk1, hno⟩
  by_cases hk : k < n
  · have nxt : ¬ (F v k = true ∧ ∃ c : Int, 0 ≤ c ∧ c < n ∧ HitC F n K v k c) → ∀ b0 : Int, 0 ≤ b0 → b0 < k + 1 → ¬ (F v b0 = true ∧ ∃ c : Int, 0 ≤ c ∧ c < n ∧ HitC F n K v b0 c) := fun h q q0 q1 => by
      by_cases e : q = k
      · rw [e]; exact h
      · exact hno q q0 (by omega)
    have hvk := hg.at_ v k v0 v1 hk0 hk
    have lvk := cell_lt v0 v1 hk0 hk
    obtain ⟨m0, m1⟩ := mul_small (x := v) (y := n) v0 (by omega) (by omega) (by omega)
    obtain ⟨m2, m3⟩ := mul_small (x := k) (y := n) hk0 (by omega) (by omega) (by omega)
    refine gg ?_
    refine glp (fun c0 : Int => 0 ≤ c0 ∧ c0 ≤ n ∧ (F v k = false → c0 = 0) ∧ ∀ q : Int, 0 ≤ q → q < c0 → ¬ HitC F n K v k q) (fun c0 => [(1, .slice B K.length d), (2, vi v), (3, .pointer (some ⟨bp, 0, none⟩)), (7, vi k), (8, vi c0)])
      (fun _ => [blk bp (graC n A on.length c) TGh]) (fun c0 => (n - c0).toNat) 0 ⟨by omega, by omega, fun _ => rfl, fun q q0 q1 => by omega⟩ ?_
    rintro c0 ⟨hc0, hc1, hcz, hnc⟩
    cases hF : F v k with
    | false =>
      rw [hF] at hvk
      refine gg ?_
      refine gc1 (fun w hst => meet_c (n := n) (r := v) (x := k) w (oA.now hst) (by omega) (by omega) v0 (by omega) hk0 (by omega) (by omega) _ hvk) (by exact rfl) ?_
      refine gg ?_
      exact gnx (k + 1) ⟨by omega, by omega, nxt fun h => by rw [hF] at h; cases h.1⟩ (by omega)
    | true =>
      rw [hF] at hvk
      by_cases hc : c0 < n
      · have hkc := hg.at_ k c0 hk0 hk hc0 hc
        have lkc := cell_lt hk0 hk hc0 hc
        obtain ⟨m4, m5⟩ := mul_small (x := c0) (y := n) hc0 (by omega) (by omega) (by omega)
        have nxc : ¬ HitC F n K v k c0 → ∀ q : Int, 0 ≤ q → q < c0 + 1 → ¬ HitC F n K v k q := fun h q q0 q1 => by
          by_cases e : q = c0
          · rw [e]; exact h
          · exact hnc q q0 (by omega)
        refine gg ?_
        refine gc1 (fun w hst => meet_c (n := n) (r := v) (x := k) w (oA.now hst) (by omega) (by omega) v0 (by omega) hk0 (by omega) (by omega) _ hvk) (by exact rfl) ?_
        refine gg ?_
        cases hF2 : F k c0 with
        | false =>
          rw [hF2] at hkc
          refine wc_quiet mixed (by kernel_rfl) ?_
          refine gg ?_
          refine gc2 (fun w hst => meet_c (n := n) (r := k) (x := c0) w (oA.now hst) (by omega) (by omega) hk0 (by omega) hc0 (by omega) (by omega) _ hkc) (by exact rfl) ?_
          refine gg ?_
          exact gnx (c0 + 1) ⟨by omega, by omega, (fun h => by cases h), nxc fun h => by have h1 := h.1; rw [hF2] at h1; cases h1⟩ (by omega)
        | true =>
          rw [hF2] at hkc
          refine wc_quiet mixed (by kernel_rfl) ?_
          refine gg ?_
          refine gc2 (fun w hst => meet_c (n := n) (r := k) (x := c0) w (oA.now hst) (by omega) (by omega) hk0 (by omega) hc0 (by omega) (by omega) _ hkc) (by exact rfl) ?_
          by_cases h1 : c0 = v
          · refine gg ?_
            exact gnx (c0 + 1) ⟨by omega, by omega, (fun h => by cases h), nxc fun h => h.2.1 h1⟩ (by omega)
          by_cases h2 : gt K c0 = gt K v
          · refine gg ?_
            refine glp (fun d0 : Int => 0 ≤ d0 ∧ d0 ≤ n ∧ ∀ q : Int, 0 ≤ q → q < d0 → ¬ HitD F K v k c0 q) (fun d0 => [(1, .slice B K.length d), (2, vi v), (3, .pointer (some ⟨bp, 0, none⟩)), (7, vi k), (8, vi c0), (9, vi d0)])
              (fun _ => [blk bp (graC n A on.length c) TGh]) (fun d0 => (n - d0).toNat) 0 ⟨by omega, by omega, fun q q0 q1 => by omega⟩ ?_
            rintro d0 ⟨hd0, hd1, hnd⟩
            by_cases hd : d0 < n
            · have hcd := hg.at_ c0 d0 hc0 hc hd0 hd
              have hvd := hg.at_ v d0 v0 v1 hd0 hd
              have lcd := cell_lt hc0 hc hd0 hd
              have lvd := cell_lt v0 v1 hd0 hd
              have nxd : ¬ HitD F K v k c0 d0 → ∀ q : Int, 0 ≤ q → q < d0 + 1 → ¬ HitD F K v k c0 q := fun h q q0 q1 => by
                by_cases e : q = d0
                · rw [e]; exact h
                · exact hnd q q0 (by omega)
              by_cases h3 : d0 = k
              · refine gg ?_
                refine wc_quiet mixed (by kernel_rfl) ?_
                refine gg ?_
                exact gnx (d0 + 1) ⟨by omega, by omega, nxd fun h => h.1 h3⟩ (by omega)
              cases hF3 : F c0 d0 with
              | true =>
                rw [hF3] at hcd
                refine gg ?_
                refine wc_quiet mixed (by kernel_rfl) ?_
                refine gg ?_
                refine gc2 (fun w hst => meet_c (n := n) (r := c0) (x := d0) w (oA.now hst) (by omega) (by omega) hc0 (by omega) hd0 (by omega) (by omega) _ hcd) (by exact rfl) ?_
                by_cases h4 : gt K d0 = gt K k
                · obtain rfl := tru k c0 d0 hk0 hk hF hc0 hc hF2 h1 h2 hd0 hd ⟨h3, .inl hF3, h4⟩
                  refine gg ?_
                  exact grt () trivial
                · refine gg ?_
                  exact gnx (d0 + 1) ⟨by omega, by omega, nxd fun h => h4 h.2.2⟩ (by omega)
              | false =>
                rw [hF3] at hcd
                refine gg ?_
                refine wc_quiet mixed (by kernel_rfl) ?_
                refine gg ?_
                refine gc2 (fun w hst => meet_c (n := n) (r := c0) (x := d0) w (oA.now hst) (by omega) (by omega) hc0 (by omega) hd0 (by omega) (by omega) _ hcd) (by exact rfl) ?_
                refine gg ?_
                cases hF4 : F v d0 with
                | true =>
                  rw [hF4] at hvd
                  refine gc2 (fun w hst => meet_c (n := n) (r := v) (x := d0) w (oA.now hst) (by omega) (by omega) v0 (by omega) hd0 (by omega) (by omega) _ hvd) (by exact rfl) ?_
                  by_cases h4 : gt K d0 = gt K k
                  · obtain rfl := tru k c0 d0 hk0 hk hF hc0 hc hF2 h1 h2 hd0 hd ⟨h3, .inr hF4, h4⟩
                    refine gg ?_
                    exact grt () trivial
                  · refine gg ?_
                    exact gnx (d0 + 1) ⟨by omega, by omega, nxd fun h => h4 h.2.2⟩ (by omega)
                | false =>
                  rw [hF4] at hvd
                  refine gc2 (fun w hst => meet_c (n := n) (r := v) (x := d0) w (oA.now hst) (by omega) (by omega) v0 (by omega) hd0 (by omega) (by omega) _ hvd) (by exact rfl) ?_
                  refine gg ?_
                  exact gnx (d0 + 1) ⟨by omega, by omega, nxd fun h => by
                    rcases h.2.1 with h | h
                    · rw [hF3] at h; cases h
                    · rw [hF4] at h; cases h⟩ (by omega)
            · obtain rfl : d0 = n := by omega
              refine gg ?_
              exact gnx (c0 + 1) ⟨by omega, by omega, (fun h => by cases h), nxc fun ⟨_, _, _, q, q0, q1, h⟩ => hnd q q0 q1 h⟩ (by omega)
          · refine gg ?_
            exact gnx (c0 + 1) ⟨by omega, by omega, (fun h => by cases h), nxc fun h => h2 h.2.2.1⟩ (by omega)
      · obtain rfl : c0 = n := by omega
        refine gg ?_
        refine gc1 (fun w hst => meet_c (n := n) (r := v) (x := k) w (oA.now hst) (by omega) (by omega) v0 (by omega) hk0 (by omega) (by omega) _ hvk) (by exact rfl) ?_
        refine gg ?_
        exact gnx (k + 1) ⟨by omega, by omega, nxt fun ⟨_, q, q0, q1, h⟩ => hnc q q0 q1 h⟩ (by omega)
  obtain rfl : k = n := by omega
  obtain rfl : b = false := by
    cases b with
    | false => rfl
    | true =>
      obtain ⟨b0, h1, h2, h3⟩ := hb.1 rfl
      exact (hno b0 h1 h2 h3).elim
  refine gg ?_
  exact grt () trivial
theorem set_same {L : List Bool} {k : Int} {b : Bool} (k0 : 0 ≤ k) (k1 : k < L.length) (h : gt L k = b) : L.set k.toNat b = L := by
  rw [gt_elem k0 k1] at h
  rw [← h]
  exact List.set_getElem_self _
theorem cntB_inc {L : List Bool} {k : Int} (k0 : 0 ≤ k) (k1 : k < L.length) (h : gt L k = false) : cntB true (L.set k.toNat true) = cntB true L + 1 := by
  rw [gt_elem k0 k1] at h
  have h1 := cntB_set (b := false) (l := L) (i := k.toNat) (by omega) h
  have h2 := cntB_sum L
  have h3 := cntB_sum (L.set k.toNat true)
  rw [List.length_set] at h3
  simp only [Bool.not_false] at h1
  omega
theorem cntB_dec {L : List Bool} {k : Int} (k0 : 0 ≤ k) (k1 : k < L.length) (h : gt L k = true) : cntB true (L.set k.toNat false) + 1 = cntB true L := by
  rw [gt_elem k0 k1] at h
  exact cntB_set (b := true) (l := L) (i := k.toNat) (by omega) h
/-- what is left on the way to a core -/
structure Pee (F : Int → Int → Bool) (n : Nat) (T : Int → Prop) (L : List Bool) : Prop where
  len : L.length = n
  keep : ∀ S : Int → Prop, (∀ x, S x → (0 ≤ x ∧ x < n) ∧ T x) → Core F S → ∀ x, S x → gt L x = true
  in_ : ∀ x : Int, 0 ≤ x → x < n → gt L x = true → T x
def lf (n : Nat) (L : List Bool) (x : Int) : Prop := (0 ≤ x ∧ x < n) ∧ gt L x = true
theorem Pee.cut {T : Int → Prop} {L : List Bool} {v : Int} (h : Pee F n T L) (v0 : 0 ≤ v) (v1 : v < n) (hn : ¬ Two F (lf n L) v) : Pee F n T (L.set v.toNat false) := by
  have hl := h.len
  have hg : ∀ x : Int, 0 ≤ x → gt (L.set v.toNat false) x = if x = v then false else gt L x := fun x x0 => gt_set v0 (by omega) x0
  refine ⟨by rw [List.length_set]; exact hl, fun S hS hc x hx => ?_, fun x x0 x1 hx => ?_⟩
  · have hxr := (hS x hx).1
    rw [hg x hxr.1]
    by_cases e : x = v
    · exact (hn (by rw [← e]; exact (hc x hx).mono fun y hy => ⟨(hS y hy).1, h.keep S hS hc y hy⟩)).elim
    · rw [if_neg e]; exact h.keep S hS hc x hx
  · rw [hg x x0] at hx
    by_cases e : x = v
    · rw [if_pos e] at hx; cases hx
    · rw [if_neg e] at hx; exact h.in_ x x0 x1 hx
theorem forest_c {c1 d1 : Int} (w : World) (hN : on.length = N) (hA : Rds vb w A c on) (hg : IsGrid on n n F) (hn : n ≤ 128) (hK : Rds vi w B d K) (hm : K.length = m) (hl : K.length = n) (hev : ∀ a b, F a b = true → F b a = true) (b : Bool) (hb : b = true ↔ NoCore F n K c1 d1) :
    Calls Try.prog 99 [.agg (graC n A N c).toArray, .slice B m d, vi c1, vi d1].toArray w (one (.bool b) w) := by
  subst hN
  subst hm
  have oA := hA.old
  have oK := hK.old
  have hgl := hg.len
  refine calls_wc [] [] [.tmp 8] (fun _ => [.bool b]) Try.func99 rfl rfl (fun _ => rfl) Try.ntmps99 rfl (Own.nil w) rfl ?_
  refine gg ?_
  refine wl_op (ok_box rfl rfl rfl rfl rfl ?_); intro bp
  refine gg ?_
  refine gmk vb false rfl rfl rfl rfl rfl rfl rfl rfl rfl rfl rfl (by omega) (Int.le_refl _) (by omega) (by omega) ?_
  intro sb
  rw [show ((n : Int)).toNat = n by omega]
  refine gg ?_
  refine glp (fun s : FoX => (0 ≤ s.k ∧ s.k ≤ n) ∧ s.L.length = n ∧ ∀ x : Int, 0 ≤ x → x < n → (gt s.L x = true ↔ x < s.k ∧ (gt K x = c1 ∨ gt K x = d1))) (fun s => [(1, .slice B K.length d), (2, vi c1), (3, vi d1), (4, .pointer (some ⟨bp, 0, none⟩)), (9, .slice (some ⟨sb, 0, none⟩) n n), (10, vi (cntB true s.L)), (11, vi s.k)])
    (fun s => [osl TB vb (some ⟨sb, 0, none⟩) n s.L, blk bp (graC n A on.length c) TGh]) (fun s => (n - s.k).toNat) ⟨List.replicate n false, false, 0⟩ ⟨by simp, by simp, fun x x0 x1 => by dsimp only; rw [gt_elem x0 (by simpa using x1)]; simp; omega⟩ ?_ (hT := .cons rfl (.cons rfl (.cons rfl (.cons rfl (.cons rfl (.cons (look_to rfl (by rw [show cntB true (List.replicate n false) = 0 from cntB_zero.2 (fun x hx => by rw [List.eq_of_mem_replicate hx]; decide)]; rfl)) (.cons rfl .nil)))))))
  rintro ⟨L, _, k⟩ ⟨⟨hk0, hk1⟩, hLl, hLx⟩
  dsimp only at hk0 hk1 hLl hLx ⊢
  have hcl := cntB_le true L
  by_cases hk : k < n
  · have hgk : gt L k = false := by
      cases h : gt L k with
      | false => rfl
      | true => have := ((hLx k hk0 hk).1 h).1; omega
    have hg2 : ∀ (q : Bool) (x : Int), 0 ≤ x → gt (L.set k.toNat q) x = if x = k then q else gt L x := fun q x x0 => gt_set hk0 (by omega) x0
    have hset : ∀ q : Bool, (q = true ↔ (gt K k = c1 ∨ gt K k = d1)) → ∀ x : Int, 0 ≤ x → x < n → (gt (L.set k.toNat q) x = true ↔ x < k + 1 ∧ (gt K x = c1 ∨ gt K x = d1)) := fun q hq x x0 x1 => by
      rw [hg2 q x x0]
      by_cases e : x = k
      · rw [if_pos e, e, hq]
        exact ⟨fun h => ⟨by omega, h⟩, fun h => h.2⟩
      · rw [if_neg e, hLx x x0 x1]
        exact ⟨fun h => ⟨by omega, h.2⟩, fun h => ⟨by omega, h.2⟩⟩
    have hi := cntB_inc hk0 (by omega) hgk
    have hs2 : (L.set k.toNat true).length = n := by rw [List.length_set]; exact hLl
    have hs3 : (L.set k.toNat false).length = n := by rw [List.length_set]; exact hLl
    have ht : gt (L.set k.toNat true) k = true := by rw [hg2 true k hk0, if_pos rfl]
    have hf : gt (L.set k.toNat false) k = false := by rw [hg2 false k hk0, if_pos rfl]
    have hsm := set_same hk0 (by omega) hgk
    by_cases h1 : gt K k = c1
    · refine gg ?_
      rw [ht]
      refine gg ?_
      rw [show ((cntB true L : Nat) : Int) + 1 = ((cntB true (L.set k.toNat true) : Nat) : Int) by omega]
      exact gnx (⟨L.set k.toNat true, false, k + 1⟩ : FoX) ⟨⟨by dsimp only; omega, by dsimp only; omega⟩, hs2, hset true (by simp [h1])⟩ (by dsimp only; omega)
    by_cases h2 : gt K k = d1
    · refine gg ?_
      rw [ht]
      refine gg ?_
      rw [show ((cntB true L : Nat) : Int) + 1 = ((cntB true (L.set k.toNat true) : Nat) : Int) by omega]
      exact gnx (⟨L.set k.toNat true, false, k + 1⟩ : FoX) ⟨⟨by dsimp only; omega, by dsimp only; omega⟩, hs2, hset true (by simp [h2])⟩ (by dsimp only; omega)
    · refine gg ?_
      rw [hf]
      refine gg ?_
      rw [hsm]
      exact gnx (⟨L, false, k + 1⟩ : FoX) ⟨⟨by dsimp only; omega, by dsimp only; omega⟩, hLl, by rw [← hsm]; exact hset false (by simp [h1, h2])⟩ (by dsimp only; omega)
  obtain rfl : k = n := by omega
  have hP : Pee F n (fun x => gt K x = c1 ∨ gt K x = d1) L := ⟨hLl, fun S hS hc x hx => (hLx x (hS x hx).1.1 (hS x hx).1.2).2 ⟨(hS x hx).1.2, (hS x hx).2⟩, fun x x0 x1 h => ((hLx x x0 x1).1 h).2⟩
  clear hLx hLl hk hk0 hk1
  refine gg ?_
  refine glp (fun s : FoX => Pee F n (fun x => gt K x = c1 ∨ gt K x = d1) s.L ∧ (s.ag = false → Core F (lf n s.L))) (fun s => [(4, .pointer (some ⟨bp, 0, none⟩)), (9, .slice (some ⟨sb, 0, none⟩) n n), (10, vi (cntB true s.L)), (12, .bool s.ag)])
    (fun s => [osl TB vb (some ⟨sb, 0, none⟩) n s.L, blk bp (graC n A on.length c) TGh]) (fun s => 2 * cntB true s.L + (if s.ag then 1 else 0)) ⟨L, true, 0⟩ ⟨hP, fun h => by cases h⟩ ?_
  clear hP hcl L
  rintro ⟨L, ag, _⟩ ⟨hP, hcore⟩
  dsimp only at hP hcore ⊢
  have hLl := hP.len
  have hcl := cntB_le true L
  cases ag with
  | false =>
    have hcr := hcore rfl
    have hfin : b = true ↔ (cntB true L : Int) = 0 := by
      rw [hb]
      constructor
      · intro hno
        have : cntB true L = 0 := cntB_zero.2 fun x hx hxt => by
          obtain ⟨i, i0, i1, e⟩ := mem_gt hx
          exact hno ⟨lf n L, ⟨i, ⟨i0, by omega⟩, by rw [e]; exact hxt⟩, fun y hy => ⟨hy.1, hP.in_ y hy.1.1 hy.1.2 hy.2⟩, hcr⟩
        omega
      · intro h0 ⟨S, ⟨x, hx⟩, hS, hc⟩
        have h1 := hP.keep S hS hc x hx
        have hxr := (hS x hx).1
        rw [gt_elem hxr.1 (by omega)] at h1
        exact cntB_zero.1 (by omega) _ (List.getElem_mem _) h1
    by_cases h0 : (cntB true L : Int) = 0
    · obtain rfl : b = true := hfin.2 h0
      refine gg ?_
      exact grt () trivial
    · obtain rfl : b = false := by
        cases b with
        | false => rfl
        | true => exact (h0 (hfin.1 rfl)).elim
      refine gg ?_
      exact grt () trivial
  | true =>
    refine gg ?_
    refine glp (fun s : FoX => (0 ≤ s.k ∧ s.k ≤ n) ∧ Pee F n (fun x => gt K x = c1 ∨ gt K x = d1) s.L ∧ cntB true s.L ≤ cntB true L ∧ (s.ag = true → cntB true s.L < cntB true L) ∧ (s.ag = false → ∀ x : Int, 0 ≤ x → x < s.k → gt s.L x = true → Two F (lf n s.L) x)) (fun s => [(4, .pointer (some ⟨bp, 0, none⟩)), (9, .slice (some ⟨sb, 0, none⟩) n n), (10, vi (cntB true s.L)), (12, .bool s.ag), (13, vi s.k)])
      (fun s => [osl TB vb (some ⟨sb, 0, none⟩) n s.L, blk bp (graC n A on.length c) TGh]) (fun s => (n - s.k).toNat) ⟨L, false, 0⟩ ⟨by simp, hP, Nat.le_refl _, (fun h => by cases h), fun _ x x0 x1 => by dsimp only at x1; omega⟩ ?_
    rintro ⟨M, ag, v⟩ ⟨⟨hv0, hv1⟩, hPM, hle, hlt, htw⟩
    dsimp only at hv0 hv1 hPM hle hlt htw ⊢
    have hMl := hPM.len
    have hcm := cntB_le true M
    by_cases hv : v < n
    · obtain ⟨m0, m1⟩ := mul_small (x := v) (y := n) hv0 (by omega) (by omega) (by omega)
      have hiff : ∀ k : Nat, k = cntQ (fun u => gt M u = true ∧ F u v = true) n → (2 ≤ k ↔ Two F (lf n M) v) := fun k hk => by
        rw [hk]
        constructor
        · intro h
          obtain ⟨p, q, h1, h2, h3, h4, h5, h6, h7⟩ := cntQ_two h
          exact ⟨p, q, h1, ⟨⟨h2, h3⟩, h6.1⟩, ⟨⟨h4, h5⟩, h7.1⟩, hev _ _ h6.2, hev _ _ h7.2⟩
        · rintro ⟨p, q, h1, h2, h3, h4, h5⟩
          exact cntQ_two' h1 h2.1.1 h2.1.2 h3.1.1 h3.1.2 ⟨h2.2, hev _ _ h4⟩ ⟨h3.2, hev _ _ h5⟩
      cases hgv : gt M v with
      | false =>
        refine gg ?_
        refine glp (fun u : Int => u = 0) (fun u => [(4, .pointer (some ⟨bp, 0, none⟩)), (9, .slice (some ⟨sb, 0, none⟩) n n), (10, vi (cntB true M)), (12, .bool ag), (13, vi v), (14, vi 0), (15, vi u)])
          (fun _ => [osl TB vb (some ⟨sb, 0, none⟩) n M, blk bp (graC n A on.length c) TGh]) (fun u => 0) 0 rfl ?_
        rintro u rfl
        refine gg ?_
        rw [hgv]
        refine gg ?_
        rw [hgv]
        refine gg ?_
        exact gnx (⟨M, ag, v + 1⟩ : FoX) ⟨⟨by dsimp only; omega, by dsimp only; omega⟩, hPM, hle, hlt, fun h x x0 x1 hx => by
          dsimp only at x1 hx h
          by_cases e : x = v
          · rw [e, hgv] at hx; cases hx
          · exact htw h x x0 (by omega) hx⟩ (by dsimp only; omega)
      | true =>
        refine gg ?_
        refine glp (fun u : Int => 0 ≤ u ∧ u ≤ n) (fun u => [(4, .pointer (some ⟨bp, 0, none⟩)), (9, .slice (some ⟨sb, 0, none⟩) n n), (10, vi (cntB true M)), (12, .bool ag), (13, vi v), (14, vi (cntQ (fun u => gt M u = true ∧ F u v = true) u.toNat)), (15, vi u)])
          (fun _ => [osl TB vb (some ⟨sb, 0, none⟩) n M, blk bp (graC n A on.length c) TGh]) (fun u => (n - u).toNat) 0 ⟨by omega, by omega⟩ ?_
        rintro u ⟨hu0, hu1⟩
        have hcx := cntQ_max (fun u => gt M u = true ∧ F u v = true) u.toNat
        by_cases hu : u < n
        · have huv := hg.at_ u v hu0 hu hv0 hv
          have luv := cell_lt hu0 hu hv0 hv
          obtain ⟨m2, m3⟩ := mul_small (x := u) (y := n) hu0 (by omega) (by omega) (by omega)
          have hcn := cntQ_next (fun u => gt M u = true ∧ F u v = true) hu0
          refine gg ?_
          rw [hgv]
          refine gg ?_
          cases hgu : gt M u with
          | false =>
            refine gg ?_
            rw [← hcn.2 (fun h => by rw [hgu] at h; cases h.1)]
            exact gnx (u + 1) ⟨by omega, by omega⟩ (by omega)
          | true =>
            cases hF : F u v with
            | false =>
              rw [hF] at huv
              refine gg ?_
              refine gc1 (fun w hst => meet_c (n := n) (r := u) (x := v) w (oA.now hst) (by omega) (by omega) hu0 (by omega) hv0 (by omega) (by omega) _ huv) (by exact rfl) ?_
              refine gg ?_
              rw [← hcn.2 (fun h => by rw [hF] at h; cases h.2)]
              exact gnx (u + 1) ⟨by omega, by omega⟩ (by omega)
            | true =>
              rw [hF] at huv
              refine gg ?_
              refine gc1 (fun w hst => meet_c (n := n) (r := u) (x := v) w (oA.now hst) (by omega) (by omega) hu0 (by omega) hv0 (by omega) (by omega) _ huv) (by exact rfl) ?_
              refine gg ?_
              have e := hcn.1 ⟨hgu, hF⟩
              rw [show ((cntQ (fun u => gt M u = true ∧ F u v = true) u.toNat : Nat) : Int) + 1 = ((cntQ (fun u => gt M u = true ∧ F u v = true) (u + 1).toNat : Nat) : Int) by omega]
              exact gnx (u + 1) ⟨by omega, by omega⟩ (by omega)
        obtain rfl : u = n := by omega
        rw [show ((n : Int)).toNat = n by omega] at hcx ⊢
        have hif := hiff _ rfl
        refine gg ?_
        rw [hgv]
        refine gg ?_
        rw [hgv]
        by_cases h2 : 2 ≤ cntQ (fun u => gt M u = true ∧ F u v = true) n
        · refine gg ?_
          exact gnx (⟨M, ag, v + 1⟩ : FoX) ⟨⟨by dsimp only; omega, by dsimp only; omega⟩, hPM, hle, hlt, fun h x x0 x1 hx => by
            dsimp only at x1 hx h
            by_cases e : x = v
            · rw [e]; exact hif.1 h2
            · exact htw h x x0 (by omega) hx⟩ (by dsimp only; omega)
        · have hcut := hPM.cut hv0 hv (fun h => h2 (hif.2 h))
          have hd := cntB_dec hv0 (by omega) hgv
          refine gg ?_
          rw [show ((cntB true M : Nat) : Int) - 1 = ((cntB true (M.set v.toNat false) : Nat) : Int) by omega]
          exact gnx (⟨M.set v.toNat false, true, v + 1⟩ : FoX) ⟨⟨by dsimp only; omega, by dsimp only; omega⟩, hcut, by dsimp only; omega, fun _ => by dsimp only; omega, fun h => by cases h⟩ (by dsimp only; omega)
    obtain rfl : v = n := by omega
    cases ag with
    | true =>
      have := hlt rfl
      refine gg ?_
      exact gnx (⟨M, true, 0⟩ : FoX) ⟨hPM, fun h => by cases h⟩ (by dsimp only; rw [if_pos rfl]; omega)
    | false =>
      refine gg ?_
      exact gnx (⟨M, false, 0⟩ : FoX) ⟨hPM, fun _ x hx => htw rfl x hx.1.1 hx.1.2 hx.2⟩ (by dsimp only; rw [if_pos rfl, if_neg (by decide)]; omega)
end
/-- the part of a graph that has colours -/
def prt (F : Int → Int → Bool) (K : List Int) (a b : Int) : Bool := (decide (0 ≤ gt K a) && decide (0 ≤ gt K b)) && F a b
theorem prt_iff {F : Int → Int → Bool} {K : List Int} {a b : Int} : prt F K a b = true ↔ 0 ≤ gt K a ∧ 0 ≤ gt K b ∧ F a b = true := by
  unfold prt
  simp only [Bool.and_eq_true, decide_eq_true_iff]
  exact and_assoc
def RightP (kd : Int) (F : Int → Int → Bool) (n : Nat) (K : List Int) (v : Int) : Prop := (∀ u : Int, 0 ≤ u → u < n → ¬ (F u v = true ∧ gt K u = gt K v)) ∧ (kd = 4 → ¬ StrP (prt F K) n K v) ∧ (kd = 5 → ∀ u : Int, 0 ≤ u → u < n → prt F K u v = true → NoCore (prt F K) n K (gt K u) (gt K v))
/-- no circle of two colours -/
def Acy (F : Int → Int → Bool) (n : Nat) (cs : List Int) : Prop := ∀ a b : Int, 0 ≤ a → 0 ≤ b → NoCore F n cs a b
section
variable {F : Int → Int → Bool} {n : Nat} {l cs : List Int} {v c kd : Int}
theorem Acy.zero : Acy F n (List.replicate n (-1)) := fun a b a0 b0 ⟨S, ⟨x, hx⟩, hS, _⟩ => by
  obtain ⟨⟨x0, x1⟩, h⟩ := hS x hx
  rw [show gt (List.replicate n (-1)) x = -1 by rw [gt_elem x0 (by simpa using x1)]; simp] at h
  omega
theorem core_prt {K : List Int} {S : Int → Prop} (h : Core (prt F K) S) : Core F S := fun x hx => by
  obtain ⟨a, b, h1, h2, h3, h4, h5⟩ := h x hx
  exact ⟨a, b, h1, h2, h3, (prt_iff.1 h4).2.2, (prt_iff.1 h5).2.2⟩
theorem prt_core {K : List Int} {S : Int → Prop} (h : Core F S) (hS : ∀ x, S x → 0 ≤ gt K x) : Core (prt F K) S := fun x hx => by
  obtain ⟨a, b, h1, h2, h3, h4, h5⟩ := h x hx
  exact ⟨a, b, h1, h2, h3, prt_iff.2 ⟨hS x hx, hS a h2, h4⟩, prt_iff.2 ⟨hS x hx, hS b h3, h5⟩⟩
theorem way_mono {E E' : Int → Int → Bool} {u w : Int} (h : Way E u w) (he : ∀ x y, Way E u x → E x y = true → E' x y = true) : Way E' u w := by
  induction h with
  | refl => exact .refl _
  | step h1 h2 ih => exact .step ih (he _ _ h1 h2)
variable (hon : On n F) (hev : ∀ a b, F a b = true → F b a = true) (hirr : ∀ u, F u u = false) (hGI : GI F n l cs) (v0 : 0 ≤ v) (v1 : v < n)
include hon hev hirr hGI v0 v1
theorem core_bad (hacy : Acy F n cs) (hbN : badN F n cs v c = false) {a b : Int} (a0 : 0 ≤ a) (b0 : 0 ≤ b) {T : Int → Prop} (hne : ∃ x, T x) (hT : ∀ x, T x → (0 ≤ x ∧ x < n) ∧ (gt (cs.set v.toNat c) x = a ∨ gt (cs.set v.toNat c) x = b)) (hc : Core F T) : badA F n cs v c = true := by
  have hlen := hGI.len
  have gs : ∀ u : Int, 0 ≤ u → gt (cs.set v.toNat c) u = if u = v then c else gt cs u := fun u u0 => gt_setI v0 (by omega) u0
  have gv : gt (cs.set v.toNat c) v = c := by rw [gs v v0, if_pos rfl]
  have go : ∀ u : Int, 0 ≤ u → u ≠ v → gt (cs.set v.toNat c) u = gt cs u := fun u u0 e => by rw [gs u u0, if_neg e]
  have nb : ∀ u : Int, F v u = true → gt cs u ≠ c := fun u hu e => by
    have hr := hon _ _ hu
    have : badN F n cs v c = true := anyI_iff.2 ⟨u, hr.2.2, by rw [hu, e]; simp⟩
    rw [hbN] at this; cases this
  have nvu : ∀ u : Int, F v u = true → u ≠ v := fun u hu e => by rw [e, hirr] at hu; cases hu
  have hno : ¬ ∃ U : Int → Prop, (∃ x, U x) ∧ (∀ x, U x → T x ∧ x ≠ v) ∧ Core F U := fun ⟨U, h1, h2, h3⟩ =>
    hacy a b a0 b0 ⟨U, h1, fun x hx => by
      obtain ⟨h4, h5⟩ := h2 x hx
      obtain ⟨h6, h7⟩ := hT x h4
      rw [go x h6.1 h5] at h7
      exact ⟨h6, h7⟩, h3⟩
  have hvT : T v := by
    apply Classical.byContradiction
    intro hn
    exact hno ⟨T, hne, fun x hx => ⟨hx, fun e => hn (by rw [← e]; exact hx)⟩, hc⟩
  have hvc := (hT v hvT).2
  rw [gv] at hvc
  obtain ⟨e, e0, he⟩ : ∃ e : Int, 0 ≤ e ∧ ∀ x, T x → x ≠ v → gt cs x = c ∨ gt cs x = e := by
    rcases hvc with h | h
    · exact ⟨b, b0, fun x hx hxv => by
        obtain ⟨h6, h7⟩ := hT x hx
        rw [go x h6.1 hxv, ← h] at h7
        exact h7⟩
    · exact ⟨a, a0, fun x hx hxv => by
        obtain ⟨h6, h7⟩ := hT x hx
        rw [go x h6.1 hxv, ← h] at h7
        exact h7.symm⟩
  obtain ⟨u, w, h1, h2, h3, h4, h5, h6⟩ := way_core hev hirr (fun x hx => (hT x hx).1) hc hvT hno
  have cu : gt cs u = e := (he u h2 (nvu u h4)).resolve_left (nb u h4)
  have cw : gt cs w = e := (he w h3 (nvu w h5)).resolve_left (nb w h5)
  have key : ∀ p q : Int, p ≠ q → F v p = true → F v q = true → gt cs p = e → gt cs q = e → q < p → Way (Wi F (fun y => T y ∧ y ≠ v)) p q → badA F n cs v c = true := fun p q hpq hp hq ep eq hlt hway => by
    unfold badA
    rw [decide_eq_true_iff]
    refine ⟨p, q, hp, hq, hlt, by omega, nb p hp, by omega, way_mono hway fun x y _ hxy => ?_⟩
    obtain ⟨k1, _, k3⟩ := wi_iff.1 hxy
    rw [k1, Bool.true_and, Bool.or_eq_true, decide_eq_true_iff, decide_eq_true_iff, ep]
    exact he y k3.1 k3.2
  by_cases hlt : w < u
  · exact key u w h1 h4 h5 cu cw hlt h6
  · exact key w u h1.symm h5 h4 cw cu (by omega) (Way.symm (fun x y hxy => by
      obtain ⟨k1, k2, k3⟩ := wi_iff.1 hxy
      exact wi_iff.2 ⟨hev _ _ k1, k3, k2⟩) h6)
theorem Acy.next (hacy : Acy F n cs) (hbN : badN F n cs v c = false) (hbA : badA F n cs v c = false) : Acy F n (cs.set v.toNat c) := fun a b a0 b0 ⟨S, h1, h2, h3⟩ => by
  rw [core_bad hon hev hirr hGI v0 v1 hacy hbN a0 b0 h1 h2 h3] at hbA
  cases hbA
variable (hv : v ∉ l) (c0 : 0 ≤ c)
include hv c0
theorem right_bad (hacy : kd = 5 → Acy F n cs) : RightP kd F n (cs.set v.toNat c) v ↔ badB kd F n cs v c = false := by
  have hlen := hGI.len
  have gs : ∀ u : Int, 0 ≤ u → gt (cs.set v.toNat c) u = if u = v then c else gt cs u := fun u u0 => gt_setI v0 (by omega) u0
  have gv : gt (cs.set v.toNat c) v = c := by rw [gs v v0, if_pos rfl]
  have go : ∀ u : Int, 0 ≤ u → u ≠ v → gt (cs.set v.toNat c) u = gt cs u := fun u u0 e => by rw [gs u u0, if_neg e]
  have nvu : ∀ u : Int, F v u = true → u ≠ v := fun u hu e => by rw [e, hirr] at hu; cases hu
  have cv : gt cs v = -1 := hGI.off v v0 v1 hv
  have h1 : (∀ u : Int, 0 ≤ u → u < n → ¬ (F u v = true ∧ gt (cs.set v.toNat c) u = gt (cs.set v.toNat c) v)) ↔ badN F n cs v c = false := by
    rw [gv]
    constructor
    · intro h
      cases hb : badN F n cs v c with
      | false => rfl
      | true =>
        obtain ⟨u, hu, he⟩ := anyI_iff.1 hb
        rw [Bool.and_eq_true, beq_iff_eq] at he
        exact (h u hu.1 hu.2 ⟨hev _ _ he.1, by rw [go u hu.1 (nvu u he.1)]; exact he.2⟩).elim
    · intro hb u u0 u1 ⟨h2, h3⟩
      have h2' := hev _ _ h2
      rw [go u u0 (nvu u h2')] at h3
      have : badN F n cs v c = true := anyI_iff.2 ⟨u, ⟨u0, u1⟩, by rw [h2', h3]; simp⟩
      rw [hb] at this; cases this
  unfold RightP
  rw [h1]
  cases hbN : badN F n cs v c with
  | true =>
    unfold badB
    rw [hbN]
    simp
  | false =>
    have nb : ∀ u : Int, F v u = true → gt cs u ≠ c := fun u hu e => by
      have hr := hon _ _ hu
      have : badN F n cs v c = true := anyI_iff.2 ⟨u, hr.2.2, by rw [hu, e]; simp⟩
      rw [hbN] at this; cases this
    have twin_iff : ∀ a u : Int, twinB F n cs a u = true ↔ ∃ w : Int, F a w = true ∧ w ≠ u ∧ gt cs w = gt cs u := fun a u => by
      unfold twinB
      rw [anyI_iff]
      constructor
      · rintro ⟨w, _, h⟩
        simp only [Bool.and_eq_true, bne_iff_ne, beq_iff_eq] at h
        exact ⟨w, h⟩
      · rintro ⟨w, h⟩
        have := hon _ _ h.1
        exact ⟨w, this.2.2, by simpa using h⟩
    have hS : StrP (prt F (cs.set v.toNat c)) n (cs.set v.toNat c) v ↔ badS F n cs v c = true := by
      unfold badS
      rw [anyI_iff]
      constructor
      · rintro ⟨b, b0, b1, hb, x, x0, x1, hx, hxv, hcx, d, d0, d1, hdb, hd, hcd⟩
        obtain ⟨_, kb, fb⟩ := prt_iff.1 hb
        obtain ⟨_, _, fx⟩ := prt_iff.1 hx
        have bv := nvu b fb
        rw [go b b0 bv] at kb hcd
        rw [go x x0 hxv, gv] at hcx
        have dv : d ≠ v := fun e => by rw [e, gv] at hcd; exact nb b fb hcd.symm
        rw [go d d0 dv] at hcd
        refine ⟨b, ⟨b0, b1⟩, ?_⟩
        rw [Bool.and_eq_true, Bool.and_eq_true, decide_eq_true_iff, anyI_iff]
        refine ⟨⟨fb, kb⟩, x, ⟨x0, x1⟩, ?_⟩
        simp only [Bool.and_eq_true, bne_iff_ne, beq_iff_eq, Bool.or_eq_true, twin_iff]
        refine ⟨⟨fx, hxv, hcx⟩, ?_⟩
        rcases hd with hd | hd
        · exact .inr ⟨d, (prt_iff.1 hd).2.2, hdb, hcd⟩
        · exact .inl ⟨d, (prt_iff.1 hd).2.2, hdb, hcd⟩
      · rintro ⟨b, ⟨b0, b1⟩, h⟩
        rw [Bool.and_eq_true, Bool.and_eq_true, decide_eq_true_iff, anyI_iff] at h
        obtain ⟨⟨fb, kb⟩, x, ⟨x0, x1⟩, hx⟩ := h
        simp only [Bool.and_eq_true, bne_iff_ne, beq_iff_eq, Bool.or_eq_true, twin_iff] at hx
        obtain ⟨⟨fx, hxv, hcx⟩, hd⟩ := hx
        have bv := nvu b fb
        have kb' : gt (cs.set v.toNat c) b = gt cs b := go b b0 bv
        have kx' : gt (cs.set v.toNat c) x = gt cs x := go x x0 hxv
        have hd' : ∃ d, (F x d = true ∨ F v d = true) ∧ d ≠ b ∧ gt cs d = gt cs b := by
          rcases hd with ⟨d, h1, h2, h3⟩ | ⟨d, h1, h2, h3⟩
          · exact ⟨d, .inr h1, h2, h3⟩
          · exact ⟨d, .inl h1, h2, h3⟩
        obtain ⟨d, hd1, hd2, hd3⟩ := hd'
        have dr : 0 ≤ d ∧ d < n := by
          rcases hd1 with h | h
          · exact (hon _ _ h).2.2
          · exact (hon _ _ h).2.2
        have dv : d ≠ v := fun e => by rw [e, cv] at hd3; omega
        have kd' : gt (cs.set v.toNat c) d = gt cs d := go d dr.1 dv
        refine ⟨b, b0, b1, prt_iff.2 ⟨by rw [gv]; exact c0, by rw [kb']; exact kb, fb⟩, x, x0, x1, prt_iff.2 ⟨by rw [kb']; exact kb, by rw [kx', hcx]; exact c0, fx⟩, hxv, by rw [kx', gv]; exact hcx, d, dr.1, dr.2, hd2, ?_, by rw [kd', kb']; exact hd3⟩
        rcases hd1 with h | h
        · exact .inl (prt_iff.2 ⟨by rw [kx', hcx]; exact c0, by rw [kd', hd3]; exact kb, h⟩)
        · exact .inr (prt_iff.2 ⟨by rw [gv]; exact c0, by rw [kd', hd3]; exact kb, h⟩)
    have hA : kd = 5 → ((∀ u : Int, 0 ≤ u → u < n → prt F (cs.set v.toNat c) u v = true → NoCore (prt F (cs.set v.toNat c)) n (cs.set v.toNat c) (gt (cs.set v.toNat c) u) (gt (cs.set v.toNat c) v)) ↔ badA F n cs v c = false) := fun hk => by
      have hacy := hacy hk
      constructor
      · intro h
        cases hbA : badA F n cs v c with
        | false => rfl
        | true =>
          exfalso
          unfold badA at hbA
          rw [decide_eq_true_iff] at hbA
          obtain ⟨u, w, fu, fw, hlt, ku, nu, kw, hway⟩ := hbA
          have ur := (hon _ _ fu).2.2
          have wr := (hon _ _ fw).2.2
          have uv := nvu u fu
          have hways : ∀ z, Way (fun x y => F x y && (decide (gt cs y = c) || decide (gt cs y = gt cs u))) u z → ((0 ≤ z ∧ z < n) ∧ z ≠ v ∧ (gt cs z = c ∨ gt cs z = gt cs u)) := fun z hz => by
            cases hz with
            | refl => exact ⟨ur, uv, .inr rfl⟩
            | step _ he =>
              simp only [Bool.and_eq_true, Bool.or_eq_true, decide_eq_true_iff] at he
              refine ⟨(hon _ _ he.1).2.2, fun e => ?_, he.2⟩
              rw [e, cv] at he
              omega
          obtain ⟨T, t1, t2, t3⟩ := core_way (n := n) (g := F) (v := v) hev fu fw (by omega) _ (fun z => (0 ≤ z ∧ z < n) ∧ z ≠ v ∧ (gt cs z = c ∨ gt cs z = gt cs u)) (Nat.le_refl _) (fun x hx => hx.1) (fun h => h.2.1 rfl) (hways u (.refl _)) (hways w hway) (way_mono hway fun x y hx hxy => wi_iff.2 ⟨(Bool.and_eq_true_iff.1 hxy).1, hways x hx, hways y (.step hx hxy)⟩)
          have tc : ∀ x, T x → (0 ≤ x ∧ x < n) ∧ (gt (cs.set v.toNat c) x = gt cs u ∨ gt (cs.set v.toNat c) x = c) := fun x hx => by
            rcases t2 x hx with h | h
            · rw [go x h.1.1 h.2.1]; exact ⟨h.1, h.2.2.symm⟩
            · rw [h]; exact ⟨⟨v0, v1⟩, .inr gv⟩
          refine h u ur.1 ur.2 (prt_iff.2 ⟨by rw [go u ur.1 uv]; exact ku, by rw [gv]; exact c0, hev _ _ fu⟩) ⟨T, t1, fun x hx => ?_, prt_core t3 fun x hx => ?_⟩
          · rw [go u ur.1 uv, gv]; exact tc x hx
          · have := (tc x hx).2; omega
      · intro hbA u u0 u1 hp ⟨S, s1, s2, s3⟩
        obtain ⟨ku, _, _⟩ := prt_iff.1 hp
        rw [gv] at s2
        rw [core_bad hon hev hirr hGI v0 v1 hacy hbN ku c0 s1 s2 (core_prt s3)] at hbA
        cases hbA
    unfold badB
    rw [hbN, Bool.false_or, Bool.or_eq_false_iff]
    constructor
    · rintro ⟨_, h4, h5⟩
      constructor
      · by_cases hk : kd = 4
        · rw [decide_eq_true hk, Bool.true_and]
          have := h4 hk
          rw [hS] at this
          simpa using this
        · rw [decide_eq_false hk, Bool.false_and]
      · by_cases hk : kd = 5
        · rw [decide_eq_true hk, Bool.true_and]
          exact (hA hk).1 (h5 hk)
        · rw [decide_eq_false hk, Bool.false_and]
    · rintro ⟨h4, h5⟩
      refine ⟨rfl, fun hk => ?_, fun hk => ?_⟩
      · rw [decide_eq_true hk, Bool.true_and] at h4
        rw [hS, h4]
        simp
      · rw [decide_eq_true hk, Bool.true_and] at h5
        exact (hA hk).2 h5
end
/-! ### the number of colours -/
theorem numS_cons (c : Int) (l : List Int) : numS (c :: l) = max (max 0 (c + 1)) (numS l) := by
  have : ∀ (l : List Int) (a : Int), 0 ≤ a → l.foldl (fun n c => max n (c + 1)) a = max a (l.foldl (fun n c => max n (c + 1)) 0) := by
    intro l
    induction l with
    | nil => intro a ha; show a = max a 0; omega
    | cons x l ih =>
      intro a ha
      rw [List.foldl_cons, List.foldl_cons, ih (max a (x + 1)) (by omega), ih (max 0 (x + 1)) (by omega)]
      omega
  unfold numS
  rw [List.foldl_cons, this l (max 0 (c + 1)) (by omega)]
theorem numS_set : ∀ {l : List Int} {i : Nat} {c : Int}, i < l.length → l[i]? = some (-1) → 0 ≤ c → numS (l.set i c) = max (numS l) (c + 1)
  | [], i, c, h, _, _ => by simp at h
  | x :: l, 0, c, _, h1, c0 => by
    obtain rfl : x = -1 := by simpa using h1
    rw [List.set_cons_zero, numS_cons, numS_cons]
    have : 0 ≤ numS l := by
      cases l with
      | nil => exact Int.le_refl _
      | cons a b => rw [numS_cons]; omega
    omega
  | x :: l, i + 1, c, h, h1, c0 => by
    rw [List.set_cons_succ, numS_cons, numS_cons, numS_set (by simpa using h) (by simpa using h1) c0]
    omega
theorem numS_blank : ∀ n : Nat, numS (List.replicate n (-1)) = 0
  | 0 => rfl
  | n + 1 => by rw [List.replicate_succ, numS_cons, numS_blank n]; rfl
end Go.Proofs.Ytoiiellaoikojaa
