/- Walks: colours: the reference's fine, some, Least; the law ColourLeast. -/
import Derived.Test.YtoiiellaoikojaaGreatU6
import Derived.Test.YtoiiellaoikojaaGreatU8
set_option linter.unusedVariables false
set_option linter.unusedSimpArgs false
set_option maxHeartbeats 8000000
namespace Go.Proofs.YtoiiellaoikojaaGreat
open Go.RowKit Classical
section
variable {F : Int → Int → Bool} {n N m : Nat} {on : List Bool} {A B : Option Addr} {c d : Nat} {K : List Int} {kd : Int}
theorem fine_c (w : World) (hN : on.length = N) (hA : Rds vb w A c on) (hg : IsGrid on n n F) (hn : n ≤ 128) (hon : On n F) (hev : ∀ a b, F a b = true → F b a = true) (hirr : ∀ u, F u u = false) (hK : Rds vi w B d K) (hm : K.length = m) (hl : K.length = n) (b : Bool) (hb : b = true ↔ Fine kd F n K) :
    Calls Tryz.prog 51 [vi kd, .agg (graC n A N c).toArray, .slice B m d].toArray w (one (.bool b) w) := by
  subst hN
  subst hm
  have oA := hA.old
  have oK := hK.old
  have hgl := hg.len
  have hin : ∀ {a b : Int}, F a b = true → (0 ≤ a ∧ a < n) ∧ 0 ≤ b ∧ b < n := fun h => by have := hon _ _ h; omega
  have fals : ¬ Fine kd F n K → b = false := fun h => by
    cases b with
    | false => rfl
    | true => exact (h (hb.1 rfl)).elim
  refine calls_wc [] [] [.tmp 6] (fun _ => [.bool b]) Tryz.func51 rfl rfl (fun _ => rfl) Tryz.ntmps51 rfl (Own.nil w) rfl ?_
  refine gg ?_
  refine wl_op (ok_box rfl rfl rfl rfl rfl ?_); intro bp
  refine gg ?_
  refine glp (fun v : Int => 0 ≤ v ∧ v ≤ n ∧ ∀ a b : Int, F a b = true → a < b → b < v → gt K a ≠ gt K b) (fun v => [(0, vi kd), (2, .slice B K.length d), (4, .pointer (some ⟨bp, 0, none⟩)), (7, vi v)])
    (fun _ => [blk bp (graC n A on.length c) TGh]) (fun v => (n - v).toNat) 0 ⟨by omega, by omega, fun a b hb _ h => by have := hin hb; omega⟩ ?_
  rintro v ⟨hv0, hv1, hnv⟩
  by_cases hv : v < n
  · obtain ⟨m0, m1⟩ := mul_small (x := v) (y := n) hv0 (by omega) (by omega) (by omega)
    refine gg ?_
    refine glp (fun u : Int => 0 ≤ u ∧ u ≤ v ∧ ∀ a : Int, 0 ≤ a → a < u → F a v = true → gt K a ≠ gt K v) (fun u => [(0, vi kd), (2, .slice B K.length d), (4, .pointer (some ⟨bp, 0, none⟩)), (7, vi v), (8, vi u)])
      (fun _ => [blk bp (graC n A on.length c) TGh]) (fun u => (v - u).toNat) 0 ⟨by omega, by omega, fun a a0 a1 => by omega⟩ ?_
    rintro u ⟨hu0, hu1, hnu⟩
    by_cases hu : u < v
    · have huv := hg.at_ u v hu0 (by omega) hv0 hv
      have luv := cell_lt hu0 (show u < n by omega) hv0 hv
      have nxt : (F u v = true → gt K u ≠ gt K v) → ∀ a : Int, 0 ≤ a → a < u + 1 → F a v = true → gt K a ≠ gt K v := fun h a a0 a1 => by
        by_cases e : a = u
        · rw [e]; exact h
        · exact hnu a a0 (by omega)
      refine gg ?_
      cases hF : F u v with
      | false =>
        rw [hF] at huv
        refine wc_quiet mixed (by kernel_rfl) ?_
        refine gg ?_
        refine gc2 (fun w hst => meet_c (n := n) (r := u) (x := v) w (oA.now hst) (by omega) (by omega) hu0 (by omega) hv0 (by omega) (by omega) _ huv) (by exact rfl) ?_
        refine gg ?_
        exact gnx (u + 1) ⟨by omega, by omega, nxt fun h => by rw [hF] at h; cases h⟩ (by omega)
      | true =>
        rw [hF] at huv
        by_cases hal : gt K u = gt K v
        · obtain rfl := fals fun h => h.1 u v hF hal
          refine wc_quiet mixed (by kernel_rfl) ?_
          refine gg ?_
          refine gc2 (fun w hst => meet_c (n := n) (r := u) (x := v) w (oA.now hst) (by omega) (by omega) hu0 (by omega) hv0 (by omega) (by omega) _ huv) (by exact rfl) ?_
          refine gg ?_
          exact grt () trivial
        · refine wc_quiet mixed (by kernel_rfl) ?_
          refine gg ?_
          refine gc2 (fun w hst => meet_c (n := n) (r := u) (x := v) w (oA.now hst) (by omega) (by omega) hu0 (by omega) hv0 (by omega) (by omega) _ huv) (by exact rfl) ?_
          refine gg ?_
          exact gnx (u + 1) ⟨by omega, by omega, nxt fun _ => hal⟩ (by omega)
    · obtain rfl : u = v := by omega
      refine gg ?_
      exact gnx (u + 1) ⟨by omega, by omega, fun a b hb hab h => by
        by_cases e : b = u
        · rw [e] at hb hab ⊢; exact hnu a (hin hb).1.1 hab hb
        · exact hnv a b hb hab (by omega)⟩ (by omega)
  obtain rfl : v = n := by omega
  have hpr : ∀ x y, F x y = true → gt K x ≠ gt K y := fun x y h => by
    have hi := hin h
    by_cases e : x < y
    · exact hnv x y h e hi.2.2
    · by_cases e2 : x = y
      · rw [e2, hirr] at h; cases h
      · exact fun e3 => hnv y x (hev _ _ h) (by omega) hi.1.2 e3.symm
  by_cases k4 : kd = 4
  · subst k4
    refine gg ?_
    refine gc3 [] (fun w hst hst1 => refPath_c (F := F) (n := n) w rfl (oA.now hst) hg hn hon (oK.now hst) rfl hl) (by exact rfl) ?_
    (repeat (first | refine gk1 ?_ | refine gk2 ?_ | refine gk3 ?_ | refine gk0 ?_ | refine gk4 ?_))
    rintro z hz
    dsimp only [List.cons_append, List.nil_append]
    by_cases hz0 : z.xs = []
    · have hzl : z.xs.length = 0 := by rw [hz0]; rfl
      have hno : ∀ a b c d : Int, ¬ Pa4 F K a b c d := by
        rcases hz with ⟨_, h⟩ | ⟨_, _, _, _, h, _⟩
        · exact h
        · rw [hz0] at h; cases h
      obtain rfl : b = true := hb.2 ⟨hpr, fun _ => hno, fun h => by omega⟩
      refine gg ?_
      exact grt () trivial
    · have hzl : 0 < z.xs.length := List.length_pos_iff.2 hz0
      obtain rfl := fals fun h => by
        rcases hz with ⟨h', _⟩ | ⟨_, _, _, _, _, h', _⟩
        · exact hz0 h'
        · exact h.2.1 rfl _ _ _ _ h'
      refine gg ?_
      exact grt () trivial
  · by_cases k5 : kd = 5
    · subst k5
      refine gg ?_
      refine gc3 [] (fun w hst hst1 => refCircle_c (F := F) (n := n) w rfl (oA.now hst) hg hn hon hev (oK.now hst) rfl hl hpr) (by exact rfl) ?_
      (repeat (first | refine gk1 ?_ | refine gk2 ?_ | refine gk3 ?_ | refine gk0 ?_ | refine gk4 ?_))
      rintro z hz
      dsimp only [List.cons_append, List.nil_append]
      by_cases hz0 : z.xs = []
      · have hzl : z.xs.length = 0 := by rw [hz0]; rfl
        have hno : ∀ c d : Int, c ≤ d → NoCore F n K c d := by
          rcases hz with ⟨_, h⟩ | ⟨_, _, h, _⟩
          · exact h
          · rw [hz0] at h; cases h
        obtain rfl : b = true := hb.2 ⟨hpr, fun h => by omega, fun _ => hno⟩
        refine gg ?_
        exact grt () trivial
      · have hzl : 0 < z.xs.length := List.length_pos_iff.2 hz0
        obtain rfl := fals fun h => by
          rcases hz with ⟨h', _⟩ | ⟨c, d, _, h', h2, _⟩
          · exact hz0 h'
          · exact h2 (h.2.2 rfl c d h')
        refine gg ?_
        exact grt () trivial
    · obtain rfl : b = true := hb.2 ⟨hpr, fun h => (k4 h).elim, fun h => (k5 h).elim⟩
      refine gg ?_
      exact grt () trivial
structure SmX where
  cs : List Int
  c : Int
theorem some_c (hN : on.length = N) (hg : IsGrid on n n F) (hn : n ≤ 8) (hon : On n F) (hev : ∀ a b, F a b = true → F b a = true) (hirr : ∀ u, F u u = false) (k : Int) (k1 : k ≤ 8) {cb : Nat} : ∀ (m : Nat) (v used : Int) (cs : List Int) (w : World), v + m = n → 0 ≤ v → 0 ≤ used → used ≤ k → cs.length = n → RdO vb w [cb] A c on → ∀ b : Bool, (b = true ↔ ∃ j, j ≤ k ∧ SomeU kd F n m (cs.take v.toNat) used j) → Own [osl TI vi (some ⟨cb, 0, none⟩) n cs] w →
    Calls Tryz.prog 22 [vi kd, .agg (graC n A N c).toArray, .slice (some ⟨cb, 0, none⟩) n n, vi v, vi used, vi k].toArray w (Ret [osl TI vi (some ⟨cb, 0, none⟩) n cs] (fun _ : List Int => .bool b) (fun cs' => [osl TI vi (some ⟨cb, 0, none⟩) n cs']) (fun cs' => cs'.length = n ∧ cs'.take v.toNat = cs.take v.toNat) w) := by
  subst hN
  have hgl := hg.len
  intro m
  induction m with
  | zero =>
    intro v used cs w hvm v0 us0 us1 hcl oA b hb hw
    obtain rfl : v = n := by omega
    have htk : cs.take (n : Int).toNat = cs := List.take_of_length_le (by omega)
    have hbf : b = true ↔ Fine kd F n cs := by
      rw [hb, htk]
      exact ⟨fun ⟨j, _, h, _⟩ => h, fun h => ⟨used, us1, h, rfl⟩⟩
    have hF := fun (w : World) (h1 : Rds vb w A c on) (h2 : Rds vi w (some ⟨cb, 0, none⟩) n cs) => fine_c (F := F) (n := n) (kd := kd) (K := cs) w rfl h1 hg (by omega) hon hev hirr h2 rfl hcl b hbf
    rw [hcl] at hF
    refine calls_wc ([osl TI vi (some ⟨cb, 0, none⟩) n cs].flatMap Res.fp) [osl TI vi (some ⟨cb, 0, none⟩) n cs] [.tmp 12] (fun _ => [.bool b]) Tryz.func22 rfl rfl (fun _ => rfl) Tryz.ntmps22 rfl hw rfl ?_
    refine gg ?_
    refine wl_op (ok_box rfl rfl rfl rfl rfl ?_); intro bp
    refine gg ?_
    refine gc1 (fun w hst => hF w (oA.now hst) (grd hst)) (by exact rfl) ?_
    refine gg ?_
    exact grt cs ⟨hcl, rfl⟩
  | succ m ih =>
    intro v used cs w hvm v0 us0 us1 hcl oA b hb hw
    refine calls_wc ([osl TI vi (some ⟨cb, 0, none⟩) n cs].flatMap Res.fp) [osl TI vi (some ⟨cb, 0, none⟩) n cs] [.tmp 12] (fun _ => [.bool b]) Tryz.func22 rfl rfl (fun _ => rfl) Tryz.ntmps22 rfl hw rfl ?_
    have oA' : RdO vb w ([osl TI vi (some ⟨cb, 0, none⟩) n cs].flatMap Res.fp) A c on := oA
    refine gg ?_
    refine wl_op (ok_box rfl rfl rfl rfl rfl ?_); intro bp
    refine gg ?_
    refine glp (fun z : SmX => (0 ≤ z.c ∧ z.c ≤ used + 1 ∧ z.c ≤ k) ∧ z.cs.length = n ∧ z.cs.take v.toNat = cs.take v.toNat ∧ ∀ c', 0 ≤ c' → c' < z.c → ¬ ∃ j, j ≤ k ∧ SomeU kd F n m (cs.take v.toNat ++ [c']) (max used (c' + 1)) j) (fun z => [(0, vi kd), (2, .slice (some ⟨cb, 0, none⟩) n n), (3, vi v), (4, vi used), (5, vi k), (7, .pointer (some ⟨bp, 0, none⟩)), (13, vi z.c)])
      (fun z => [osl TI vi (some ⟨cb, 0, none⟩) n z.cs, blk bp (graC n A on.length c) TGh]) (fun z => (used + 1 - z.c).toNat) ⟨cs, 0⟩ ⟨by dsimp only; omega, hcl, rfl, fun c' c0 c1 => by dsimp only at c1; omega⟩ ?_
    rintro ⟨cs', e⟩ ⟨⟨he0, he1, he2⟩, hl', htk, hno⟩
    dsimp only at he0 he1 he2 hl' htk hno ⊢
    by_cases hek : e < k
    · by_cases heu : e ≤ used
      · have hset : (cs'.set v.toNat e).take (v + 1).toNat = cs.take v.toNat ++ [e] := by
          rw [show (v + 1).toNat = v.toNat + 1 by omega, List.take_add_one, List.take_set_of_le (Nat.le_refl _), htk, List.getElem?_set_self (by omega)]
          rfl
        have hsl : (cs'.set v.toNat e).length = n := by rw [List.length_set]; exact hl'
        have htk3 : ∀ cs2 : List Int, cs2.length = n → cs2.take (v + 1).toNat = cs.take v.toNat ++ [e] → cs2.take v.toNat = cs.take v.toNat := fun cs2 h2 h => by
          have := congrArg (List.take v.toNat) h
          rw [List.take_take, show min v.toNat (v + 1).toNat = v.toNat by omega, List.take_left' (by rw [List.length_take]; omega)] at this
          exact this
        by_cases hs : ∃ j, j ≤ k ∧ SomeU kd F n m (cs.take v.toNat ++ [e]) (max used (e + 1)) j
        · obtain rfl : b = true := hb.2 (by
            obtain ⟨j, h1, h2⟩ := hs
            exact ⟨j, h1, e, he0, heu, h2⟩)
          have hih := fun (w : World) (h : RdO vb w [cb] A c on) => ih (v + 1) (max used (e + 1)) (cs'.set v.toNat e) w (by omega) (by omega) (by omega) (by omega) hsl h true (by rw [hset]; simp [hs])
          by_cases heq : e = used
          · subst heq
            rw [show max e (e + 1) = e + 1 by omega] at hih
            refine gg ?_
            refine gc3 [osl TI vi (some ⟨cb, 0, none⟩) n (cs'.set v.toNat e)] (fun w hst hst1 => hih w (oA'.later hst1) hst1.own) (by exact rfl) ?_
            (repeat (first | refine gk1 ?_ | refine gk2 ?_ | refine gk3 ?_ | refine gk0 ?_ | refine gk4 ?_))
            rintro cs2 ⟨h2a, h2b⟩
            dsimp only [List.cons_append, List.nil_append] at h2a h2b ⊢
            rw [hset] at h2b
            refine gg ?_
            exact grt cs2 ⟨h2a, htk3 cs2 h2a h2b⟩
          · rw [show max used (e + 1) = used by omega] at hih
            refine gg ?_
            refine gc3 [osl TI vi (some ⟨cb, 0, none⟩) n (cs'.set v.toNat e)] (fun w hst hst1 => hih w (oA'.later hst1) hst1.own) (by exact rfl) ?_
            (repeat (first | refine gk1 ?_ | refine gk2 ?_ | refine gk3 ?_ | refine gk0 ?_ | refine gk4 ?_))
            rintro cs2 ⟨h2a, h2b⟩
            dsimp only [List.cons_append, List.nil_append] at h2a h2b ⊢
            rw [hset] at h2b
            refine gg ?_
            exact grt cs2 ⟨h2a, htk3 cs2 h2a h2b⟩
        · have hih := fun (w : World) (h : RdO vb w [cb] A c on) => ih (v + 1) (max used (e + 1)) (cs'.set v.toNat e) w (by omega) (by omega) (by omega) (by omega) hsl h false (by rw [hset]; simp [hs])
          have nxt : ∀ c', 0 ≤ c' → c' < e + 1 → ¬ ∃ j, j ≤ k ∧ SomeU kd F n m (cs.take v.toNat ++ [c']) (max used (c' + 1)) j := fun c' c0 c1 => by
            by_cases h : c' = e
            · rw [h]; exact hs
            · exact hno c' c0 (by omega)
          by_cases heq : e = used
          · subst heq
            rw [show max e (e + 1) = e + 1 by omega] at hih
            refine gg ?_
            refine gc3 [osl TI vi (some ⟨cb, 0, none⟩) n (cs'.set v.toNat e)] (fun w hst hst1 => hih w (oA'.later hst1) hst1.own) (by exact rfl) ?_
            (repeat (first | refine gk1 ?_ | refine gk2 ?_ | refine gk3 ?_ | refine gk0 ?_ | refine gk4 ?_))
            rintro cs2 ⟨h2a, h2b⟩
            dsimp only [List.cons_append, List.nil_append] at h2a h2b ⊢
            rw [hset] at h2b
            refine gg ?_
            exact gnx (⟨cs2, e + 1⟩ : SmX) ⟨by dsimp only; omega, h2a, htk3 cs2 h2a h2b, nxt⟩ (by dsimp only; omega)
          · rw [show max used (e + 1) = used by omega] at hih
            refine gg ?_
            refine gc3 [osl TI vi (some ⟨cb, 0, none⟩) n (cs'.set v.toNat e)] (fun w hst hst1 => hih w (oA'.later hst1) hst1.own) (by exact rfl) ?_
            (repeat (first | refine gk1 ?_ | refine gk2 ?_ | refine gk3 ?_ | refine gk0 ?_ | refine gk4 ?_))
            rintro cs2 ⟨h2a, h2b⟩
            dsimp only [List.cons_append, List.nil_append] at h2a h2b ⊢
            rw [hset] at h2b
            refine gg ?_
            exact gnx (⟨cs2, e + 1⟩ : SmX) ⟨by dsimp only; omega, h2a, htk3 cs2 h2a h2b, nxt⟩ (by dsimp only; omega)
      · obtain rfl : b = false := by
          cases b with
          | false => rfl
          | true =>
            obtain ⟨j, h1, c', c0, c1, h2⟩ := hb.1 rfl
            exact (hno c' c0 (by omega) ⟨j, h1, h2⟩).elim
        refine gg ?_
        exact grt cs' ⟨hl', htk⟩
    · obtain rfl : b = false := by
        cases b with
        | false => rfl
        | true =>
          obtain ⟨j, h1, c', c0, c1, h2⟩ := hb.1 rfl
          have := h2.le
          exact (hno c' c0 (by omega) ⟨j, h1, h2⟩).elim
      refine gg ?_
      exact grt cs' ⟨hl', htk⟩
end
section
variable {p : Pat} {x : PA} {kd : Int}
theorem refLeastE_c (w : World) (hp : RdP w x p) (e : Int) (hE : leE kd p = e) (he : e ≠ 0) :
    Calls Tryz.prog 7 [vi kd, pvl x p].toArray w (Ret [] (fun k : Int => .tuple #[vi k, vi e]) (fun _ => []) (fun k => k = 0) w) := by
  have op := hp.old
  have hth : ∀ w, RdP w x p → _ := fun w h => things_c (p := p) (x := x) (k := kd) w h
  unfold leE at hE
  by_cases ht : thE kd p = 0
  · rw [if_neg (not_not_intro ht)] at hE
    have h8 : 8 < thN kd p := by
      by_cases h : 8 < thN kd p
      · exact h
      · rw [if_neg h] at hE; exact (he hE.symm).elim
    rw [if_pos h8] at hE
    subst hE
    rw [if_pos ht, ht] at hth
    generalize thN kd p = N at *
    unfold pvl patV at *
    refine calls_wc [] [] [.tmp 4, .tmp 5] (fun k : Int => [vi k, vi 1]) Tryz.func7 rfl rfl (fun _ => rfl) Tryz.ntmps7 rfl (Own.nil w) rfl ?_
    refine gg ?_
    refine wl_op (ok_box rfl rfl rfl rfl rfl ?_); intro bp
    refine gg ?_
    refine gc3 [] (fun w hst hst1 => hth w (op.now hst)) (by exact rfl) ?_
    (repeat (first | refine gk1 ?_ | refine gk2 ?_ | refine gk3 ?_ | refine gk0 ?_ | refine gk4 ?_))
    rintro y _
    dsimp only [List.cons_append, List.nil_append]
    refine gg ?_
    refine wl_op (ok_alloc rfl rfl rfl rfl (ze_of rfl) ?_); intro q8
    refine gg ?_
    exact grt (0 : Int) rfl
  · rw [if_pos ht] at hE
    rw [if_neg ht, hE] at hth
    unfold pvl patV at *
    refine calls_wc [] [] [.tmp 4, .tmp 5] (fun k : Int => [vi k, vi e]) Tryz.func7 rfl rfl (fun _ => rfl) Tryz.ntmps7 rfl (Own.nil w) rfl ?_
    refine gg ?_
    refine wl_op (ok_box rfl rfl rfl rfl rfl ?_); intro bp
    refine gg ?_
    refine gc3 [] (fun w hst hst1 => hth w (op.now hst)) (by exact rfl) ?_
    (repeat (first | refine gk1 ?_ | refine gk2 ?_ | refine gk3 ?_ | refine gk0 ?_ | refine gk4 ?_))
    rintro y _
    dsimp only [List.cons_append, List.nil_append]
    refine gg ?_
    refine wl_op (ok_alloc rfl rfl rfl rfl (ze_of rfl) ?_); intro q8
    refine gg ?_
    exact grt (0 : Int) rfl
theorem refLeast_ok {n : Nat} (w : World) (hp : RdP w x p) (he : thE kd p = 0) (hN : thN kd p = n) (h1 : n ≤ 8) :
    Calls Tryz.prog 7 [vi kd, pvl x p].toArray w (Ret [] (fun k : Int => .tuple #[vi k, vi 0]) (fun _ => []) (fun k => IsLe kd (hasB (gr kd p)) n k) w) := by
  have op := hp.old
  obtain ⟨g1, g2, g3⟩ := gr_gr he
  have hth : ∀ w, RdP w x p → _ := fun w h => things_c (p := p) (x := x) (k := kd) w h
  rw [if_pos he, he, hN, ← g3] at hth
  have hon : On n (hasB (gr kd p)) := by rw [← hN, ← g2]; exact hasB_on g1.1.1 g1.1.2.1
  have hev : ∀ a b, hasB (gr kd p) a b = true → hasB (gr kd p) b a = true := fun a b h => by rw [← g1.sym]; exact h
  have hirr := g1.irr
  clear g3 g2
  generalize hasB (gr kd p) = F at *
  unfold pvl patV at *
  refine calls_wc [] [] [.tmp 4, .tmp 5] (fun k : Int => [vi k, vi 0]) Tryz.func7 rfl rfl (fun _ => rfl) Tryz.ntmps7 rfl (Own.nil w) rfl ?_
  refine gg ?_
  refine wl_op (ok_box rfl rfl rfl rfl rfl ?_); intro bp
  refine gg ?_
  refine gc3 [] (fun w hst hst1 => hth w (op.now hst)) (by exact rfl) ?_
  (repeat (first | refine gk1 ?_ | refine gk2 ?_ | refine gk3 ?_ | refine gk0 ?_ | refine gk4 ?_))
  rintro ⟨A1, c1, on⟩ ⟨hg, _⟩
  have hg := hg rfl
  dsimp only [List.cons_append, List.nil_append] at hg ⊢
  refine gg ?_
  refine wl_op (ok_alloc rfl rfl rfl rfl (ze_of rfl) ?_); intro q8
  refine gg ?_
  refine glp (fun k : Int => 0 ≤ k ∧ k ≤ n ∧ ∀ j, SomeU kd F n n [] 0 j → k ≤ j) (fun k => [(0, vi kd), (6, .pointer (some ⟨q8, 0, none⟩)), (8, vi k)])
    (fun _ => [osl TB vb A1 c1 on, blk q8 (graC n A1 on.length c1) TGh]) (fun k => (n - k).toNat) 0 ⟨by omega, by omega, fun j hj => hj.le⟩ ?_
  rintro k ⟨hk0, hk1, hno⟩
  by_cases hk : k < n
  · refine gg ?_
    refine gwa [] ?_
    (repeat (first | refine gk1 ?_ | refine gk2 ?_ | refine gk3 ?_ | refine gk0 ?_ | refine gk4 ?_))
    dsimp only [List.nil_append]
    (first | refine ga1 0 (by exact rfl) (by exact rfl) ?_ | refine ga2 0 (by exact rfl) (by exact rfl) ?_ | refine ga3 0 (by exact rfl) (by exact rfl) ?_ | refine ga4 0 (by exact rfl) (by exact rfl) ?_)
    (first | refine ga1 1 (by exact rfl) (by exact rfl) ?_ | refine ga2 1 (by exact rfl) (by exact rfl) ?_ | refine ga3 1 (by exact rfl) (by exact rfl) ?_ | refine ga4 1 (by exact rfl) (by exact rfl) ?_)
    (first | refine ga1 2 (by exact rfl) (by exact rfl) ?_ | refine ga2 2 (by exact rfl) (by exact rfl) ?_ | refine ga3 2 (by exact rfl) (by exact rfl) ?_ | refine ga4 2 (by exact rfl) (by exact rfl) ?_)
    (first | refine ga1 3 (by exact rfl) (by exact rfl) ?_ | refine ga2 3 (by exact rfl) (by exact rfl) ?_ | refine ga3 3 (by exact rfl) (by exact rfl) ?_ | refine ga4 3 (by exact rfl) (by exact rfl) ?_)
    (first | refine ga1 5 (by exact rfl) (by exact rfl) ?_ | refine ga2 5 (by exact rfl) (by exact rfl) ?_ | refine ga3 5 (by exact rfl) (by exact rfl) ?_ | refine ga4 5 (by exact rfl) (by exact rfl) ?_)
    refine gaOne 4 rfl ?_
    refine gmk0 vi 0 rfl rfl rfl rfl rfl rfl rfl rfl rfl rfl rfl (by omega) (Int.le_refl _) (by omega) (by omega) ?_
    intro cb
    rw [show ((n : Int)).toNat = n by omega]
    refine ⟨by (repeat (first | exact Suf.refl | exact Suf.nil | exact Suf.app _ _ | apply Suf.cons)), ?_⟩
    by_cases hs : ∃ j, j ≤ k ∧ SomeU kd F n n [] 0 j
    · refine gaOne 6 rfl ?_
      refine gc30 [osl TI vi (some ⟨cb, 0, none⟩) n (List.replicate n 0)] (fun w hst hst1 => some_c (F := F) (kd := kd) rfl hg h1 hon hev hirr k (by omega) n 0 0 (List.replicate n 0) w (by omega) (by omega) (by omega) (by omega) (by simp) (grO hst (σ1 := [osl TI vi (some ⟨cb, 0, none⟩) n (List.replicate n 0)]) (by refine SubK.e ?_; (repeat (first | refine gk1 ?_ | refine gk2 ?_ | refine gk3 ?_ | refine gk0 ?_ | refine gk4 ?_)); trivial)) true (by simpa using hs) hst1.own) (by exact rfl) ?_
      (repeat (first | refine gk1 ?_ | refine gk2 ?_ | refine gk3 ?_ | refine gk0 ?_ | refine gk4 ?_))
      rintro cs _
      dsimp only [List.cons_append, List.nil_append]
      refine ⟨by (repeat (first | exact Suf.refl | exact Suf.nil | exact Suf.app _ _ | apply Suf.cons)), ?_⟩
      refine gaDone ?_
      refine gg ?_
      exact grt k ⟨by omega, by
        obtain ⟨j, j1, j2⟩ := hs
        have := hno j j2
        obtain rfl : j = k := by omega
        exact .inr j2, hno⟩
    · refine gaOne 6 rfl ?_
      refine gc30 [osl TI vi (some ⟨cb, 0, none⟩) n (List.replicate n 0)] (fun w hst hst1 => some_c (F := F) (kd := kd) rfl hg h1 hon hev hirr k (by omega) n 0 0 (List.replicate n 0) w (by omega) (by omega) (by omega) (by omega) (by simp) (grO hst (σ1 := [osl TI vi (some ⟨cb, 0, none⟩) n (List.replicate n 0)]) (by refine SubK.e ?_; (repeat (first | refine gk1 ?_ | refine gk2 ?_ | refine gk3 ?_ | refine gk0 ?_ | refine gk4 ?_)); trivial)) false (by simpa using hs) hst1.own) (by exact rfl) ?_
      (repeat (first | refine gk1 ?_ | refine gk2 ?_ | refine gk3 ?_ | refine gk0 ?_ | refine gk4 ?_))
      rintro cs _
      dsimp only [List.cons_append, List.nil_append]
      refine ⟨by (repeat (first | exact Suf.refl | exact Suf.nil | exact Suf.app _ _ | apply Suf.cons)), ?_⟩
      refine gaDone ?_
      refine gg ?_
      exact gnx (k + 1) ⟨by omega, by omega, fun j hj => by
        have := hno j hj
        by_cases e : j = k
        · exact (hs ⟨j, by omega, hj⟩).elim
        · omega⟩ (by omega)
  · obtain rfl : k = n := by omega
    refine gg ?_
    exact grt (n : Int) ⟨by omega, .inl rfl, hno⟩
theorem refLeast_c (w : World) (hp : RdP w x p) :
    Calls Tryz.prog 7 [vi kd, pvl x p].toArray w (Ret [] (fun k : Int => .tuple #[vi k, vi (leE kd p)]) (fun _ => []) (fun k => (leE kd p = 0 → IsLe kd (hasB (gr kd p)) (gr kd p).rows.toNat k) ∧ (leE kd p ≠ 0 → k = 0)) w) := by
  by_cases hE : leE kd p = 0
  · have he : thE kd p = 0 := by
      unfold leE at hE
      by_cases ht : thE kd p = 0
      · exact ht
      · rw [if_pos ht] at hE; exact hE
    have h8 : ¬ 8 < thN kd p := fun h => by
      unfold leE at hE
      rw [if_neg (not_not_intro he), if_pos h] at hE
      cases hE
    obtain ⟨g1, g2, g3⟩ := gr_gr he
    have h0 := g1.1.1.toHead.r0
    rw [hE]
    exact (refLeast_ok (n := (gr kd p).rows.toNat) w hp he (by omega) (by omega)).mono fun e w' h => ret_val h fun z hz => ⟨rfl, fun _ => hz, fun h => (h rfl).elim⟩
  · exact (refLeastE_c w hp _ rfl hE).mono fun e w' h => ret_val h fun z hz => ⟨rfl, fun h => (hE h).elim, fun _ => hz⟩
theorem lawColourLeast_c (w : World) (hp : RdP w x p) (hl : p.start.length ≤ 17592186043904) (hl2 : p.cols.length ≤ 17592186043904) :
    Calls Tryz.prog 3 [vi kd, pvl x p].toArray w (one (.bool true) w) := by
  have op := hp.old
  have hb : ∀ (w : World) (x : PA), RdP w x p → _ := fun w x h1 => least_c (p := p) (kd := kd) (x := x) w h1
  have hrb : ∀ (w : World) (x : PA), RdP w x p → _ := fun w x h1 => refLeast_c (p := p) (kd := kd) (x := x) w h1
  have hun : ∀ a b : Int, (leE kd p = 0 → IsLe kd (hasB (gr kd p)) (gr kd p).rows.toNat a) ∧ (leE kd p ≠ 0 → a = 0) → (leE kd p = 0 → IsLe kd (hasB (gr kd p)) (gr kd p).rows.toNat b) ∧ (leE kd p ≠ 0 → b = 0) → a = b := fun a b h k => by
    by_cases he : leE kd p = 0
    · exact (h.1 he).uniq (k.1 he)
    · rw [h.2 he, k.2 he]
  generalize IsLe kd (hasB (gr kd p)) (gr kd p).rows.toNat = II at hb hrb hun
  generalize leE kd p = le at hb hrb hun
  unfold pvl patV
  refine calls_wc [] [] [.tmp 4] (fun _ => [.bool true]) Tryz.func3 rfl rfl (fun _ => rfl) Tryz.ntmps3 rfl (Own.nil w) rfl ?_
  refine gg ?_
  refine wl_op (ok_box rfl rfl rfl rfl rfl ?_); intro bp
  refine wl_none TIs sv ?_
  refine wl_none TIs sv ?_
  refine gg ?_
  refine wl_op (ok_alloc rfl rfl rfl rfl (ze_of rfl) ?_); intro g
  refine wl_giv (g := g) ?_
  (repeat (first | refine gk1 ?_ | refine gk2 ?_ | refine gk3 ?_ | refine gk0 ?_ | refine gk4 ?_))
  refine gg ?_
  refine gc3 [bun (Giv g ⟨none, 0, none, 0, []⟩)] (fun w hst hst1 => gpat_c (p := p) (x := x) ⟨none, 0, none, 0, []⟩ w (op.later (bun_out1 hst1)) hl hl2 (by simp) (bun_out1 hst1).own) (by exact rfl) ?_
  (repeat (first | refine gk1 ?_ | refine gk2 ?_ | refine gk3 ?_ | refine gk0 ?_ | refine gk4 ?_))
  rintro ⟨z1, e1, f1⟩ ⟨h1a, h1b, h1c⟩
  dsimp only [List.cons_append, List.nil_append] at h1a h1b h1c ⊢
  have me1 : e1 ∈ z1.es := by rw [h1a]; simp
  have mf1 : f1 ∈ z1.es := by rw [h1a]; simp
  refine gc3 [] (fun w hst hst1 => hb w ⟨e1.A, e1.c, f1.A, f1.c⟩ (grdG hst me1 mf1 h1b h1c)) (by exact rfl) ?_
  (repeat (first | refine gk1 ?_ | refine gk2 ?_ | refine gk3 ?_ | refine gk0 ?_ | refine gk4 ?_))
  rintro k1 r1
  dsimp only [List.cons_append, List.nil_append]
  refine gg ?_
  refine gc3 [] (fun w hst hst1 => hrb w x (op.now hst)) (by exact rfl) ?_
  (repeat (first | refine gk1 ?_ | refine gk2 ?_ | refine gk3 ?_ | refine gk0 ?_ | refine gk4 ?_))
  rintro k2 r2
  dsimp only [List.cons_append, List.nil_append]
  obtain rfl := hun _ _ r1 r2
  refine gg ?_
  refine gc1 (fun w hst => num_c _ w) (by exact rfl) ?_
  refine gg ?_
  refine gc3 [bun (Giv g z1)] (fun w hst hst1 => gintact_c z1 w (by rw [h1a]; simp) (bun_out1 hst1).own) (by exact rfl) ?_
  (repeat (first | refine gk1 ?_ | refine gk2 ?_ | refine gk3 ?_ | refine gk0 ?_ | refine gk4 ?_))
  rintro _ _
  dsimp only [List.cons_append, List.nil_append]
  refine gg ?_
  refine gc1 (fun w hst => alive_c w) (by exact rfl) ?_
  refine gg ?_
  exact grt () trivial
end
end Go.Proofs.YtoiiellaoikojaaGreat
