/- Walks: colours: the reference's path and circle. Walks: colours: path. Walks: colours: Fault and Check of every kind. -/
import Derived.Test.YtoiiellaoikojaaUA
set_option linter.unusedVariables false
set_option linter.unusedSimpArgs false
set_option maxHeartbeats 8000000
namespace Go.Proofs.Ytoiiellaoikojaa
open Go.RowKit Classical
theorem PaOK.found {F : Int → Int → Bool} {l : List Int} {a b c d : Int} (ha : ∀ a', a' < a → ∀ b c d, ¬ Pa4 F l a' b c d) (hb : ∀ b', b' < b → ∀ c d, ¬ Pa4 F l a b' c d) (hc : ∀ c', c' < c → ∀ d, ¬ Pa4 F l a b c' d) (hd : ∀ d', d' < d → ¬ Pa4 F l a b c d') (hp : Pa4 F l a b c d) : PaOK F l [a, b, c, d] :=
  .inr ⟨a, b, c, d, rfl, hp, fun a' b' c' d' hx hp' => by
    rcases hx with hx | ⟨rfl, hx | ⟨rfl, hx | ⟨rfl, hx⟩⟩⟩
    · exact ha _ hx _ _ _ hp'
    · exact hb _ hx _ _ hp'
    · exact hc _ hx _ hp'
    · exact hd _ hx hp'⟩
section
variable {F : Int → Int → Bool} {n N m : Nat} {on : List Bool} {A B : Option Addr} {c d : Nat} {K : List Int}
/-- the least pair so far -/
def BrI (F : Int → Int → Bool) (n : Nat) (K xs : List Int) (u v : Int) : Prop :=
  (xs = [] ∧ ∀ a b : Int, F a b = true → gt K a ≤ gt K b → (a < u ∨ (a = u ∧ b < v)) → NoCore F n K (gt K a) (gt K b)) ∨
  ∃ c d : Int, xs = [c, d] ∧ c ≤ d ∧ ¬ NoCore F n K c d ∧ ∀ a b : Int, F a b = true → gt K a ≤ gt K b → (a < u ∨ (a = u ∧ b < v)) → ¬ NoCore F n K (gt K a) (gt K b) → c < gt K a ∨ (c = gt K a ∧ d ≤ gt K b)
theorem BrI.same {u v u' v' : Int} {xs : List Int} (h : BrI F n K xs u v) (k : ∀ a b : Int, F a b = true → gt K a ≤ gt K b → (a < u' ∨ (a = u' ∧ b < v')) → (a < u ∨ (a = u ∧ b < v)) ∨ (∃ c d, xs = [c, d] ∧ (c < gt K a ∨ (c = gt K a ∧ d ≤ gt K b))) ∨ NoCore F n K (gt K a) (gt K b)) : BrI F n K xs u' v' := by
  rcases h with ⟨rfl, h⟩ | ⟨c, d, rfl, h1, h2, h3⟩
  · refine .inl ⟨rfl, fun a b e1 e2 e3 => ?_⟩
    rcases k a b e1 e2 e3 with e4 | ⟨_, _, e4, _⟩ | e4
    · exact h a b e1 e2 e4
    · cases e4
    · exact e4
  · refine .inr ⟨c, d, rfl, h1, h2, fun a b e1 e2 e3 e5 => ?_⟩
    rcases k a b e1 e2 e3 with e4 | ⟨_, _, e4, e6⟩ | e4
    · exact h3 a b e1 e2 e4 e5
    · simp only [List.cons.injEq, and_true] at e4
      obtain ⟨rfl, rfl⟩ := e4
      exact e6
    · exact (e5 e4).elim
theorem BrI.put {u v : Int} {xs : List Int} (h : BrI F n K xs u v) (hle : gt K u ≤ gt K v) (hc : ¬ NoCore F n K (gt K u) (gt K v)) (hx : xs = [] ∨ ∃ c1 d1, xs = [c1, d1] ∧ (gt K u < c1 ∨ (gt K u = c1 ∧ gt K v < d1))) : BrI F n K [gt K u, gt K v] u (v + 1) := by
  refine .inr ⟨_, _, rfl, hle, hc, fun a b e1 e2 e3 e5 => ?_⟩
  by_cases e : a = u ∧ b = v
  · rw [e.1, e.2]; omega
  · have e4 : a < u ∨ (a = u ∧ b < v) := by omega
    rcases h with ⟨rfl, h⟩ | ⟨c, d, rfl, h1, h2, h3⟩
    · exact (e5 (h a b e1 e2 e4)).elim
    · have := h3 a b e1 e2 e4 e5
      rcases hx with hx | ⟨c1, d1, hx, hlt⟩
      · cases hx
      · simp only [List.cons.injEq, and_true] at hx
        obtain ⟨rfl, rfl⟩ := hx
        omega
theorem BrI.end_ {xs : List Int} (hon : On n F) (hev : ∀ a b, F a b = true → F b a = true) (hp : ∀ x y, F x y = true → gt K x ≠ gt K y) (h : BrI F n K xs n 0) : CiOK F n K xs := by
  have edge : ∀ c d : Int, c ≤ d → ¬ NoCore F n K c d → ∃ a b : Int, F a b = true ∧ gt K a = c ∧ gt K b = d ∧ a < n := fun c d hcd hc => by
    unfold NoCore at hc
    rw [Classical.not_not] at hc
    obtain ⟨S, ⟨x, hx⟩, h2, h3⟩ := hc
    obtain ⟨p, q, _, k1, _, k2, _⟩ := h3 x hx
    have e1 := hp _ _ k2
    have e2 := h2 x hx
    have e3 := h2 p k1
    by_cases e4 : gt K x = c
    · exact ⟨x, p, k2, e4, by omega, e2.1.2⟩
    · exact ⟨p, x, hev _ _ k2, by omega, by omega, e3.1.2⟩
  rcases h with ⟨rfl, h⟩ | ⟨c, d, rfl, h1, h2, h3⟩
  · refine .inl ⟨rfl, fun c d hcd => Classical.byContradiction fun hn => ?_⟩
    obtain ⟨a, b, e1, e2, e3, e4⟩ := edge c d hcd hn
    exact hn (by rw [← e2, ← e3]; exact h a b e1 (by omega) (.inl e4))
  · refine .inr ⟨c, d, rfl, h1, h2, fun c' d' hcd hn => ?_⟩
    obtain ⟨a, b, e1, e2, e3, e4⟩ := edge c' d' hcd hn
    have := h3 a b e1 (by omega) (.inl e4) (by rw [e2, e3]; exact hn)
    omega
structure BrX where
  u : Int
  A : Option Addr
  c : Nat
  xs : List Int
end
/-- of rising rows: none among the first places, none among the lesser ones -/
theorem row_first {g : Pat} (hm : May g) {a b i : Int} (a0 : 0 ≤ a) (a1 : a < g.rows) (i0 : 0 ≤ i) (i1 : i < (rowL g a).length) (hb : gt (rowL g a) i = b) {φ : Int → Prop} (hφ : ∀ b', φ b' → hasB g a b' = true) (h : ∀ q : Int, 0 ≤ q → q < i → ¬ φ (gt (rowL g a) q)) : ∀ b', b' < b → ¬ φ b' := fun b' hlt hp => by
  obtain ⟨q, q0, q1, e⟩ := (rowL_mem hm a0 a1).1 (hφ b' hp)
  by_cases hq : q < i
  · exact h q q0 hq (by rw [e]; exact hp)
  · by_cases e2 : q = i
    · rw [e2, hb] at e; omega
    · have := rowL_mono hm a0 a1 i0 (show i < q by omega) q1
      omega
theorem row_all {g : Pat} (hm : May g) {a : Int} (a0 : 0 ≤ a) (a1 : a < g.rows) {φ : Int → Prop} (hφ : ∀ b', φ b' → hasB g a b' = true) (h : ∀ q : Int, 0 ≤ q → q < (rowL g a).length → ¬ φ (gt (rowL g a) q)) : ∀ b', ¬ φ b' := fun b' hp => by
  obtain ⟨q, q0, q1, e⟩ := (rowL_mem hm a0 a1).1 (hφ b' hp)
  exact h q q0 q1 (by rw [e]; exact hp)
section
variable {A : Option Addr} {c n nc tb : Nat} {l : List Int} {R : List Res} {g : Pat} {y : PA} {kd : Int} {NA : Option Addr}
set_option maxRecDepth 100000 in
theorem path_c (w : World) (hm : May g) (hn : g.rows = n) (hsq : g.rows = g.width) (hl : RdO vi w ((ThI tb NA nc y kd g R).flatMap Res.fp) A c l) (hln : l.length = n) (hrd : RdB w ((ThI tb NA nc y kd g R).flatMap Res.fp) R y g) (hw : Own (ThI tb NA nc y kd g R) w) :
    Calls Try.prog 104 [.pointer (some ⟨tb, 0, none⟩), .slice A l.length c].toArray w (Ret (ThI tb NA nc y kd g R) (fun z : RX => .slice z.A z.xs.length z.c) (fun z => osl TI vi z.A z.c z.xs :: ThI tb NA nc y kd g R) (fun z => PaOK (hasB g) l z.xs) w) := by
  have HG := hm.toHead
  have hn2 := HG.r1
  have hnl := nearTo_len y g (k := g.rows) HG.r0
  have hin : ∀ {x y : Int}, hasB g x y = true → (0 ≤ x ∧ x < n) ∧ 0 ≤ y ∧ y < n := fun h => by
    have := (hasB_iff.1 h).in_ hm
    omega
  refine calls_wc ((ThI tb NA nc y kd g R).flatMap Res.fp) (ThI tb NA nc y kd g R) [.tmp 4] (fun z : RX => [.slice z.A z.xs.length z.c]) Try.func104 rfl rfl (fun _ => rfl) Try.ntmps104 rfl hw rfl ?_
  have rowR : ∀ {a : Int}, 0 ≤ a → a < n → ∀ {w' : World} {σ : List Res}, St w ((ThI tb NA nc y kd g R).flatMap Res.fp) σ w' → HasR σ (bun R) → Rds vi w' (rowB y g a) (rowL g a).length (rowL g a) := fun a0 a1 _ _ hst hb => rowL_rd HG a0 (by omega) (hrd.now hst hb)
  have rowN : ∀ {a : Int}, 0 ≤ a → a < n → ∀ j : Int, 0 ≤ j → j < (rowL g a).length → (0 ≤ gt (rowL g a) j ∧ gt (rowL g a) j < n) ∧ hasB g a (gt (rowL g a) j) = true := fun a0 a1 j j0 j1 => by
    have hb := (rowL_mem hm a0 (by omega)).2 ⟨j, j0, j1, rfl⟩
    exact ⟨(hin hb).2, hb⟩
  dsimp only [ThI]
  refine gnil ?_
  refine gg ?_
  refine glp (fun a : Int => 0 ≤ a ∧ a ≤ n ∧ ∀ a' : Int, a' < a → ∀ b c d, ¬ Pa4 (hasB g) l a' b c d) (fun a => [(0, .pointer (some ⟨tb, 0, none⟩)), (1, .slice A l.length c), (16, vi n), (17, vi a)])
    (fun _ => osl TI vi none 0 [] :: ThI tb NA nc y kd g R) (fun a => (n - a).toNat) 0 ⟨by omega, by omega, fun q q1 _ _ _ h => by have := (hin h.ab).1; omega⟩ ?_ (hT := .cons rfl (.cons rfl (.cons (look_to rfl (by rw [hnl, hn]; rfl)) (.cons rfl .nil))))
  rintro a ⟨ha0, ha1, hna⟩
  dsimp only [ThI]
  by_cases ha : a < n
  · have hsa := rowL_small (v := a) hm ha0 (by omega)
    refine gg ?_
    rw [nearTo_at y g ha0 (by omega), rowV_eq HG ha0 (by omega)]
    dsimp only [sv]
    refine glp (fun i : Int => 0 ≤ i ∧ i ≤ (rowL g a).length ∧ ∀ q : Int, 0 ≤ q → q < i → ¬ ∃ c d, Pa4 (hasB g) l a (gt (rowL g a) q) c d) (fun i => [(0, .pointer (some ⟨tb, 0, none⟩)), (1, .slice A l.length c), (5, vi a), (16, vi n), (17, vi a), (26, .slice (rowB y g a) (rowL g a).length (rowL g a).length), (27, vi (rowL g a).length), (28, vi i)])
      (fun _ => osl TI vi none 0 [] :: ThI tb NA nc y kd g R) (fun i => ((rowL g a).length - i).toNat) 0 ⟨by omega, by omega, fun q q0 q1 => by omega⟩ ?_
    rintro i ⟨hi0, hi1, hni⟩
    dsimp only [ThI]
    by_cases hi : i < (rowL g a).length
    · obtain ⟨hb, hab⟩ := rowN ha0 ha i hi0 hi
      have nxi : (¬ ∃ c d, Pa4 (hasB g) l a (gt (rowL g a) i) c d) → ∀ q : Int, 0 ≤ q → q < i + 1 → ¬ ∃ c d, Pa4 (hasB g) l a (gt (rowL g a) q) c d := fun h q q0 q1 => by
        by_cases e : q = i
        · rw [e]; exact h
        · exact hni q q0 (by omega)
      refine wc_know (φ := ∃ ad, rowB y g a = some ad) (fun w hst => (rowR ha0 ha hst (by (repeat (first | exact .here | refine .there ?_)))).ad_ (by omega)) ?_
      rintro ⟨sa, hsA⟩
      rw [hsA]
      refine gg ?_
      refine wl_v rfl rfl rfl (val_load rfl rfl (ag_of rfl) (fun w hst => by rw [← hsA]; exact (rowR ha0 ha hst (by (repeat (first | exact .here | refine .there ?_)))).cell hi0 hi)) ?_
      generalize hbe : gt (rowL g a) i = b at hb hab nxi ⊢
      have hsb := rowL_small (v := b) hm hb.1 (by omega)
      refine gg ?_
      rw [nearTo_at y g hb.1 (by omega), rowV_eq HG hb.1 (by omega)]
      dsimp only [sv]
      refine glp (fun j : Int => 0 ≤ j ∧ j ≤ (rowL g b).length ∧ ∀ q : Int, 0 ≤ q → q < j → ¬ ∃ d, Pa4 (hasB g) l a b (gt (rowL g b) q) d) (fun j => [(0, .pointer (some ⟨tb, 0, none⟩)), (1, .slice A l.length c), (5, vi a), (7, vi b), (16, vi n), (17, vi a), (26, .slice (some sa) (rowL g a).length (rowL g a).length), (27, vi (rowL g a).length), (28, vi i), (38, .slice (rowB y g b) (rowL g b).length (rowL g b).length), (39, vi (rowL g b).length), (40, vi j)])
        (fun _ => osl TI vi none 0 [] :: ThI tb NA nc y kd g R) (fun j => ((rowL g b).length - j).toNat) 0 ⟨by omega, by omega, fun q q0 q1 => by omega⟩ ?_
      rintro j ⟨hj0, hj1, hnj⟩
      dsimp only [ThI]
      by_cases hj : j < (rowL g b).length
      · obtain ⟨hc, hbc⟩ := rowN hb.1 hb.2 j hj0 hj
        have nxj : (¬ ∃ d, Pa4 (hasB g) l a b (gt (rowL g b) j) d) → ∀ q : Int, 0 ≤ q → q < j + 1 → ¬ ∃ d, Pa4 (hasB g) l a b (gt (rowL g b) q) d := fun h q q0 q1 => by
          by_cases e : q = j
          · rw [e]; exact h
          · exact hnj q q0 (by omega)
        refine wc_know (φ := ∃ ad, rowB y g b = some ad) (fun w hst => (rowR hb.1 hb.2 hst (by (repeat (first | exact .here | refine .there ?_)))).ad_ (by omega)) ?_
        rintro ⟨sb, hsB⟩
        rw [hsB]
        refine gg ?_
        refine wl_v rfl rfl rfl (val_load rfl rfl (ag_of rfl) (fun w hst => by rw [← hsB]; exact (rowR hb.1 hb.2 hst (by (repeat (first | exact .here | refine .there ?_)))).cell hj0 hj)) ?_
        generalize hce : gt (rowL g b) j = e at hc hbc nxj ⊢
        have hse := rowL_small (v := e) hm hc.1 (by omega)
        by_cases h1 : e = a
        · refine gg ?_
          refine wc_quiet mixed (by kernel_rfl) ?_
          refine gg ?_
          rw [← hsB]
          exact gnx (j + 1) ⟨by omega, by omega, nxj fun ⟨_, h⟩ => h.ca h1⟩ (by omega)
        by_cases h2 : gt l e = gt l a
        · refine gg ?_
          refine wc_quiet mixed (by kernel_rfl) ?_
          refine gg ?_
          rw [nearTo_at y g hc.1 (by omega), rowV_eq HG hc.1 (by omega)]
          dsimp only [sv]
          refine glp (fun k : Int => 0 ≤ k ∧ k ≤ (rowL g e).length ∧ ∀ q : Int, 0 ≤ q → q < k → ¬ Pa4 (hasB g) l a b e (gt (rowL g e) q)) (fun k => [(0, .pointer (some ⟨tb, 0, none⟩)), (1, .slice A l.length c), (5, vi a), (7, vi b), (9, vi e), (16, vi n), (17, vi a), (26, .slice (some sa) (rowL g a).length (rowL g a).length), (27, vi (rowL g a).length), (28, vi i), (38, .slice (some sb) (rowL g b).length (rowL g b).length), (39, vi (rowL g b).length), (40, vi j), (64, .slice (rowB y g e) (rowL g e).length (rowL g e).length), (65, vi (rowL g e).length), (66, vi k)])
            (fun _ => osl TI vi none 0 [] :: ThI tb NA nc y kd g R) (fun k => ((rowL g e).length - k).toNat) 0 ⟨by omega, by omega, fun q q0 q1 => by omega⟩ ?_
          rintro k ⟨hk0, hk1, hnk⟩
          dsimp only [ThI]
          by_cases hk : k < (rowL g e).length
          · obtain ⟨hd, hcd⟩ := rowN hc.1 hc.2 k hk0 hk
            have nxk : ¬ Pa4 (hasB g) l a b e (gt (rowL g e) k) → ∀ q : Int, 0 ≤ q → q < k + 1 → ¬ Pa4 (hasB g) l a b e (gt (rowL g e) q) := fun h q q0 q1 => by
              by_cases e2 : q = k
              · rw [e2]; exact h
              · exact hnk q q0 (by omega)
            refine wc_know (φ := ∃ ad, rowB y g e = some ad) (fun w hst => (rowR hc.1 hc.2 hst (by (repeat (first | exact .here | refine .there ?_)))).ad_ (by omega)) ?_
            rintro ⟨se, hsE⟩
            rw [hsE]
            refine gg ?_
            refine wl_v rfl rfl rfl (val_load rfl rfl (ag_of rfl) (fun w hst => by rw [← hsE]; exact (rowR hc.1 hc.2 hst (by (repeat (first | exact .here | refine .there ?_)))).cell hk0 hk)) ?_
            generalize hde : gt (rowL g e) k = d at hd hcd nxk ⊢
            by_cases h3 : a < d
            · by_cases h4 : d = b
              · refine gg ?_
                refine wc_quiet mixed (by kernel_rfl) ?_
                refine gg ?_
                rw [← hsE]
                exact gnx (k + 1) ⟨by omega, by omega, nxk fun h => h.db h4⟩ (by omega)
              by_cases h5 : gt l d = gt l b
              · have hp : Pa4 (hasB g) l a b e d := ⟨hab, hbc, hcd, h1, h4, h3, h2, h5⟩
                have hP : PaOK (hasB g) l [a, b, e, d] := PaOK.found hna
                  (fun b' hb' c d h => row_first hm ha0 (by omega) hi0 hi hbe (φ := fun b' => ∃ c d, Pa4 (hasB g) l a b' c d) (fun _ ⟨_, _, h⟩ => h.ab) hni b' hb' ⟨c, d, h⟩)
                  (fun c' hc' d h => row_first hm hb.1 (by omega) hj0 hj hce (φ := fun c' => ∃ d, Pa4 (hasB g) l a b c' d) (fun _ ⟨_, h⟩ => h.bc) hnj c' hc' ⟨d, h⟩)
                  (fun d' hd' h => row_first hm hc.1 (by omega) hk0 hk hde (φ := fun d' => Pa4 (hasB g) l a b e d') (fun _ h => h.cd) hnk d' hd' h) hp
                refine gg ?_
                refine wc_quiet mixed (by kernel_rfl) ?_
                refine gg ?_
                refine wl_op (ok_buildSlice vi [a, b, e, d] (ps := [(0, vi a), (1, vi b), (2, vi e), (3, vi d)]) rfl rfl rfl rfl rfl (el_of rfl) (ze_of rfl) (sz_of rfl) rfl (by decide) (by decide) (by kernel_rfl) ?_)
                intro q
                refine gg ?_
                exact grt (⟨some ⟨q, 0, none⟩, 4, [a, b, e, d]⟩ : RX) hP
              · refine gg ?_
                refine wc_quiet mixed (by kernel_rfl) ?_
                refine gg ?_
                rw [← hsE]
                exact gnx (k + 1) ⟨by omega, by omega, nxk fun h => h5 h.kd⟩ (by omega)
            · refine gg ?_
              refine wc_quiet mixed (by kernel_rfl) ?_
              refine gg ?_
              rw [← hsE]
              exact gnx (k + 1) ⟨by omega, by omega, nxk fun h => h3 h.ad⟩ (by omega)
          · obtain rfl : k = (rowL g e).length := by omega
            have hne := row_all hm hc.1 (by omega) (φ := fun d' => Pa4 (hasB g) l a b e d') (fun _ h => h.cd) hnk
            refine gg ?_
            rw [← hsB]
            exact gnx (j + 1) ⟨by omega, by omega, nxj fun ⟨d, h⟩ => hne d h⟩ (by omega)
        · refine gg ?_
          refine wc_quiet mixed (by kernel_rfl) ?_
          refine gg ?_
          rw [← hsB]
          exact gnx (j + 1) ⟨by omega, by omega, nxj fun ⟨_, h⟩ => h2 h.kc⟩ (by omega)
      · obtain rfl : j = (rowL g b).length := by omega
        have hne := row_all hm hb.1 (by omega) (φ := fun c' => ∃ d, Pa4 (hasB g) l a b c' d) (fun _ ⟨_, h⟩ => h.bc) hnj
        refine gg ?_
        rw [← hsA]
        exact gnx (i + 1) ⟨by omega, by omega, nxi fun ⟨c, d, h⟩ => hne c ⟨d, h⟩⟩ (by omega)
    · obtain rfl : i = (rowL g a).length := by omega
      have hne := row_all hm ha0 (by omega) (φ := fun b' => ∃ c d, Pa4 (hasB g) l a b' c d) (fun _ ⟨_, _, h⟩ => h.ab) hni
      refine gg ?_
      exact gnx (a + 1) ⟨by omega, by omega, fun q q1 => by
        by_cases e : q = a
        · rw [e]; exact fun b c d h => hne b ⟨c, d, h⟩
        · exact hna q (by omega)⟩ (by omega)
  obtain rfl : a = n := by omega
  refine gg ?_
  exact grt (⟨none, 0, []⟩ : RX) (.inl ⟨rfl, fun a' b' c' d' h => hna a' (hin h.ab).1.2 _ _ _ h⟩)
end
section
variable {n : Nat} {w0 : World} {D : List Nat} {Γ : Tm} {σ : List Res} {ops : Array Oper} {o : Oper} {os : List Oper} {Q : QQ}
/-- a call of a function value: the pieces σ1 are handed in -/
theorem gcv {α : Type} (σ1 : List Res) {dd : Nat} {gO : Operand} {f : FuncId} {first captured : List Value} {args : Array Operand} {tys : Array TypeId} {vs : List Value} {vf : α → Value} {ρ : α → List Res} {φ : α → Prop} (hc : ∀ w, St w0 D σ w → St w0 D σ1 w → Calls Try.prog f (first ++ vs ++ captured).toArray w (Ret σ1 vf ρ φ w)) (hop : o.op = .call { callee := .value gO, args := args, argTypes := tys })
    (hgv : ev Γ gO = some (.func (.func f) first.toArray captured.toArray)) (ha : args.toList.map (ev Γ) = vs.map some) (hb : bodied Try.prog f = true) (hg : gd Γ ops o = some true) (hd : o.dst = some dd) (hdn : Nat.blt dd n = true) (k : SubK σ1 σ (fun σ2 => ∀ x, φ x → WL Try.prog n w0 D ops os Q ((dd, vf x) :: Γ) (ρ x ++ σ2))) : WL Try.prog n w0 D ops (o :: os) Q Γ σ := by
  obtain ⟨σ2, hp, k⟩ := k
  exact wl_callv σ1 σ2 (fun w hst => hc w hst (St.keep (hst.perm hp))) hop hgv ha hb hg hd hdn hp k
end
section
variable {g p : Pat} {x y : PA} {kd N : Int} {A NA : Option Addr} {c n nc tb m : Nat} {l : List Int} {R : TX → List Res} {yf : TX → PA}
theorem further4_c (w : World) (hw : Own [blk tb (thC N NA m nc 4) TTh] w) :
    Calls Try.prog 77 [.pointer (some ⟨tb, 0, none⟩)].toArray w (Ret [blk tb (thC N NA m nc 4) TTh] (fun _ : Unit => .func (.func 104) #[.pointer (some ⟨tb, 0, none⟩)] #[]) (fun _ => [blk tb (thC N NA m nc 4) TTh]) (fun _ => True) w) := by
  refine calls_wc ([blk tb (thC N NA m nc 4) TTh].flatMap Res.fp) [blk tb (thC N NA m nc 4) TTh] [.tmp 2] (fun _ => [.func (.func 104) #[.pointer (some ⟨tb, 0, none⟩)] #[]]) Try.func77 rfl rfl (fun _ => rfl) Try.ntmps77 rfl hw rfl ?_
  refine gg ?_
  exact grt () trivial
theorem further5_c (w : World) (hw : Own [blk tb (thC N NA m nc 5) TTh] w) :
    Calls Try.prog 77 [.pointer (some ⟨tb, 0, none⟩)].toArray w (Ret [blk tb (thC N NA m nc 5) TTh] (fun _ : Unit => .func (.func 105) #[.pointer (some ⟨tb, 0, none⟩)] #[]) (fun _ => [blk tb (thC N NA m nc 5) TTh]) (fun _ => True) w) := by
  refine calls_wc ([blk tb (thC N NA m nc 5) TTh].flatMap Res.fp) [blk tb (thC N NA m nc 5) TTh] [.tmp 2] (fun _ => [.func (.func 105) #[.pointer (some ⟨tb, 0, none⟩)] #[]]) Try.func77 rfl rfl (fun _ => rfl) Try.ntmps77 rfl hw rfl ?_
  refine gg ?_
  exact grt () trivial
/-- what shows that colours are not of a kind -/
def FaOK (kd : Int) (p g : Pat) (n : Nat) (l xs : List Int) : Prop :=
  (NoAl g l n 0 ∧ (kd ≠ 4 → kd ≠ 5 → xs = []) ∧ (kd = 4 → PaOK (hasB g) l xs) ∧ (kd = 5 → CiOK (hasB g) n l xs)) ∨
  ∃ u v : Int, 0 ≤ u ∧ u < v ∧ v < n ∧ hasB g u v = true ∧ gt l u = gt l v ∧ NoAl g l u v ∧ (((kd = 1 ∨ kd = 4 ∨ kd = 5) ∧ xs = [u, v]) ∨ (kd = 2 ∧ ∃ k, xs = [u, v, k] ∧ MtOK p u v k) ∨ (kd = 3 ∧ ∃ k, xs = [u, v, k] ∧ MtOK (turnP p) u v k))
theorem FtOK.fa {xs : List Int} (hk : kd = 1 ∨ kd = 2 ∨ kd = 3) (h : FtOK kd p g n l xs) : FaOK kd p g n l xs := by
  rcases h with ⟨rfl, h⟩ | ⟨u, v, h1, h2, h3, h4, h5, h6, h7⟩
  · exact .inl ⟨h, fun _ _ => rfl, fun h => by omega, fun h => by omega⟩
  · exact .inr ⟨u, v, h1, h2, h3, h4, h5, h6, h7.imp (fun h => ⟨.inl h.1, h.2⟩) id⟩
theorem noAl_proper (hev : ∀ a b, hasB g a b = true → hasB g b a = true) (hin : ∀ x y, hasB g x y = true → (0 ≤ x ∧ x < n) ∧ 0 ≤ y ∧ y < n) (hirr : ∀ u, hasB g u u = false) (h : NoAl g l n 0) : ∀ x y, hasB g x y = true → gt l x ≠ gt l y := fun x y hb => by
  have hi := hin x y hb
  by_cases e : x < y
  · exact h x y hb e (.inl hi.1.2)
  · by_cases e2 : x = y
    · rw [e2, hirr] at hb; cases hb
    · exact fun e3 => h y x (hev _ _ hb) (by omega) (.inl hi.2.2) e3.symm
theorem fault45_ok (w : World) (hk : kd = 4 ∨ kd = 5) (hm : May g) (hn : g.rows = n) (hsq : g.rows = g.width) (hev : ∀ a b, hasB g a b = true → hasB g b a = true) (hirr : ∀ u, hasB g u u = false) (hp : RdP w x p) (hl : Rds vi w A c l) (hs : l.length ≤ 17592186043904)
    (htk : ∀ w', Only [] w w' → Calls Try.prog 67 [vi kd, pvl x p].toArray w' (Ret [] (fun t : TX => .tuple #[.pointer (some ⟨t.tb, 0, none⟩), vi 0]) (ThR R yf kd g) (fun _ => True) w')) (hrd : ∀ t, RdB w [] (R t) (yf t) g) :
    Calls Try.prog 38 [vi kd, pvl x p, .slice A l.length c].toArray w (Ret [] (fun z : RX => .tuple #[.slice z.A z.xs.length z.c, vi (ftE n l)]) (fun z => [osl TI vi z.A z.c z.xs]) (fun z => (ftE n l = 0 → FaOK kd p g n l z.xs) ∧ (ftE n l ≠ 0 → z.xs = [])) w) := by
  have HG := hm.toHead
  have hn2 := HG.r1
  have hn0 := HG.r0
  have hin : ∀ x y, hasB g x y = true → (0 ≤ x ∧ x < n) ∧ 0 ≤ y ∧ y < n := fun x y h => by
    have := (hasB_iff.1 h).in_ hm
    omega
  have op := hp.old
  have oL := hl.old
  unfold pvl patV at *
  refine calls_wc [] [] [.tmp 6, .tmp 7] (fun z : RX => [.slice z.A z.xs.length z.c, vi (ftE n l)]) Try.func38 rfl rfl (fun _ => rfl) Try.ntmps38 rfl (Own.nil w) rfl ?_
  refine gnil ?_
  refine gg ?_
  refine wl_op (ok_box rfl rfl rfl rfl rfl ?_); intro bp
  refine gg ?_
  refine gc3 [] (fun w hst hst1 => htk w hst1.only) (by exact rfl) ?_
  (repeat (first | refine gk1 ?_ | refine gk2 ?_ | refine gk3 ?_ | refine gk0 ?_ | refine gk4 ?_))
  rintro ⟨tb, NA, nc, y⟩ _
  dsimp only [List.cons_append, List.nil_append]
  generalize hRy : R ⟨tb, NA, nc, y⟩ = RR
  have hrd' := hrd ⟨tb, NA, nc, y⟩
  rw [hRy] at hrd'
  generalize yf ⟨tb, NA, nc, y⟩ = yy at hrd'
  by_cases hc : ColOK n l
  · have hE : ftE n l = 0 := if_pos hc
    rw [hE]
    have hcl := hc.1
    refine gg ?_
    refine gc3 [blk tb (thC g.rows NA (nearTo yy g g.rows).length nc kd) TTh] (fun w hst hst1 => coloured_c (N := g.rows) w (oL.later hst1) hs 0 (by rw [hn]; simp [hc]) hst1.own) (by exact rfl) ?_
    (repeat (first | refine gk1 ?_ | refine gk2 ?_ | refine gk3 ?_ | refine gk0 ?_ | refine gk4 ?_))
    rintro _ _
    dsimp only [List.cons_append, List.nil_append]
    refine gg ?_
    refine gc3 (ThI tb NA nc yy kd g RR) (fun w hst hst1 => alike_col_c (n := n) w hm hn hsq (oL.later hst1) (by omega) (hrd'.later hst1) hst1.own) (by exact rfl) ?_
    dsimp only [ThI]
    (repeat (first | refine gk1 ?_ | refine gk2 ?_ | refine gk3 ?_ | refine gk0 ?_ | refine gk4 ?_))
    rintro ⟨B, d, xs⟩ hal
    dsimp only [ThI, List.cons_append, List.nil_append] at hal ⊢
    rcases hal with ⟨rfl, hno⟩ | ⟨u, v, hxx, u0, uv, v1, hb, he, hno⟩
    · dsimp only [List.length_nil]
      rcases hk with rfl | rfl
      · refine gg ?_
        refine gc3 [blk tb (thC g.rows NA (nearTo yy g g.rows).length nc 4) TTh] (fun w hst hst1 => further4_c (N := g.rows) w hst1.own) (by exact rfl) ?_
        (repeat (first | refine gk1 ?_ | refine gk2 ?_ | refine gk3 ?_ | refine gk0 ?_ | refine gk4 ?_))
        rintro _ _
        dsimp only [List.cons_append, List.nil_append]
        refine gg ?_
        refine gcv (ThI tb NA nc yy 4 g RR) (first := [.pointer (some ⟨tb, 0, none⟩)]) (captured := []) (vs := [.slice A l.length c]) (f := 104) (fun w hst hst1 => path_c (n := n) w hm hn hsq (oL.later hst1) (by omega) (hrd'.later hst1) hst1.own) (by rfl) (by rfl) (by rfl) (bod_of rfl) (by rfl) (by rfl) (by rfl) ?_
        dsimp only [ThI]
        (repeat (first | refine gk1 ?_ | refine gk2 ?_ | refine gk3 ?_ | refine gk0 ?_ | refine gk4 ?_))
        rintro ⟨B2, d2, xs2⟩ hpa
        dsimp only [ThI, List.cons_append, List.nil_append] at hpa ⊢
        refine gg ?_
        exact grt (⟨B2, d2, xs2⟩ : RX) ⟨fun _ => .inl ⟨hno, fun h => (h rfl).elim, fun _ => hpa, fun h => by omega⟩, fun h => (h rfl).elim⟩
      · refine gg ?_
        refine gc3 [blk tb (thC g.rows NA (nearTo yy g g.rows).length nc 5) TTh] (fun w hst hst1 => further5_c (N := g.rows) w hst1.own) (by exact rfl) ?_
        (repeat (first | refine gk1 ?_ | refine gk2 ?_ | refine gk3 ?_ | refine gk0 ?_ | refine gk4 ?_))
        rintro _ _
        dsimp only [List.cons_append, List.nil_append]
        refine gg ?_
        refine gcv (ThI tb NA nc yy 5 g RR) (first := [.pointer (some ⟨tb, 0, none⟩)]) (captured := []) (vs := [.slice A l.length c]) (f := 105) (fun w hst hst1 => circle_c (n := n) w hm hn hsq hev (oL.later hst1) (by omega) hc.2 (noAl_proper hev hin hirr hno) (hrd'.later hst1) hst1.own) (by rfl) (by rfl) (by rfl) (bod_of rfl) (by rfl) (by rfl) (by rfl) ?_
        dsimp only [ThI]
        (repeat (first | refine gk1 ?_ | refine gk2 ?_ | refine gk3 ?_ | refine gk0 ?_ | refine gk4 ?_))
        rintro ⟨B2, d2, xs2⟩ hpa
        dsimp only [ThI, List.cons_append, List.nil_append] at hpa ⊢
        refine gg ?_
        exact grt (⟨B2, d2, xs2⟩ : RX) ⟨fun _ => .inl ⟨hno, fun _ h => (h rfl).elim, fun h => by omega, fun _ => hpa⟩, fun h => (h rfl).elim⟩
    · have hx2 : xs.length = 2 := by rw [hxx]; rfl
      have hP : FaOK kd p g n l xs := .inr ⟨u, v, u0, uv, v1, hb, he, hno, .inl ⟨.inr hk, hxx⟩⟩
      refine gg ?_
      exact grt (⟨B, d, xs⟩ : RX) ⟨fun _ => hP, fun h => (h rfl).elim⟩
  · have hE : ftE n l = 240 := if_neg hc
    rw [hE]
    refine gg ?_
    refine gc3 [blk tb (thC g.rows NA (nearTo yy g g.rows).length nc kd) TTh] (fun w hst hst1 => coloured_c (N := g.rows) w (oL.later hst1) hs 240 (by rw [hn]; simp [hc]) hst1.own) (by exact rfl) ?_
    (repeat (first | refine gk1 ?_ | refine gk2 ?_ | refine gk3 ?_ | refine gk0 ?_ | refine gk4 ?_))
    rintro _ _
    dsimp only [List.cons_append, List.nil_append]
    refine gg ?_
    exact grt (⟨none, 0, []⟩ : RX) ⟨fun h => absurd h (by decide), fun _ => rfl⟩
end
noncomputable def faE (kd : Int) (p : Pat) (l : List Int) : Int := if thE kd p ≠ 0 then thE kd p else ftE (thN kd p) l
section
variable {p : Pat} {x : PA} {kd : Int} {A : Option Addr} {c : Nat} {l : List Int}
theorem gr_gr (he : thE kd p = 0) : IsGr (gr kd p) ∧ (gr kd p).rows = thN kd p ∧ hasB (gr kd p) = thF kd p := by
  obtain ⟨hm, h⟩ := thE_zero he
  rcases h with ⟨hk1, hg⟩ | rfl | rfl
  · have k2 : kd ≠ 2 := by omega
    have k3 : kd ≠ 3 := by omega
    rw [show gr kd p = p by unfold gr; rw [if_neg k2, if_neg k3]]
    exact ⟨hg, (if_neg k2).symm, ((if_neg k2).trans (if_neg k3)).symm⟩
  · rw [show gr 2 p = (colsS p).1 by unfold gr; rw [if_pos rfl]]
    obtain ⟨f1, f2, f3, f4⟩ := cols_facts hm
    exact ⟨gr_cols hm, by rw [f2]; exact (if_pos rfl).symm, by rw [f4]; exact (if_pos rfl).symm⟩
  · rw [show gr 3 p = (rowsS p).1 by unfold gr; rw [if_neg (by decide), if_pos rfl]]
    obtain ⟨f1, f2, f3, f4⟩ := rows_facts hm
    exact ⟨gr_rows hm, by rw [f2]; exact (if_neg (by decide)).symm, by rw [f4]; exact ((if_neg (by decide)).trans (if_pos rfl)).symm⟩
theorem faultE_c (w : World) (hp : RdP w x p) (he : thE kd p ≠ 0) :
    Calls Try.prog 38 [vi kd, pvl x p, .slice A l.length c].toArray w (Ret [] (fun z : RX => .tuple #[.slice z.A z.xs.length z.c, vi (thE kd p)]) (fun z => [osl TI vi z.A z.c z.xs]) (fun z => z.xs = []) w) := by
  have op := hp.old
  have htk : ∀ w, RdP w x p → _ := fun w h => takenE_c (k := kd) (p := p) (x := x) w h he
  generalize thE kd p = e at *
  unfold pvl patV at *
  refine calls_wc [] [] [.tmp 6, .tmp 7] (fun z : RX => [.slice z.A z.xs.length z.c, vi e]) Try.func38 rfl rfl (fun _ => rfl) Try.ntmps38 rfl (Own.nil w) rfl ?_
  refine gnil ?_
  refine gg ?_
  refine wl_op (ok_box rfl rfl rfl rfl rfl ?_); intro bp
  refine gg ?_
  refine gc1 (fun w hst => htk w (op.now hst)) (by exact rfl) ?_
  refine gg ?_
  exact grt (⟨none, 0, []⟩ : RX) rfl
/-- Fault of every kind, pattern and colours -/
theorem fault_c (w : World) (hp : RdP w x p) (hl : Rds vi w A c l) (hs : l.length ≤ 17592186043904) :
    Calls Try.prog 38 [vi kd, pvl x p, .slice A l.length c].toArray w (Ret [] (fun z : RX => .tuple #[.slice z.A z.xs.length z.c, vi (faE kd p l)]) (fun z => [osl TI vi z.A z.c z.xs]) (fun z => (faE kd p l = 0 → FaOK kd p (gr kd p) (gr kd p).rows.toNat l z.xs) ∧ (faE kd p l ≠ 0 → z.xs = [])) w) := by
  by_cases he : thE kd p = 0
  · obtain ⟨hm, h⟩ := thE_zero he
    obtain ⟨g1, g2, g3⟩ := gr_gr he
    have h0 := g1.1.1.toHead.r0
    have hE : faE kd p l = ftE (gr kd p).rows.toNat l := by unfold faE; rw [if_neg (not_not_intro he), ← g2, show (((gr kd p).rows.toNat : Nat) : Int) = (gr kd p).rows by omega]
    rw [hE]
    have hev : ∀ a b, hasB (gr kd p) a b = true → hasB (gr kd p) b a = true := fun a b h => by rw [← g1.sym]; exact h
    rcases h with ⟨hk1, hg⟩ | hk2 | hk3
    · have e : gr kd p = p := by unfold gr; rw [if_neg (by omega), if_neg (by omega)]
      rw [e] at g1 hev h0 ⊢
      by_cases hk : kd = 1
      · exact (fault_ok (R := fun _ => []) (yf := fun _ => x) w (.inl hk) hm (by omega) hg.1.2.1 hp hm hl hs (fun w' ho' => tkG_c w' ⟨hp.s.only ho', hp.c.only ho'⟩ hm hg hk1) (fun t => RdB.nil hp.old)).mono fun e w' h => ret_val h fun z hz => ⟨rfl, fun h => (hz.1 h).fa (.inl hk), hz.2⟩
      · exact fault45_ok (R := fun _ => []) (yf := fun _ => x) w (by omega) hm (by omega) hg.1.2.1 hev hg.irr hp hl hs (fun w' ho' => tkG_c w' ⟨hp.s.only ho', hp.c.only ho'⟩ hm hg hk1) (fun t => RdB.nil hp.old)
    · obtain ⟨f1, f2, f3, f4⟩ := cols_facts hm
      have e : gr kd p = (colsS p).1 := by unfold gr; rw [if_pos hk2]
      rw [e] at h0 ⊢
      exact (fault_ok (R := fun t => PatR t.y (colsS p).1) (yf := fun t => t.y) w (.inr (.inl hk2)) f1 (by omega) (by omega) hp hm hl hs (fun w' ho' => tkcols_c w' ⟨hp.s.only ho', hp.c.only ho'⟩ hm hk2) (fun t => RdB.own)).mono fun e w' h => ret_val h fun z hz => ⟨rfl, fun h => (hz.1 h).fa (.inr (.inl hk2)), hz.2⟩
    · obtain ⟨f1, f2, f3, f4⟩ := rows_facts hm
      have e : gr kd p = (rowsS p).1 := by unfold gr; rw [if_neg (by omega), if_pos hk3]
      rw [e] at h0 ⊢
      exact (fault_ok (R := fun t => PatR t.y (rowsS p).1) (yf := fun t => t.y) w (.inr (.inr hk3)) f1 (by omega) (by omega) hp hm hl hs (fun w' ho' => tkrows_c w' ⟨hp.s.only ho', hp.c.only ho'⟩ hm hk3) (fun t => RdB.own)).mono fun e w' h => ret_val h fun z hz => ⟨rfl, fun h => (hz.1 h).fa (.inr (.inr hk3)), hz.2⟩
  · have hE : faE kd p l = thE kd p := by unfold faE; rw [if_pos he]
    rw [hE]
    exact (faultE_c w hp he).mono fun e w' h => ret_val h fun z hz => ⟨rfl, fun h => (he h).elim, fun _ => hz⟩
/-- colours are of a kind -/
def Fine (kd : Int) (F : Int → Int → Bool) (n : Nat) (l : List Int) : Prop := (∀ x y, F x y = true → gt l x ≠ gt l y) ∧ (kd = 4 → ∀ a b c d, ¬ Pa4 F l a b c d) ∧ (kd = 5 → ∀ c d : Int, c ≤ d → NoCore F n l c d)
noncomputable def ckA (kd : Int) (p : Pat) (l : List Int) : Int := if thE kd p ≠ 0 then thE kd p else if ColOK (thN kd p) l then (if Fine kd (thF kd p) (thN kd p).toNat l then 0 else 241) else 240
theorem FaOK.nil_iff {g : Pat} {n : Nat} {xs : List Int} (hg : IsGr g) (hn : g.rows = n) (h : FaOK kd p g n l xs) : xs = [] ↔ Fine kd (hasB g) n l := by
  have hin : ∀ x y, hasB g x y = true → (0 ≤ x ∧ x < n) ∧ 0 ≤ y ∧ y < n := fun x y h => by
    have := (hasB_iff.1 h).in_ hg.1.1
    have := hg.1.2.1
    omega
  have hev : ∀ a b, hasB g a b = true → hasB g b a = true := fun a b h => by rw [← hg.sym]; exact h
  rcases h with ⟨h1, h2, h3, h4⟩ | ⟨u, v, h1, h2, h3, h4, h5, h6, h7⟩
  · have hpr := noAl_proper hev hin hg.irr h1
    constructor
    · rintro rfl
      refine ⟨hpr, fun hk => ?_, fun hk => ?_⟩
      · rcases h3 hk with ⟨_, h⟩ | ⟨_, _, _, _, h, _⟩
        · exact h
        · cases h
      · rcases h4 hk with ⟨_, h⟩ | ⟨_, _, h, _⟩
        · exact h
        · cases h
    · rintro ⟨_, k4, k5⟩
      by_cases e4 : kd = 4
      · rcases h3 e4 with ⟨h, _⟩ | ⟨_, _, _, _, _, h, _⟩
        · exact h
        · exact (k4 e4 _ _ _ _ h).elim
      · by_cases e5 : kd = 5
        · rcases h4 e5 with ⟨h, _⟩ | ⟨c, d, _, h, h', _⟩
          · exact h
          · exact (h' (k5 e5 c d h)).elim
        · exact h2 e4 e5
  · constructor
    · rintro rfl
      rcases h7 with ⟨_, h⟩ | ⟨_, _, h, _⟩ | ⟨_, _, h, _⟩ <;> cases h
    · exact fun h => (h.1 u v h4 h5).elim
theorem check_c (w : World) (hp : RdP w x p) (hl : Rds vi w A c l) (hs : l.length ≤ 17592186043904) :
    Calls Try.prog 39 [vi kd, pvl x p, .slice A l.length c].toArray w (one (vi (ckA kd p l)) w) := by
  have op := hp.old
  have oL := hl.old
  have hft : ∀ w, RdP w x p → Rds vi w A c l → _ := fun w h k => fault_c (kd := kd) w h k hs
  have hck : ∀ xs : List Int, (faE kd p l = 0 → FaOK kd p (gr kd p) (gr kd p).rows.toNat l xs) → (faE kd p l ≠ 0 → xs = []) → (faE kd p l = 0 → xs ≠ [] → ckA kd p l = 241) ∧ (faE kd p l = 0 → xs = [] → ckA kd p l = 0) ∧ (faE kd p l ≠ 0 → ckA kd p l = faE kd p l) := fun xs h1 h2 => by
    by_cases he : thE kd p = 0
    · obtain ⟨g1, g2, g3⟩ := gr_gr he
      have h0 := g1.1.1.toHead.r0
      have e1 : faE kd p l = ftE (thN kd p) l := by unfold faE; rw [if_neg (not_not_intro he)]
      have e2 : ckA kd p l = if ColOK (thN kd p) l then (if Fine kd (thF kd p) (thN kd p).toNat l then 0 else 241) else 240 := by unfold ckA; rw [if_neg (not_not_intro he)]
      by_cases hc : ColOK (thN kd p) l
      · have e3 : faE kd p l = 0 := by rw [e1]; exact if_pos hc
        have hi := (h1 e3).nil_iff g1 (by omega)
        rw [g3, g2] at hi
        rw [e2, if_pos hc]
        refine ⟨fun _ hx => if_neg fun h => hx (hi.2 h), fun _ hx => if_pos (hi.1 hx), fun h => (h e3).elim⟩
      · have e3 : faE kd p l = 240 := by rw [e1]; exact if_neg hc
        rw [e2, if_neg hc, e3]
        exact ⟨fun h => by omega, fun h => by omega, fun _ => rfl⟩
    · have e1 : faE kd p l = thE kd p := by unfold faE; rw [if_pos he]
      have e2 : ckA kd p l = thE kd p := by unfold ckA; rw [if_pos he]
      rw [e1, e2]
      exact ⟨fun h => (he h).elim, fun h => (he h).elim, fun _ => rfl⟩
  generalize ckA kd p l = ck at hck ⊢
  generalize faE kd p l = fe at hft hck
  generalize FaOK kd p (gr kd p) (gr kd p).rows.toNat l = FF at hft hck
  unfold pvl patV at *
  refine calls_wc [] [] [.tmp 6] (fun _ => [vi ck]) Try.func39 rfl rfl (fun _ => rfl) Try.ntmps39 rfl (Own.nil w) rfl ?_
  refine gg ?_
  refine wl_op (ok_box rfl rfl rfl rfl rfl ?_); intro bp
  refine gg ?_
  refine gc3 [] (fun w hst hst1 => hft w (op.now hst) (oL.now hst)) (by exact rfl) ?_
  (repeat (first | refine gk1 ?_ | refine gk2 ?_ | refine gk3 ?_ | refine gk0 ?_ | refine gk4 ?_))
  rintro ⟨B, d, xs⟩ ⟨hz1, hz2⟩
  dsimp only [List.cons_append, List.nil_append] at hz1 hz2 ⊢
  obtain ⟨k1, k2, k3⟩ := hck xs hz1 hz2
  by_cases he : fe = 0
  · by_cases hx : xs = []
    · obtain rfl := k2 he hx
      have hxl : xs.length = 0 := by rw [hx]; rfl
      subst he
      refine gg ?_
      exact grt () trivial
    · obtain rfl := k1 he hx
      have hxl : 0 < xs.length := List.length_pos_iff.2 hx
      subst he
      refine gg ?_
      exact grt () trivial
  · obtain rfl := k3 he
    refine gg ?_
    exact grt () trivial
end
section
variable {p : Pat} {kd : Int} {l : List Int}
theorem meet_facts (he : thE kd p = 0) : (kd = 2 → ∀ u v, hasB (gr kd p) u v = true → ∃ r, HasP p r u ∧ HasP p r v) ∧ (kd = 3 → ∀ u v, hasB (gr kd p) u v = true → ∃ r, HasP (turnP p) r u ∧ HasP (turnP p) r v) := by
  obtain ⟨hm, _⟩ := thE_zero he
  obtain ⟨g1, g2, g3⟩ := gr_gr he
  rw [g3]
  constructor
  · rintro rfl u v h
    rw [show thF 2 p = meetC p from if_pos rfl] at h
    unfold meetC at h
    obtain ⟨_, r, h1, h2⟩ := of_decide_eq_true h
    exact ⟨r, h1, h2⟩
  · rintro rfl u v h
    rw [show thF 3 p = meetB p from (if_neg (by decide)).trans (if_pos rfl)] at h
    unfold meetB at h
    obtain ⟨_, r, h1, h2⟩ := of_decide_eq_true h
    exact ⟨r, (has_turn hm).2 h1, (has_turn hm).2 h2⟩
theorem ckA_of {xs : List Int} (h1 : faE kd p l = 0 → FaOK kd p (gr kd p) (gr kd p).rows.toNat l xs) (h2 : faE kd p l ≠ 0 → xs = []) : (faE kd p l = 0 → xs ≠ [] → ckA kd p l = 241) ∧ (faE kd p l = 0 → xs = [] → ckA kd p l = 0) ∧ (faE kd p l ≠ 0 → ckA kd p l = faE kd p l) := by
  by_cases he : thE kd p = 0
  · obtain ⟨g1, g2, g3⟩ := gr_gr he
    have h0 := g1.1.1.toHead.r0
    have e1 : faE kd p l = ftE (thN kd p) l := by unfold faE; rw [if_neg (not_not_intro he)]
    have e2 : ckA kd p l = if ColOK (thN kd p) l then (if Fine kd (thF kd p) (thN kd p).toNat l then 0 else 241) else 240 := by unfold ckA; rw [if_neg (not_not_intro he)]
    by_cases hc : ColOK (thN kd p) l
    · have e3 : faE kd p l = 0 := by rw [e1]; exact if_pos hc
      have hi := (h1 e3).nil_iff g1 (by omega)
      rw [g3, g2] at hi
      rw [e2, if_pos hc]
      refine ⟨fun _ hx => if_neg fun h => hx (hi.2 h), fun _ hx => if_pos (hi.1 hx), fun h => (h e3).elim⟩
    · have e3 : faE kd p l = 240 := by rw [e1]; exact if_neg hc
      rw [e2, if_neg hc, e3]
      exact ⟨fun h => by omega, fun h => by omega, fun _ => rfl⟩
  · have e1 : faE kd p l = thE kd p := by unfold faE; rw [if_pos he]
    have e2 : ckA kd p l = thE kd p := by unfold ckA; rw [if_pos he]
    rw [e1, e2]
    exact ⟨fun h => (he h).elim, fun h => (he h).elim, fun _ => rfl⟩
end
end Go.Proofs.Ytoiiellaoikojaa
