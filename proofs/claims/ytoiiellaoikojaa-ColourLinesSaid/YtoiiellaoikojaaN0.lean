/- Walks: colours: which may be, which neighbours are alike, where lines meet. -/
import Derived.Test.YtoiiellaoikojaaM5
set_option linter.unusedVariables false
set_option linter.unusedSimpArgs false
set_option maxHeartbeats 8000000
namespace Go.Proofs.Ytoiiellaoikojaa
open Go.RowKit
theorem ret_tail {α : Type} {σ1 : List Res} {vf : α → Value} {a b : α → List Res} {φ : α → Prop} {w w' : World} {e : Ending} (h : Ret σ1 vf (fun x => a x ++ b x) φ w e w') : Ret σ1 vf (fun x => a x ++ [Go.Proofs.Ytoiiellaoikojaa.bun (b x)]) φ w e w' := by
  obtain ⟨x, h1, h2, h3, h4, h5, h6⟩ := h
  have ef : (a x ++ [Go.Proofs.Ytoiiellaoikojaa.bun (b x)]).flatMap Res.fp = (a x ++ b x).flatMap Res.fp := by
    rw [List.flatMap_append, List.flatMap_append, bun_fp]
  refine ⟨x, h1, h2, h3, fun r hr => ?_, by rw [ef]; exact h5, by rw [ef]; exact h6⟩
  rcases List.mem_append.1 hr with hr | hr
  · exact h4 r (List.mem_append_left _ hr)
  · rw [List.mem_singleton.1 hr]
    exact fun q hq => h4 q (List.mem_append_right _ hq)
section
variable {p : Pat} {x : PA} {kd : Int}
theorem tkG_c (w : World) (hp : RdP w x p) (hm : May p) (hg : IsGr p) (hk : kd = 1 ∨ kd = 4 ∨ kd = 5) :
    Calls Try.prog 67 [vi kd, pvl x p].toArray w (Ret [] (fun t : TX => .tuple #[.pointer (some ⟨t.tb, 0, none⟩), vi 0]) (ThR (fun _ => []) (fun _ => x) kd p) (fun _ => True) w) :=
  (takenG_c w hp hm hg hk).mono fun e w' h => (ret_tail (b := fun _ => []) (by simpa using h))
theorem tkcols_c (w : World) (hp : RdP w x p) (hm : May p) (hk : kd = 2) :
    Calls Try.prog 67 [vi kd, pvl x p].toArray w (Ret [] (fun t : TX => .tuple #[.pointer (some ⟨t.tb, 0, none⟩), vi 0]) (ThR (fun t => PatR t.y (colsS p).1) (fun t => t.y) kd (colsS p).1) (fun _ => True) w) :=
  (takencols_c w hp hm hk).mono fun e w' h => ret_tail h
theorem tkrows_c (w : World) (hp : RdP w x p) (hm : May p) (hk : kd = 3) :
    Calls Try.prog 67 [vi kd, pvl x p].toArray w (Ret [] (fun t : TX => .tuple #[.pointer (some ⟨t.tb, 0, none⟩), vi 0]) (ThR (fun t => PatR t.y (rowsS p).1) (fun t => t.y) kd (rowsS p).1) (fun _ => True) w) :=
  (takenrows_c w hp hm hk).mono fun e w' h => ret_tail h
end
def ColOK (n : Int) (l : List Int) : Prop := (l.length : Int) = n ∧ ∀ i : Int, 0 ≤ i → i < l.length → 0 ≤ gt l i ∧ gt l i ≤ 65536
section
variable {g : Pat} {y : PA} {kd N : Int} {A NA : Option Addr} {c n nc tb m : Nat} {l : List Int} {R : List Res}
theorem coloured_c (w : World) (hl : RdO vi w [tb] A c l) (hs : l.length ≤ 17592186043904) (e : Int) (he : (ColOK N l → e = 0) ∧ (¬ ColOK N l → e = 240)) (hw : Own [blk tb (thC N NA m nc kd) TTh] w) :
    Calls Try.prog 78 [.pointer (some ⟨tb, 0, none⟩), .slice A l.length c].toArray w (Ret [blk tb (thC N NA m nc kd) TTh] (fun _ : Unit => vi e) (fun _ => [blk tb (thC N NA m nc kd) TTh]) (fun _ => True) w) := by
  refine calls_wc ([blk tb (thC N NA m nc kd) TTh].flatMap Res.fp) [blk tb (thC N NA m nc kd) TTh] [.tmp 4] (fun _ => [vi e]) Try.func78 rfl rfl (fun _ => rfl) Try.ntmps78 rfl hw rfl ?_
  have hl : RdO vi w ([blk tb (thC N NA m nc kd) TTh].flatMap Res.fp) A c l := hl
  refine gg ?_
  by_cases hln : (l.length : Int) = N
  · refine gg ?_
    refine glp (fun k : Int => 0 ≤ k ∧ k ≤ l.length ∧ ∀ i : Int, 0 ≤ i → i < k → 0 ≤ gt l i ∧ gt l i ≤ 65536) (fun k => [(14, .slice A l.length c), (15, vi l.length), (16, vi k)]) (fun _ => [blk tb (thC N NA m nc kd) TTh]) (fun k => (l.length - k).toNat) 0 ⟨by omega, by omega, fun i i0 i1 => by omega⟩ ?_
    rintro k ⟨hk0, hk1, hok⟩
    by_cases hk : k < l.length
    · by_cases h1 : gt l k < 0
      · obtain rfl : e = 240 := he.2 fun h => by have := h.2 k hk0 hk; omega
        refine gg ?_
        exact grt () trivial
      · by_cases h2 : 65536 < gt l k
        · obtain rfl : e = 240 := he.2 fun h => by have := h.2 k hk0 hk; omega
          refine gg ?_
          exact grt () trivial
        · refine gg ?_
          exact gnx (k + 1) ⟨by omega, by omega, fun i i0 i1 => by
            by_cases e : i = k
            · rw [e]; omega
            · exact hok i i0 (by omega)⟩ (by omega)
    · obtain rfl : e = 0 := he.1 ⟨hln, fun i i0 i1 => hok i i0 (by omega)⟩
      refine gg ?_
      exact grt () trivial
  · obtain rfl : e = 240 := he.2 fun h => hln h.1
    refine gg ?_
    exact grt () trivial
/-- no pair ahead of (u, v) is alike -/
def NoAl (g : Pat) (l : List Int) (u v : Int) : Prop := ∀ a b : Int, hasB g a b = true → a < b → (a < u ∨ a = u ∧ b < v) → gt l a ≠ gt l b
/-- the first pair that is alike, or none -/
def AlOK (g : Pat) (n : Nat) (l xs : List Int) : Prop := (xs = [] ∧ NoAl g l n 0) ∨ ∃ u v : Int, xs = [u, v] ∧ 0 ≤ u ∧ u < v ∧ v < n ∧ hasB g u v = true ∧ gt l u = gt l v ∧ NoAl g l u v
abbrev ThI (tb : Nat) (NA : Option Addr) (nc : Nat) (y : PA) (kd : Int) (g : Pat) (R : List Res) : List Res := [blk tb (thC g.rows NA (nearTo y g g.rows).length nc kd) TTh, osl TIs sv NA nc (nearTo y g g.rows), bun R]
theorem alike_col_c (w : World) (hm : May g) (hn : g.rows = n) (hsq : g.rows = g.width) (hl : RdO vi w ((ThI tb NA nc y kd g R).flatMap Res.fp) A c l) (hln : l.length = n) (hrd : RdB w ((ThI tb NA nc y kd g R).flatMap Res.fp) R y g) (hw : Own (ThI tb NA nc y kd g R) w) :
    Calls Try.prog 76 [.pointer (some ⟨tb, 0, none⟩), .slice A l.length c].toArray w (Ret (ThI tb NA nc y kd g R) (fun z : RX => .slice z.A z.xs.length z.c) (fun z => osl TI vi z.A z.c z.xs :: ThI tb NA nc y kd g R) (fun z => AlOK g n l z.xs) w) := by
  have HG := hm.toHead
  have hn2 := HG.r1
  have hnl := nearTo_len y g (k := g.rows) HG.r0
  refine calls_wc ((ThI tb NA nc y kd g R).flatMap Res.fp) (ThI tb NA nc y kd g R) [.tmp 4] (fun z : RX => [.slice z.A z.xs.length z.c]) Try.func76 rfl rfl (fun _ => rfl) Try.ntmps76 rfl hw rfl ?_
  have rowR : ∀ {a : Int}, 0 ≤ a → a < n → ∀ {w' : World} {σ : List Res}, St w ((ThI tb NA nc y kd g R).flatMap Res.fp) σ w' → HasR σ (bun R) → Rds vi w' (rowB y g a) (rowL g a).length (rowL g a) := fun a0 a1 _ _ hst hb => rowL_rd HG a0 (by omega) (hrd.now hst hb)
  have rowN : ∀ {a : Int}, 0 ≤ a → a < n → ∀ j : Int, 0 ≤ j → j < (rowL g a).length → 0 ≤ gt (rowL g a) j ∧ gt (rowL g a) j < n := fun a0 a1 j j0 j1 => by
    have hb := (rowL_mem hm a0 (by omega)).2 ⟨j, j0, j1, rfl⟩
    have := ((hasB_iff.1 hb).in_ hm).2
    omega
  dsimp only [ThI]
  refine gnil ?_
  refine gg ?_
  refine glp (fun u : Int => 0 ≤ u ∧ u ≤ n ∧ NoAl g l u 0) (fun u => [(1, .slice A l.length c), (4, .slice none 0 0), (12, .slice NA (nearTo y g g.rows).length nc), (13, vi n), (14, vi u)]) (fun _ => osl TI vi none 0 [] :: ThI tb NA nc y kd g R) (fun u => (n - u).toNat) 0 ⟨by omega, by omega, fun a b hb hab h => by have := ((hasB_iff.1 hb).in_ hm).1; omega⟩ ?_ (hT := .cons rfl (.cons rfl (.cons rfl (.cons (look_to rfl (by rw [hnl, hn]; rfl)) (.cons rfl .nil)))))
  rintro u ⟨hu0, hu1, hno⟩
  dsimp only [ThI]
  by_cases hu : u < n
  · have hsu := rowL_small (v := u) hm hu0 (by omega)
    refine gg ?_
    rw [nearTo_at y g hu0 (by omega), rowV_eq HG hu0 (by omega)]
    dsimp only [sv]
    refine glp (fun i : Int => 0 ≤ i ∧ i ≤ (rowL g u).length ∧ ∀ q : Int, 0 ≤ q → q < i → u < gt (rowL g u) q → gt l u ≠ gt l (gt (rowL g u) q)) (fun i => [(1, .slice A l.length c), (4, .slice none 0 0), (5, vi u), (12, .slice NA (nearTo y g g.rows).length nc), (13, vi n), (14, vi u), (19, .slice (rowB y g u) (rowL g u).length (rowL g u).length), (20, vi (rowL g u).length), (21, vi i)]) (fun _ => osl TI vi none 0 [] :: ThI tb NA nc y kd g R) (fun i => ((rowL g u).length - i).toNat) 0 ⟨by omega, by omega, fun q q0 q1 => by omega⟩ ?_
    rintro i ⟨hi0, hi1, hiq⟩
    dsimp only [ThI]
    by_cases hi : i < (rowL g u).length
    · have hx := rowN hu0 hu i hi0 hi
      have nxt : ¬ (u < gt (rowL g u) i ∧ gt l u = gt l (gt (rowL g u) i)) → ∀ q : Int, 0 ≤ q → q < i + 1 → u < gt (rowL g u) q → gt l u ≠ gt l (gt (rowL g u) q) := fun h q q0 q1 => by
        by_cases e : q = i
        · rw [e]; exact fun h1 h2 => h ⟨h1, h2⟩
        · exact hiq q q0 (by omega)
      refine wc_know (φ := ∃ ad, rowB y g u = some ad) (fun w hst => (rowR hu0 hu hst (by (repeat (first | exact .here | refine .there ?_)))).ad_ (by omega)) ?_
      rintro ⟨sa, hsa⟩
      rw [hsa]
      refine gg ?_
      refine wl_v rfl rfl rfl (val_load rfl rfl (ag_of rfl) (fun w hst => by rw [← hsa]; exact (rowR hu0 hu hst (by (repeat (first | exact .here | refine .there ?_)))).cell hi0 hi)) ?_
      by_cases h1 : u < gt (rowL g u) i
      · by_cases h2 : gt l u = gt l (gt (rowL g u) i)
        · have hal : AlOK g n l [u, gt (rowL g u) i] := .inr ⟨u, _, rfl, hu0, h1, hx.2, (rowL_mem hm hu0 (by omega)).2 ⟨i, hi0, hi, rfl⟩, h2, fun a b hb hab hlt => by
            rcases hlt with hlt | ⟨rfl, hlt⟩
            · exact hno a b hb hab (.inl hlt)
            · obtain ⟨q, q0, q1, e⟩ := (rowL_mem hm hu0 (by omega)).1 hb
              by_cases hqi : q < i
              · rw [← e]; exact hiq q q0 hqi (by rw [e]; exact hab)
              · exfalso
                have hm2 := hm.row a hu0 (by omega)
                have e1 := HG.lo hu0 (by omega)
                have e2 := HG.hi (r := a + 1) (by omega) (by omega)
                have e3 := HG.step hu0 (by omega)
                have hsl := sub_length g.cols e1 e3 e2
                have g1 : gt (rowL g a) i = gt g.cols (gt g.start a + i) := gt_sub e1 e3 e2 hi0 hi
                have g2 : gt (rowL g a) q = gt g.cols (gt g.start a + q) := gt_sub e1 e3 e2 q0 q1
                have hlq : ((rowL g a).length : Int) = gt g.start (a + 1) - gt g.start a := by
                  unfold rowL; rw [hsl]; omega
                rw [g1] at hlt
                rw [← e, g2] at hlt
                by_cases e4 : q = i
                · rw [e4] at hlt; omega
                · have := col_mono hm hu0 (by omega) (i := gt g.start a + i) (by omega) (q - i).toNat (by omega) (by omega)
                  rw [show gt g.start a + i + ((q - i).toNat : Nat) = gt g.start a + q by omega] at this
                  omega⟩
          refine gg ?_
          refine wc_quiet mixed (by kernel_rfl) ?_
          refine gg ?_
          refine wl_op (ok_buildSlice vi [u, gt (rowL g u) i] (ps := [(0, vi u), (1, vi (gt (rowL g u) i))]) rfl rfl rfl rfl rfl (el_of rfl) (ze_of rfl) (sz_of rfl) rfl (by decide) (by decide) (by kernel_rfl) ?_)
          intro b
          refine gg ?_
          exact grt (⟨some ⟨b, 0, none⟩, 2, [u, gt (rowL g u) i]⟩ : RX) hal
        · refine gg ?_
          refine wc_quiet mixed (by kernel_rfl) ?_
          refine gg ?_
          exact gnx (i + 1) ⟨by omega, by omega, nxt (fun h => h2 h.2)⟩ (by omega)
      · refine gg ?_
        refine wc_quiet mixed (by kernel_rfl) ?_
        refine gg ?_
        exact gnx (i + 1) ⟨by omega, by omega, nxt (fun h => h1 h.1)⟩ (by omega)
    obtain rfl : i = (rowL g u).length := by omega
    refine gg ?_
    exact gnx (u + 1) ⟨by omega, by omega, fun a b hb hab hlt => by
      by_cases e : a = u
      · rw [e] at hb hab ⊢
        obtain ⟨q, q0, q1, e2⟩ := (rowL_mem hm hu0 (by omega)).1 hb
        rw [← e2] at hab ⊢
        exact hiq q q0 q1 hab
      · exact hno a b hb hab (by omega)⟩ (by omega)
  obtain rfl : u = n := by omega
  refine gg ?_
  exact grt (⟨none, 0, []⟩ : RX) (.inl ⟨rfl, hno⟩)
end
end Go.Proofs.Ytoiiellaoikojaa
