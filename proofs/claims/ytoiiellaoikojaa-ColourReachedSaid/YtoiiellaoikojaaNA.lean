/- Walks: colours: which may be, which neighbours are alike, where lines meet. Walks: colours: Fault and Check of proper ones, columns, rows. Greedy of every kind but the acyclic one; the law ColourLines. -/
import Derived.Test.YtoiiellaoikojaaMB
set_option linter.unusedVariables false
set_option linter.unusedSimpArgs false
set_option maxHeartbeats 8000000
namespace Go.Proofs.Ytoiiellaoikojaa
open Go.RowKit Classical
theorem ret_tail {α : Type} {σ1 : List Res} {vf : α → Value} {a b : α → List Res} {φ : α → Prop} {w w' : World} {e : Ending} (h : Ret σ1 vf (fun x => a x ++ b x) φ w e w') : Ret σ1 vf (fun x => a x ++ [Go.Proofs.Ytoiiellaoikojaa.bun (b x)]) φ w e w' := by
  obtain ⟨x, h1, h2, h3, h4, h5, h6⟩ := h
  have ef : (a x ++ [Go.Proofs.Ytoiiellaoikojaa.bun (b x)]).flatMap Res.fp = (a x ++ b x).flatMap Res.fp := by
    rw [List.flatMap_append, List.flatMap_append, bun_fp]
  refine ⟨x, h1, h2, h3, fun r hr => ?_, by rw [ef]; exact h5, by rw [ef]; exact h6⟩
  rcases List.mem_append.1 hr with hr | hr
  · exact h4 r (List.mem_append_left _ hr)
  · rw [List.mem_singleton.1 hr]
    exact fun q hq => h4 q (List.mem_append_right _ hq)
section
variable {p : Pat} {x : PA} {kd : Int}
theorem tkG_c (w : World) (hp : RdP w x p) (hm : May p) (hg : IsGr p) (hk : kd = 1 ∨ kd = 4 ∨ kd = 5) :
    Calls Try.prog 67 [vi kd, pvl x p].toArray w (Ret [] (fun t : TX => .tuple #[.pointer (some ⟨t.tb, 0, none⟩), vi 0]) (ThR (fun _ => []) (fun _ => x) kd p) (fun _ => True) w) :=
  (takenG_c w hp hm hg hk).mono fun e w' h => (ret_tail (b := fun _ => []) (by simpa using h))
theorem tkcols_c (w : World) (hp : RdP w x p) (hm : May p) (hk : kd = 2) :
    Calls Try.prog 67 [vi kd, pvl x p].toArray w (Ret [] (fun t : TX => .tuple #[.pointer (some ⟨t.tb, 0, none⟩), vi 0]) (ThR (fun t => PatR t.y (colsS p).1) (fun t => t.y) kd (colsS p).1) (fun _ => True) w) :=
  (takencols_c w hp hm hk).mono fun e w' h => ret_tail h
theorem tkrows_c (w : World) (hp : RdP w x p) (hm : May p) (hk : kd = 3) :
    Calls Try.prog 67 [vi kd, pvl x p].toArray w (Ret [] (fun t : TX => .tuple #[.pointer (some ⟨t.tb, 0, none⟩), vi 0]) (ThR (fun t => PatR t.y (rowsS p).1) (fun t => t.y) kd (rowsS p).1) (fun _ => True) w) :=
  (takenrows_c w hp hm hk).mono fun e w' h => ret_tail h
end
def ColOK (n : Int) (l : List Int) : Prop := (l.length : Int) = n ∧ ∀ i : Int, 0 ≤ i → i < l.length → 0 ≤ gt l i ∧ gt l i ≤ 65536
section
variable {g : Pat} {y : PA} {kd N : Int} {A NA : Option Addr} {c n nc tb m : Nat} {l : List Int} {R : List Res}
theorem coloured_c (w : World) (hl : RdO vi w [tb] A c l) (hs : l.length ≤ 17592186043904) (e : Int) (he : (ColOK N l → e = 0) ∧ (¬ ColOK N l → e = 240)) (hw : Own [blk tb (thC N NA m nc kd) TTh] w) :
    Calls Try.prog 78 [.pointer (some ⟨tb, 0, none⟩), .slice A l.length c].toArray w (Ret [blk tb (thC N NA m nc kd) TTh] (fun _ : Unit => vi e) (fun _ => [blk tb (thC N NA m nc kd) TTh]) (fun _ => True) w) := by
  refine calls_wc ([blk tb (thC N NA m nc kd) TTh].flatMap Res.fp) [blk tb (thC N NA m nc kd) TTh] [.tmp 4] (fun _ => [vi e]) Try.func78 rfl rfl (fun _ => rfl) Try.ntmps78 rfl hw rfl ?_
  have hl : RdO vi w ([blk tb (thC N NA m nc kd) TTh].flatMap Res.fp) A c l := hl
  refine gg ?_
  by_cases hln : (l.length : Int) = N
  · refine gg ?_
    refine glp (fun k : Int => 0 ≤ k ∧ k ≤ l.length ∧ ∀ i : Int, 0 ≤ i → i < k → 0 ≤ gt l i ∧ gt l i ≤ 65536) (fun k => [(14, .slice A l.length c), (15, vi l.length), (16, vi k)]) (fun _ => [blk tb (thC N NA m nc kd) TTh]) (fun k => (l.length - k).toNat) 0 ⟨by omega, by omega, fun i i0 i1 => by omega⟩ ?_
    rintro k ⟨hk0, hk1, hok⟩
    by_cases hk : k < l.length
    · by_cases h1 : gt l k < 0
      · obtain rfl : e = 240 := he.2 fun h => by have := h.2 k hk0 hk; omega
        refine gg ?_
        exact grt () trivial
      · by_cases h2 : 65536 < gt l k
        · obtain rfl : e = 240 := he.2 fun h => by have := h.2 k hk0 hk; omega
          refine gg ?_
          exact grt () trivial
        · refine gg ?_
          exact gnx (k + 1) ⟨by omega, by omega, fun i i0 i1 => by
            by_cases e : i = k
            · rw [e]; omega
            · exact hok i i0 (by omega)⟩ (by omega)
    · obtain rfl : e = 0 := he.1 ⟨hln, fun i i0 i1 => hok i i0 (by omega)⟩
      refine gg ?_
      exact grt () trivial
  · obtain rfl : e = 240 := he.2 fun h => hln h.1
    refine gg ?_
    exact grt () trivial
/-- no pair ahead of (u, v) is alike -/
def NoAl (g : Pat) (l : List Int) (u v : Int) : Prop := ∀ a b : Int, hasB g a b = true → a < b → (a < u ∨ a = u ∧ b < v) → gt l a ≠ gt l b
/-- the first pair that is alike, or none -/
def AlOK (g : Pat) (n : Nat) (l xs : List Int) : Prop := (xs = [] ∧ NoAl g l n 0) ∨ ∃ u v : Int, xs = [u, v] ∧ 0 ≤ u ∧ u < v ∧ v < n ∧ hasB g u v = true ∧ gt l u = gt l v ∧ NoAl g l u v
abbrev ThI (tb : Nat) (NA : Option Addr) (nc : Nat) (y : PA) (kd : Int) (g : Pat) (R : List Res) : List Res := [blk tb (thC g.rows NA (nearTo y g g.rows).length nc kd) TTh, osl TIs sv NA nc (nearTo y g g.rows), bun R]
theorem alike_col_c (w : World) (hm : May g) (hn : g.rows = n) (hsq : g.rows = g.width) (hl : RdO vi w ((ThI tb NA nc y kd g R).flatMap Res.fp) A c l) (hln : l.length = n) (hrd : RdB w ((ThI tb NA nc y kd g R).flatMap Res.fp) R y g) (hw : Own (ThI tb NA nc y kd g R) w) :
    Calls Try.prog 76 [.pointer (some ⟨tb, 0, none⟩), .slice A l.length c].toArray w (Ret (ThI tb NA nc y kd g R) (fun z : RX => .slice z.A z.xs.length z.c) (fun z => osl TI vi z.A z.c z.xs :: ThI tb NA nc y kd g R) (fun z => AlOK g n l z.xs) w) := by
  have HG := hm.toHead
  have hn2 := HG.r1
  have hnl := nearTo_len y g (k := g.rows) HG.r0
  refine calls_wc ((ThI tb NA nc y kd g R).flatMap Res.fp) (ThI tb NA nc y kd g R) [.tmp 4] (fun z : RX => [.slice z.A z.xs.length z.c]) Try.func76 rfl rfl (fun _ => rfl) Try.ntmps76 rfl hw rfl ?_
  have rowR : ∀ {a : Int}, 0 ≤ a → a < n → ∀ {w' : World} {σ : List Res}, St w ((ThI tb NA nc y kd g R).flatMap Res.fp) σ w' → HasR σ (bun R) → Rds vi w' (rowB y g a) (rowL g a).length (rowL g a) := fun a0 a1 _ _ hst hb => rowL_rd HG a0 (by omega) (hrd.now hst hb)
  have rowN : ∀ {a : Int}, 0 ≤ a → a < n → ∀ j : Int, 0 ≤ j → j < (rowL g a).length → 0 ≤ gt (rowL g a) j ∧ gt (rowL g a) j < n := fun a0 a1 j j0 j1 => by
    have hb := (rowL_mem hm a0 (by omega)).2 ⟨j, j0, j1, rfl⟩
    have := ((hasB_iff.1 hb).in_ hm).2
    omega
  dsimp only [ThI]
  refine gnil ?_
  refine gg ?_
  refine glp (fun u : Int => 0 ≤ u ∧ u ≤ n ∧ NoAl g l u 0) (fun u => [(1, .slice A l.length c), (4, .slice none 0 0), (12, .slice NA (nearTo y g g.rows).length nc), (13, vi n), (14, vi u)]) (fun _ => osl TI vi none 0 [] :: ThI tb NA nc y kd g R) (fun u => (n - u).toNat) 0 ⟨by omega, by omega, fun a b hb hab h => by have := ((hasB_iff.1 hb).in_ hm).1; omega⟩ ?_ (hT := .cons rfl (.cons rfl (.cons rfl (.cons (look_to rfl (by rw [hnl, hn]; rfl)) (.cons rfl .nil)))))
  rintro u ⟨hu0, hu1, hno⟩
  dsimp only [ThI]
  by_cases hu : u < n
  · have hsu := rowL_small (v := u) hm hu0 (by omega)
    refine gg ?_
    rw [nearTo_at y g hu0 (by omega), rowV_eq HG hu0 (by omega)]
    dsimp only [sv]
    refine glp (fun i : Int => 0 ≤ i ∧ i ≤ (rowL g u).length ∧ ∀ q : Int, 0 ≤ q → q < i → u < gt (rowL g u) q → gt l u ≠ gt l (gt (rowL g u) q)) (fun i => [(1, .slice A l.length c), (4, .slice none 0 0), (5, vi u), (12, .slice NA (nearTo y g g.rows).length nc), (13, vi n), (14, vi u), (19, .slice (rowB y g u) (rowL g u).length (rowL g u).length), (20, vi (rowL g u).length), (21, vi i)]) (fun _ => osl TI vi none 0 [] :: ThI tb NA nc y kd g R) (fun i => ((rowL g u).length - i).toNat) 0 ⟨by omega, by omega, fun q q0 q1 => by omega⟩ ?_
    rintro i ⟨hi0, hi1, hiq⟩
    dsimp only [ThI]
    by_cases hi : i < (rowL g u).length
    · have hx := rowN hu0 hu i hi0 hi
      have nxt : ¬ (u < gt (rowL g u) i ∧ gt l u = gt l (gt (rowL g u) i)) → ∀ q : Int, 0 ≤ q → q < i + 1 → u < gt (rowL g u) q → gt l u ≠ gt l (gt (rowL g u) q) := fun h q q0 q1 => by
        by_cases e : q = i
        · rw [e]; exact fun h1 h2 => h ⟨h1, h2⟩
        · exact hiq q q0 (by omega)
      refine wc_know (φ := ∃ ad, rowB y g u = some ad) (fun w hst => (rowR hu0 hu hst (by (repeat (first | exact .here | refine .there ?_)))).ad_ (by omega)) ?_
      rintro ⟨sa, hsa⟩
      rw [hsa]
      refine gg ?_
      refine wl_v rfl rfl rfl (val_load rfl rfl (ag_of rfl) (fun w hst => by rw [← hsa]; exact (rowR hu0 hu hst (by (repeat (first | exact .here | refine .there ?_)))).cell hi0 hi)) ?_
      by_cases h1 : u < gt (rowL g u) i
      · by_cases h2 : gt l u = gt l (gt (rowL g u) i)
        · have hal : AlOK g n l [u, gt (rowL g u) i] := .inr ⟨u, _, rfl, hu0, h1, hx.2, (rowL_mem hm hu0 (by omega)).2 ⟨i, hi0, hi, rfl⟩, h2, fun a b hb hab hlt => by
            rcases hlt with hlt | ⟨rfl, hlt⟩
            · exact hno a b hb hab (.inl hlt)
            · obtain ⟨q, q0, q1, e⟩ := (rowL_mem hm hu0 (by omega)).1 hb
              by_cases hqi : q < i
              · rw [← e]; exact hiq q q0 hqi (by rw [e]; exact hab)
              · exfalso
                have hm2 := hm.row a hu0 (by omega)
                have e1 := HG.lo hu0 (by omega)
                have e2 := HG.hi (r := a + 1) (by omega) (by omega)
                have e3 := HG.step hu0 (by omega)
                have hsl := sub_length g.cols e1 e3 e2
                have g1 : gt (rowL g a) i = gt g.cols (gt g.start a + i) := gt_sub e1 e3 e2 hi0 hi
                have g2 : gt (rowL g a) q = gt g.cols (gt g.start a + q) := gt_sub e1 e3 e2 q0 q1
                have hlq : ((rowL g a).length : Int) = gt g.start (a + 1) - gt g.start a := by
                  unfold rowL; rw [hsl]; omega
                rw [g1] at hlt
                rw [← e, g2] at hlt
                by_cases e4 : q = i
                · rw [e4] at hlt; omega
                · have := col_mono hm hu0 (by omega) (i := gt g.start a + i) (by omega) (q - i).toNat (by omega) (by omega)
                  rw [show gt g.start a + i + ((q - i).toNat : Nat) = gt g.start a + q by omega] at this
                  omega⟩
          refine gg ?_
          refine wc_quiet mixed (by kernel_rfl) ?_
          refine gg ?_
          refine wl_op (ok_buildSlice vi [u, gt (rowL g u) i] (ps := [(0, vi u), (1, vi (gt (rowL g u) i))]) rfl rfl rfl rfl rfl (el_of rfl) (ze_of rfl) (sz_of rfl) rfl (by decide) (by decide) (by kernel_rfl) ?_)
          intro b
          refine gg ?_
          exact grt (⟨some ⟨b, 0, none⟩, 2, [u, gt (rowL g u) i]⟩ : RX) hal
        · refine gg ?_
          refine wc_quiet mixed (by kernel_rfl) ?_
          refine gg ?_
          exact gnx (i + 1) ⟨by omega, by omega, nxt (fun h => h2 h.2)⟩ (by omega)
      · refine gg ?_
        refine wc_quiet mixed (by kernel_rfl) ?_
        refine gg ?_
        exact gnx (i + 1) ⟨by omega, by omega, nxt (fun h => h1 h.1)⟩ (by omega)
    obtain rfl : i = (rowL g u).length := by omega
    refine gg ?_
    exact gnx (u + 1) ⟨by omega, by omega, fun a b hb hab hlt => by
      by_cases e : a = u
      · rw [e] at hb hab ⊢
        obtain ⟨q, q0, q1, e2⟩ := (rowL_mem hm hu0 (by omega)).1 hb
        rw [← e2] at hab ⊢
        exact hiq q q0 q1 hab
      · exact hno a b hb hab (by omega)⟩ (by omega)
  obtain rfl : u = n := by omega
  refine gg ?_
  exact grt (⟨none, 0, []⟩ : RX) (.inl ⟨rfl, hno⟩)
end
/-- the least line in which both stand -/
def MtOK (q : Pat) (u v k : Int) : Prop := (∃ r, HasP q r u ∧ HasP q r v) → HasP q k u ∧ HasP q k v ∧ ∀ s : Int, 0 ≤ s → s < k → ¬ (HasP q s u ∧ HasP q s v)
section
variable {p : Pat} {x : PA} {A : Option Addr} {c : Nat} {u v : Int} {L : List Int}
theorem meetingF_c (w : World) (hp : RdP w x p) (hA : Rds vi w A c L) (hL : L.length = 2) (hu : gt L 0 = u) (hv : gt L 1 = v) (hm : May p) :
    Calls Try.prog 79 [pvl x p, .slice A L.length c, .bool false].toArray w (Ret [] (fun k : Int => vi k) (fun _ => []) (MtOK p u v) w) := by
  have op := hp.old
  have os := op.s
  have oA := hA.old
  have hq := hm
  have HG := hm.toHead
  have g1 := HG.r0
  have g2 := HG.r1
  unfold pvl patV
  refine calls_wc [] [] [.tmp 6] (fun k : Int => [vi k]) Try.func79 rfl rfl (fun _ => rfl) Try.ntmps79 rfl (Own.nil w) rfl ?_
  refine gg ?_
  refine wl_op (ok_box rfl rfl rfl rfl rfl ?_); intro bp
  refine gg ?_
  refine glp (fun r : Int => 0 ≤ r ∧ r ≤ p.rows ∧ ∀ s : Int, 0 ≤ s → s < r → ¬ (HasP p s u ∧ HasP p s v)) (fun r => [(1, .slice A L.length c), (3, .pointer (some ⟨bp, 0, none⟩)), (15, vi p.rows), (16, vi r)]) (fun _ => [blk bp (pcs x p) TP]) (fun r => (p.rows - r).toNat) 0 ⟨by omega, g1, fun s s0 s1 => by omega⟩ ?_
  rintro r ⟨hr0, hr1, hno⟩
  by_cases hr : r < p.rows
  · by_cases b1 : HasP p r u
    · by_cases b2 : HasP p r v
      · refine gg ?_
        refine wc_quiet mixed (by kernel_rfl) ?_
        refine gg ?_
        refine gc2 (fun w hst => has_c (p := p) (r := r) (x := gt L 0) w (op.s.now hst) (op.c.now hst) true (by simp [hq, hu, b1])) (by exact rfl) ?_
        refine gg ?_
        refine gc2 (fun w hst => has_c (p := p) (r := r) (x := gt L 1) w (op.s.now hst) (op.c.now hst) true (by simp [hq, hv, b2])) (by exact rfl) ?_
        refine gg ?_
        exact grt r (fun _ => ⟨b1, b2, hno⟩)
      · refine gg ?_
        refine wc_quiet mixed (by kernel_rfl) ?_
        refine gg ?_
        refine gc2 (fun w hst => has_c (p := p) (r := r) (x := gt L 0) w (op.s.now hst) (op.c.now hst) true (by simp [hq, hu, b1])) (by exact rfl) ?_
        refine gg ?_
        refine gc2 (fun w hst => has_c (p := p) (r := r) (x := gt L 1) w (op.s.now hst) (op.c.now hst) false (by simp [hv, b2])) (by exact rfl) ?_
        refine gg ?_
        exact gnx (r + 1) ⟨by omega, by omega, fun s s0 s1 => by
          by_cases e : s = r
          · rw [e]; exact fun h => b2 h.2
          · exact hno s s0 (by omega)⟩ (by omega)
    · refine gg ?_
      refine wc_quiet mixed (by kernel_rfl) ?_
      refine gg ?_
      refine gc2 (fun w hst => has_c (p := p) (r := r) (x := gt L 0) w (op.s.now hst) (op.c.now hst) false (by simp [hu, b1])) (by exact rfl) ?_
      refine gg ?_
      exact gnx (r + 1) ⟨by omega, by omega, fun s s0 s1 => by
        by_cases e : s = r
        · rw [e]; exact fun h => b1 h.1
        · exact hno s s0 (by omega)⟩ (by omega)
  obtain rfl : r = p.rows := by omega
  refine gg ?_
  exact grt 0 (fun ⟨s, h1, h2⟩ => (hno s (h1.in_ hq).1.1 (h1.in_ hq).1.2 ⟨h1, h2⟩).elim)
theorem meetingT_c (w : World) (hp : RdP w x p) (hA : Rds vi w A c L) (hL : L.length = 2) (hu : gt L 0 = u) (hv : gt L 1 = v) (hm : May p) :
    Calls Try.prog 79 [pvl x p, .slice A L.length c, .bool true].toArray w (Ret [] (fun k : Int => vi k) (fun _ => []) (MtOK (turnP p) u v) w) := by
  have op := hp.old
  have oA := hA.old
  have hq := may_turn hm
  have HG := hq.toHead
  have g1 := HG.r0
  have g2 := HG.r1
  unfold pvl patV
  refine calls_wc [] [] [.tmp 6] (fun k : Int => [vi k]) Try.func79 rfl rfl (fun _ => rfl) Try.ntmps79 rfl (Own.nil w) rfl ?_
  refine gg ?_
  refine wl_op (ok_box rfl rfl rfl rfl rfl ?_); intro bp
  refine gg ?_
  refine gc3 [] (fun w hst hst1 => turn_c (p := p) (x := x) w (op.now hst)) (by exact rfl) ?_
  (repeat (first | refine gk1 ?_ | refine gk2 ?_ | refine gk3 ?_ | refine gk0 ?_ | refine gk4 ?_))
  rintro y1 _
  dsimp only [List.cons_append, List.nil_append]
  rw [turnS_ok hm]
  refine gg ?_
  refine glp (fun r : Int => 0 ≤ r ∧ r ≤ (turnP p).rows ∧ ∀ s : Int, 0 ≤ s → s < r → ¬ (HasP (turnP p) s u ∧ HasP (turnP p) s v)) (fun r => [(1, .slice A L.length c), (3, .pointer (some ⟨bp, 0, none⟩)), (15, vi (turnP p).rows), (16, vi r)]) (fun _ => [blk bp (pcs y1 (turnP p)) TP, osl TI vi y1.A y1.c (turnP p).start, osl TI vi y1.B y1.d (turnP p).cols]) (fun r => ((turnP p).rows - r).toNat) 0 ⟨by omega, g1, fun s s0 s1 => by omega⟩ ?_
  rintro r ⟨hr0, hr1, hno⟩
  by_cases hr : r < (turnP p).rows
  · by_cases b1 : HasP (turnP p) r u
    · by_cases b2 : HasP (turnP p) r v
      · refine gg ?_
        refine wc_quiet mixed (by kernel_rfl) ?_
        refine gg ?_
        refine gc2 (fun w hst => has_c (p := (turnP p)) (r := r) (x := gt L 0) w (grd hst) (grd hst) true (by simp [hq, hu, b1])) (by exact rfl) ?_
        refine gg ?_
        refine gc2 (fun w hst => has_c (p := (turnP p)) (r := r) (x := gt L 1) w (grd hst) (grd hst) true (by simp [hq, hv, b2])) (by exact rfl) ?_
        refine gg ?_
        exact grt r (fun _ => ⟨b1, b2, hno⟩)
      · refine gg ?_
        refine wc_quiet mixed (by kernel_rfl) ?_
        refine gg ?_
        refine gc2 (fun w hst => has_c (p := (turnP p)) (r := r) (x := gt L 0) w (grd hst) (grd hst) true (by simp [hq, hu, b1])) (by exact rfl) ?_
        refine gg ?_
        refine gc2 (fun w hst => has_c (p := (turnP p)) (r := r) (x := gt L 1) w (grd hst) (grd hst) false (by simp [hv, b2])) (by exact rfl) ?_
        refine gg ?_
        exact gnx (r + 1) ⟨by omega, by omega, fun s s0 s1 => by
          by_cases e : s = r
          · rw [e]; exact fun h => b2 h.2
          · exact hno s s0 (by omega)⟩ (by omega)
    · refine gg ?_
      refine wc_quiet mixed (by kernel_rfl) ?_
      refine gg ?_
      refine gc2 (fun w hst => has_c (p := (turnP p)) (r := r) (x := gt L 0) w (grd hst) (grd hst) false (by simp [hu, b1])) (by exact rfl) ?_
      refine gg ?_
      exact gnx (r + 1) ⟨by omega, by omega, fun s s0 s1 => by
        by_cases e : s = r
        · rw [e]; exact fun h => b1 h.1
        · exact hno s s0 (by omega)⟩ (by omega)
  obtain rfl : r = (turnP p).rows := by omega
  refine gg ?_
  exact grt 0 (fun ⟨s, h1, h2⟩ => (hno s (h1.in_ hq).1.1 (h1.in_ hq).1.2 ⟨h1, h2⟩).elim)
end
theorem further1_c (w : World) (v : Value) : Calls Try.prog 106 [v].toArray w (Ret [] (fun _ : Unit => .slice none 0 0) (fun _ => []) (fun _ => True) w) := by
  refine calls_wc [] [] [.tmp 2] (fun _ : Unit => [.slice none 0 0]) Try.func106 rfl rfl (fun _ => rfl) Try.ntmps106 rfl (Own.nil w) rfl ?_
  refine gg ?_
  exact grt () trivial
section
variable {g p : Pat} {x y : PA} {kd N : Int} {A NA : Option Addr} {c n nc tb m : Nat} {l : List Int} {R : TX → List Res} {yf : TX → PA}
theorem further_c (w : World) (h4 : kd ≠ 4) (h5 : kd ≠ 5) (hw : Own [blk tb (thC N NA m nc kd) TTh] w) :
    Calls Try.prog 77 [.pointer (some ⟨tb, 0, none⟩)].toArray w (Ret [blk tb (thC N NA m nc kd) TTh] (fun _ : Unit => .func (.func 106) #[] #[]) (fun _ => [blk tb (thC N NA m nc kd) TTh]) (fun _ => True) w) := by
  refine calls_wc ([blk tb (thC N NA m nc kd) TTh].flatMap Res.fp) [blk tb (thC N NA m nc kd) TTh] [.tmp 2] (fun _ => [.func (.func 106) #[] #[]]) Try.func77 rfl rfl (fun _ => rfl) Try.ntmps77 rfl hw rfl ?_
  refine gg ?_
  exact grt () trivial
/-- what shows that colours are not proper: none, or the first pair, with the line of columns and rows -/
def FtOK (kd : Int) (p g : Pat) (n : Nat) (l xs : List Int) : Prop := (xs = [] ∧ NoAl g l n 0) ∨ ∃ u v : Int, 0 ≤ u ∧ u < v ∧ v < n ∧ hasB g u v = true ∧ gt l u = gt l v ∧ NoAl g l u v ∧ ((kd = 1 ∧ xs = [u, v]) ∨ (kd = 2 ∧ ∃ k, xs = [u, v, k] ∧ MtOK p u v k) ∨ (kd = 3 ∧ ∃ k, xs = [u, v, k] ∧ MtOK (turnP p) u v k))
open Classical in
noncomputable def ftE (n : Int) (l : List Int) : Int := if ColOK n l then 0 else 240
theorem fault_ok (w : World) (hk : kd = 1 ∨ kd = 2 ∨ kd = 3) (hm : May g) (hn : g.rows = n) (hsq : g.rows = g.width) (hp : RdP w x p) (hmp : May p) (hl : Rds vi w A c l) (hs : l.length ≤ 17592186043904)
    (htk : ∀ w', Only [] w w' → Calls Try.prog 67 [vi kd, pvl x p].toArray w' (Ret [] (fun t : TX => .tuple #[.pointer (some ⟨t.tb, 0, none⟩), vi 0]) (ThR R yf kd g) (fun _ => True) w')) (hrd : ∀ t, RdB w [] (R t) (yf t) g) :
    Calls Try.prog 38 [vi kd, pvl x p, .slice A l.length c].toArray w (Ret [] (fun z : RX => .tuple #[.slice z.A z.xs.length z.c, vi (ftE n l)]) (fun z => [osl TI vi z.A z.c z.xs]) (fun z => (ftE n l = 0 → FtOK kd p g n l z.xs) ∧ (ftE n l ≠ 0 → z.xs = [])) w) := by
  have HG := hm.toHead
  have hn2 := HG.r1
  have hn0 := HG.r0
  have op := hp.old
  have oL := hl.old
  unfold pvl patV at *
  refine calls_wc [] [] [.tmp 6, .tmp 7] (fun z : RX => [.slice z.A z.xs.length z.c, vi (ftE n l)]) Try.func38 rfl rfl (fun _ => rfl) Try.ntmps38 rfl (Own.nil w) rfl ?_
  refine gnil ?_
  refine gg ?_
  refine wl_op (ok_box rfl rfl rfl rfl rfl ?_); intro bp
  refine gg ?_
  refine gc3 [] (fun w hst hst1 => htk w hst1.only) (by exact rfl) ?_
  (repeat (first | refine gk1 ?_ | refine gk2 ?_ | refine gk3 ?_ | refine gk0 ?_ | refine gk4 ?_))
  rintro ⟨tb, NA, nc, y⟩ _
  dsimp only [List.cons_append, List.nil_append]
  generalize hRy : R ⟨tb, NA, nc, y⟩ = RR
  have hrd' := hrd ⟨tb, NA, nc, y⟩
  rw [hRy] at hrd'
  generalize yf ⟨tb, NA, nc, y⟩ = yy at hrd'
  by_cases hc : ColOK n l
  · have hE : ftE n l = 0 := if_pos hc
    rw [hE]
    refine gg ?_
    refine gc3 [blk tb (thC g.rows NA (nearTo yy g g.rows).length nc kd) TTh] (fun w hst hst1 => coloured_c (N := g.rows) w (oL.later hst1) hs 0 (by rw [hn]; simp [hc]) hst1.own) (by exact rfl) ?_
    (repeat (first | refine gk1 ?_ | refine gk2 ?_ | refine gk3 ?_ | refine gk0 ?_ | refine gk4 ?_))
    rintro _ _
    dsimp only [List.cons_append, List.nil_append]
    refine gg ?_
    refine gc3 (ThI tb NA nc yy kd g RR) (fun w hst hst1 => alike_col_c (n := n) w hm hn hsq (oL.later hst1) (by have := hc.1; omega) (hrd'.later hst1) hst1.own) (by exact rfl) ?_
    dsimp only [ThI]
    (repeat (first | refine gk1 ?_ | refine gk2 ?_ | refine gk3 ?_ | refine gk0 ?_ | refine gk4 ?_))
    rintro ⟨B, d, xs⟩ hal
    dsimp only [ThI, List.cons_append, List.nil_append] at hal ⊢
    rcases hal with ⟨rfl, hno⟩ | ⟨u, v, hxx, u0, uv, v1, hb, he, hno⟩
    · have h4 : kd ≠ 4 := by omega
      have h5 : kd ≠ 5 := by omega
      dsimp only [List.length_nil]
      refine gg ?_
      refine gc3 [blk tb (thC g.rows NA (nearTo yy g g.rows).length nc kd) TTh] (fun w hst hst1 => further_c (N := g.rows) w h4 h5 hst1.own) (by exact rfl) ?_
      (repeat (first | refine gk1 ?_ | refine gk2 ?_ | refine gk3 ?_ | refine gk0 ?_ | refine gk4 ?_))
      rintro _ _
      dsimp only [List.cons_append, List.nil_append]
      refine gg ?_
      refine wl_callv [] _ (first := []) (captured := []) (vs := [.slice A l.length c]) (vf := fun _ : Unit => .slice none 0 0) (ρ := fun _ => []) (φ := fun _ => True) (f := 106) (fun w hst => further1_c w (.slice A l.length c)) (by rfl) (by rfl) (by rfl) (bod_of rfl) (by rfl) (by rfl) (by rfl) (List.Perm.refl _) ?_
      rintro _ _
      dsimp only [List.cons_append, List.nil_append]
      refine gg ?_
      exact grt (⟨none, 0, []⟩ : RX) ⟨fun _ => .inl ⟨rfl, hno⟩, fun h => (h rfl).elim⟩
    · have hx2 : xs.length = 2 := by rw [hxx]; rfl
      have hg0 : gt xs 0 = u := by rw [hxx]; rfl
      have hg1 : gt xs 1 = v := by rw [hxx]; rfl
      rcases hk with rfl | rfl | rfl
      · refine gg ?_
        exact grt (⟨B, d, xs⟩ : RX) ⟨fun _ => .inr ⟨u, v, u0, uv, v1, hb, he, hno, .inl ⟨rfl, hxx⟩⟩, fun h => (h rfl).elim⟩
      · refine gg ?_
        refine gc3 [] (fun w hst hst1 => meetingF_c (p := p) (x := x) (u := u) (v := v) (L := xs) w (op.now hst) (grd hst) hx2 hg0 hg1 hmp) (by exact rfl) ?_
        (repeat (first | refine gk1 ?_ | refine gk2 ?_ | refine gk3 ?_ | refine gk0 ?_ | refine gk4 ?_))
        rintro k hk
        dsimp only [List.cons_append, List.nil_append]
        refine gpush (by exact rfl) (fun _ => by exact rfl) ?_ (hl := by omega)
        intro _ A' c'
        refine gg ?_
        exact grt (⟨A', c', xs ++ [k]⟩ : RX) ⟨fun _ => .inr ⟨u, v, u0, uv, v1, hb, he, hno, .inr (.inl ⟨rfl, k, by rw [hxx]; rfl, hk⟩)⟩, fun h => (h rfl).elim⟩
      · refine gg ?_
        refine gc3 [] (fun w hst hst1 => meetingT_c (p := p) (x := x) (u := u) (v := v) (L := xs) w (op.now hst) (grd hst) hx2 hg0 hg1 hmp) (by exact rfl) ?_
        (repeat (first | refine gk1 ?_ | refine gk2 ?_ | refine gk3 ?_ | refine gk0 ?_ | refine gk4 ?_))
        rintro k hk
        dsimp only [List.cons_append, List.nil_append]
        refine gpush (by exact rfl) (fun _ => by exact rfl) ?_ (hl := by omega)
        intro _ A' c'
        refine gg ?_
        exact grt (⟨A', c', xs ++ [k]⟩ : RX) ⟨fun _ => .inr ⟨u, v, u0, uv, v1, hb, he, hno, .inr (.inr ⟨rfl, k, by rw [hxx]; rfl, hk⟩)⟩, fun h => (h rfl).elim⟩
  · have hE : ftE n l = 240 := if_neg hc
    rw [hE]
    refine gg ?_
    refine gc3 [blk tb (thC g.rows NA (nearTo yy g g.rows).length nc kd) TTh] (fun w hst hst1 => coloured_c (N := g.rows) w (oL.later hst1) hs 240 (by rw [hn]; simp [hc]) hst1.own) (by exact rfl) ?_
    (repeat (first | refine gk1 ?_ | refine gk2 ?_ | refine gk3 ?_ | refine gk0 ?_ | refine gk4 ?_))
    rintro _ _
    dsimp only [List.cons_append, List.nil_append]
    refine gg ?_
    exact grt (⟨none, 0, []⟩ : RX) ⟨fun h => absurd h (by decide), fun _ => rfl⟩
open Classical in
noncomputable def ckE (g : Pat) (n : Nat) (l : List Int) : Int := if ColOK n l then (if NoAl g l n 0 then 0 else 241) else 240
theorem check_ok (w : World) (hk : kd = 1 ∨ kd = 2 ∨ kd = 3) (hm : May g) (hn : g.rows = n) (hsq : g.rows = g.width) (hp : RdP w x p) (hmp : May p) (hl : Rds vi w A c l) (hs : l.length ≤ 17592186043904)
    (htk : ∀ w', Only [] w w' → Calls Try.prog 67 [vi kd, pvl x p].toArray w' (Ret [] (fun t : TX => .tuple #[.pointer (some ⟨t.tb, 0, none⟩), vi 0]) (ThR R yf kd g) (fun _ => True) w')) (hrd : ∀ t, RdB w [] (R t) (yf t) g) :
    Calls Try.prog 39 [vi kd, pvl x p, .slice A l.length c].toArray w (one (vi (ckE g n l)) w) := by
  have op := hp.old
  have oL := hl.old
  have hft : ∀ w', Only [] w w' → _ := fun w' ho => fault_ok (kd := kd) (p := p) (x := x) w' hk hm hn hsq ⟨hp.s.only ho, hp.c.only ho⟩ hmp (hl.only ho) hs (fun w2 ho2 => htk w2 (ho.trans ho2)) (fun t w2 ho2 hok => hrd t w2 (ho.trans ho2) hok)
  unfold pvl patV at *
  refine calls_wc [] [] [.tmp 6] (fun _ => [vi (ckE g n l)]) Try.func39 rfl rfl (fun _ => rfl) Try.ntmps39 rfl (Own.nil w) rfl ?_
  refine gg ?_
  refine wl_op (ok_box rfl rfl rfl rfl rfl ?_); intro bp
  refine gg ?_
  refine gc3 [] (fun w hst hst1 => hft w hst1.only) (by exact rfl) ?_
  (repeat (first | refine gk1 ?_ | refine gk2 ?_ | refine gk3 ?_ | refine gk0 ?_ | refine gk4 ?_))
  rintro ⟨B, d, xs⟩ ⟨hz1, hz2⟩
  dsimp only [List.cons_append, List.nil_append] at hz1 hz2 ⊢
  by_cases hc : ColOK n l
  · have hE : ftE n l = 0 := if_pos hc
    rw [hE]
    rcases hz1 hE with ⟨rfl, hno⟩ | ⟨u, v, u0, uv, v1, hb, he, hno, hx⟩
    · rw [show ckE g n l = 0 by unfold ckE; rw [if_pos hc, if_pos hno]]
      dsimp only [List.length_nil]
      refine gg ?_
      exact grt () trivial
    · have hna : ¬ NoAl g l n 0 := fun h => h u v hb uv (.inl (by omega)) he
      rw [show ckE g n l = 241 by unfold ckE; rw [if_pos hc, if_neg hna]]
      have hlen : 0 < xs.length := by
        rcases hx with ⟨_, e⟩ | ⟨_, k, e, _⟩ | ⟨_, k, e, _⟩ <;> rw [e] <;> simp
      refine gg ?_
      exact grt () trivial
  · have hE : ftE n l = 240 := if_neg hc
    rw [hE, show ckE g n l = 240 by unfold ckE; rw [if_neg hc]]
    refine gg ?_
    exact grt () trivial
end
theorem ret_val {α : Type} {σ1 : List Res} {vf vf' : α → Value} {ρ : α → List Res} {φ φ' : α → Prop} {w w' : World} {e : Ending} (h : Ret σ1 vf ρ φ w e w') (hv : ∀ x, φ x → vf x = vf' x ∧ φ' x) : Ret σ1 vf' ρ φ' w e w' := by
  obtain ⟨x, h1, h2, h3⟩ := h
  exact ⟨x, by rw [h1, (hv x h2).1], (hv x h2).2, h3⟩
theorem gr_of {g : Pat} {f : Int → Int → Bool} (hm : May g) (hsq : g.rows = g.width) (hf : hasB g = f) (hs : ∀ a b, f a b = true → f b a = true) (hi : ∀ v, f v v = false) : IsGr g :=
  ⟨⟨hm, hsq, fun r c h => by rw [← hasB_iff, hf] at h ⊢; exact hs _ _ h⟩, fun v h => by rw [← hasB_iff, hf, hi] at h; cases h⟩
theorem gr_cols {p : Pat} (hm : May p) : IsGr (colsS p).1 := by
  obtain ⟨f1, f2, f3, f4⟩ := cols_facts hm
  refine gr_of f1 (by omega) f4 (fun a b h => ?_) (fun v => ?_)
  · unfold meetC at h ⊢
    rw [decide_eq_true_iff] at h ⊢
    obtain ⟨h1, k, h2, h3⟩ := h
    exact ⟨fun e => h1 e.symm, k, h3, h2⟩
  · exact decide_eq_false fun h => h.1 rfl
theorem gr_rows {p : Pat} (hm : May p) : IsGr (rowsS p).1 := by
  obtain ⟨f1, f2, f3, f4⟩ := rows_facts hm
  refine gr_of f1 (by omega) f4 (fun a b h => ?_) (fun v => ?_)
  · unfold meetB at h ⊢
    rw [decide_eq_true_iff] at h ⊢
    obtain ⟨h1, k, h2, h3⟩ := h
    exact ⟨fun e => h1 e.symm, k, h3, h2⟩
  · exact decide_eq_false fun h => h.1 rfl
theorem badB_low {k : Int} (h4 : k ≠ 4) (h5 : k ≠ 5) : badB k = badB 1 := by
  funext g n cs v c
  rw [badB_not5 h5, badB_not5 (by decide), decide_eq_false h4]
  rfl
theorem nearP_low {k : Int} (h4 : k ≠ 4) (h5 : k ≠ 5) : NearP k = NearP 1 := by
  funext g l j x
  unfold NearP
  simp [h4, h5]
theorem bndTo_low {k : Int} (h4 : k ≠ 4) (h5 : k ≠ 5) (g : Int → Int → Bool) (n : Nat) (l : List Int) : ∀ j, bndTo k g n l j = bndTo 1 g n l j
  | 0 => rfl
  | j + 1 => by
    show max _ _ = max _ _
    rw [bndTo_low h4 h5 g n l j]
    unfold nearN
    rw [nearP_low h4 h5]

noncomputable def grE (kd : Int) (p : Pat) (l : List Int) : Int := if thE kd p ≠ 0 then thE kd p else if ¬ IsOrd l (thN kd p) then 182 else 0

noncomputable def grL (kd : Int) (p : Pat) (l : List Int) : List Int := if thE kd p ≠ 0 then [] else if ¬ IsOrd l (thN kd p) then [] else greedyS kd (thF kd p) (thN kd p).toNat l
section
variable {p : Pat} {x : PA} {kd : Int} {A B : Option Addr} {c d : Nat} {l cs : List Int}
theorem greedyX_c (w : World) (hp : RdP w x p) (hl : Rds vi w A c l) (e : Int) (hne : e ≠ 0) (hord : ∀ w', RdP w' x p → Rds vi w' A c l → Calls Try.prog 60 [vi kd, pvl x p, .slice A l.length c].toArray w' (one (.tuple #[.pointer none, vi e]) w')) :
    Calls Try.prog 21 [vi kd, pvl x p, .slice A l.length c].toArray w (Ret [] (fun y : RX => .tuple #[.slice y.A y.xs.length y.c, vi 0, vi e]) (fun y => [osl TI vi y.A y.c y.xs]) (fun y => y.xs = []) w) := by
  have op := hp.old
  have oL := hl.old
  unfold pvl patV at *
  refine calls_wc [] [] [.tmp 6, .tmp 7, .tmp 8] (fun y : RX => [.slice y.A y.xs.length y.c, vi 0, vi e]) Try.func21 rfl rfl (fun _ => rfl) Try.ntmps21 rfl (Own.nil w) rfl ?_
  refine gnil ?_
  refine gg ?_
  refine wl_op (ok_box rfl rfl rfl rfl rfl ?_); intro bp
  refine gg ?_
  refine gc1 (fun w hst => hord w (op.now hst) (oL.now hst)) (by exact rfl) ?_
  refine gg ?_
  exact grt (⟨none, 0, []⟩ : RX) rfl
theorem greedyN_c (w : World) (h5 : kd ≠ 5) (hp : RdP w x p) (hl : Rds vi w A c l) :
    Calls Try.prog 21 [vi kd, pvl x p, .slice A l.length c].toArray w (Ret [] (fun y : RX => .tuple #[.slice y.A y.xs.length y.c, vi (numS (grL kd p l)), vi (grE kd p l)]) (fun y => [osl TI vi y.A y.c y.xs]) (fun y => y.xs = grL kd p l) w) := by
  have op := hp.old
  by_cases he : thE kd p = 0
  · obtain ⟨hm, hk⟩ := thE_zero he
    have h0 := hm.toHead.r0
    by_cases ho : IsOrd l (thN kd p)
    · have hL : grL kd p l = greedyS kd (thF kd p) (thN kd p).toNat l := by unfold grL; rw [if_neg (not_not_intro he), if_neg (not_not_intro ho)]
      have hE : grE kd p l = 0 := by unfold grE; rw [if_neg (not_not_intro he), if_neg (not_not_intro ho)]
      rw [hL, hE]
      rcases hk with ⟨hk, hg⟩ | hk | hk
      · have k2 : kd ≠ 2 := by omega
        have k3 : kd ≠ 3 := by omega
        rw [show thN kd p = p.rows from if_neg k2] at ho ⊢
        rw [show thF kd p = hasB p from (if_neg k2).trans (if_neg k3)]
        exact (greedy_ok (n := p.rows.toNat) (R := fun _ => []) (yf := fun _ => x) w h5 hm (by omega) hg.1.2.1 (fun a b h => by rw [← hg.sym]; exact h) hg.irr hl (by rw [show ((p.rows.toNat : Nat) : Int) = p.rows by omega]; exact ho)
          (fun w' ho' => ordG_c w' ⟨hp.s.only ho', hp.c.only ho'⟩ (hl.only ho') hm hg hk ho) (fun t => RdB.nil op)).mono fun e w' h => ret_val h fun y hy => ⟨by rw [hy], hy⟩
      · obtain ⟨f1, f2, f3, f4⟩ := cols_facts hm
        have hg := gr_cols hm
        have e1 : thN kd p = (colsS p).1.rows := by rw [f2]; exact if_pos hk
        have h0' := f1.toHead.r0
        rw [e1] at ho ⊢
        rw [show thF kd p = hasB (colsS p).1 by rw [f4]; exact if_pos hk]
        exact (greedy_ok (n := (colsS p).1.rows.toNat) (R := fun t => PatR t.y (colsS p).1) (yf := fun t => t.y) w h5 f1 (by omega) (by omega) (fun a b h => by rw [← hg.sym]; exact h) hg.irr hl (by rw [show (((colsS p).1.rows.toNat : Nat) : Int) = (colsS p).1.rows by omega]; exact ho)
          (fun w' ho' => ordcols_c w' ⟨hp.s.only ho', hp.c.only ho'⟩ (hl.only ho') hm hk ho) (fun t => RdB.own)).mono fun e w' h => ret_val h fun y hy => ⟨by rw [hy], hy⟩
      · obtain ⟨f1, f2, f3, f4⟩ := rows_facts hm
        have hg := gr_rows hm
        have e1 : thN kd p = (rowsS p).1.rows := by rw [f2]; exact if_neg (by omega)
        have h0' := f1.toHead.r0
        rw [e1] at ho ⊢
        rw [show thF kd p = hasB (rowsS p).1 by rw [f4]; exact (if_neg (by omega)).trans (if_pos hk)]
        exact (greedy_ok (n := (rowsS p).1.rows.toNat) (R := fun t => PatR t.y (rowsS p).1) (yf := fun t => t.y) w h5 f1 (by omega) (by omega) (fun a b h => by rw [← hg.sym]; exact h) hg.irr hl (by rw [show (((rowsS p).1.rows.toNat : Nat) : Int) = (rowsS p).1.rows by omega]; exact ho)
          (fun w' ho' => ordrows_c w' ⟨hp.s.only ho', hp.c.only ho'⟩ (hl.only ho') hm hk ho) (fun t => RdB.own)).mono fun e w' h => ret_val h fun y hy => ⟨by rw [hy], hy⟩
    · have hL : grL kd p l = [] := by unfold grL; rw [if_neg (not_not_intro he), if_pos ho]
      have hE : grE kd p l = 182 := by unfold grE; rw [if_neg (not_not_intro he), if_pos ho]
      rw [hL, hE]
      refine greedyX_c w hp hl 182 (by decide) fun w' hp' hl' => ?_
      rcases hk with ⟨hk, hg⟩ | hk | hk
      · rw [show thN kd p = p.rows from if_neg (by omega)] at ho
        exact ordNG_c w' hp' hl' hm hg hk ho
      · rw [show thN kd p = (colsS p).1.rows by rw [(cols_facts hm).2.1]; exact if_pos hk] at ho
        exact ordNcols_c w' hp' hl' hm hk ho
      · rw [show thN kd p = (rowsS p).1.rows by rw [(rows_facts hm).2.1]; exact if_neg (by omega)] at ho
        exact ordNrows_c w' hp' hl' hm hk ho
  · have hL : grL kd p l = [] := by unfold grL; rw [if_pos he]
    have hE : grE kd p l = thE kd p := by unfold grE; rw [if_pos he]
    rw [hL, hE]
    exact greedyX_c w hp hl (thE kd p) he fun w' hp' hl' => ordE_c w' hp' he
theorem checkL_c (w : World) (he : thE kd p = 0) (hk : kd = 1 ∨ kd = 2 ∨ kd = 3) (hp : RdP w x p) (hl : Rds vi w A c l) (hs : l.length ≤ 17592186043904) :
    Calls Try.prog 39 [vi kd, pvl x p, .slice A l.length c].toArray w (one (vi (ckE (gr kd p) (gr kd p).rows.toNat l)) w) := by
  have op := hp.old
  obtain ⟨hm, h⟩ := thE_zero he
  have h0 := hm.toHead.r0
  rcases h with ⟨hk1, hg⟩ | hk2 | hk3
  · obtain rfl : kd = 1 := by omega
    rw [show gr 1 p = p by unfold gr; rw [if_neg (by decide), if_neg (by decide)]]
    exact check_ok (R := fun _ => []) (yf := fun _ => x) w hk hm (by omega) hg.1.2.1 hp hm hl hs (fun w' ho' => tkG_c w' ⟨hp.s.only ho', hp.c.only ho'⟩ hm hg hk1) (fun t => RdB.nil op)
  · subst hk2
    rw [show gr 2 p = (colsS p).1 by unfold gr; rw [if_pos rfl]]
    obtain ⟨f1, f2, f3, f4⟩ := cols_facts hm
    have h0' := f1.toHead.r0
    exact check_ok (R := fun t => PatR t.y (colsS p).1) (yf := fun t => t.y) w hk f1 (by omega) (by omega) hp hm hl hs (fun w' ho' => tkcols_c w' ⟨hp.s.only ho', hp.c.only ho'⟩ hm rfl) (fun t => RdB.own)
  · subst hk3
    rw [show gr 3 p = (rowsS p).1 by unfold gr; rw [if_neg (by decide), if_pos rfl]]
    obtain ⟨f1, f2, f3, f4⟩ := rows_facts hm
    have h0' := f1.toHead.r0
    exact check_ok (R := fun t => PatR t.y (rowsS p).1) (yf := fun t => t.y) w hk f1 (by omega) (by omega) hp hm hl hs (fun w' ho' => tkrows_c w' ⟨hp.s.only ho', hp.c.only ho'⟩ hm rfl) (fun t => RdB.own)
theorem same_c {g : Pat} {y : PA} (w : World) (hm : May p) (hk : (kd = 2 ∧ g = (colsS p).1) ∨ (kd = 3 ∧ g = (rowsS p).1)) (hp : RdP w x p) (hq : RdP w y g) (hl : Rds vi w A c l) (hc : Rds vi w B d cs) (hs : cs.length ≤ 17592186043904) :
    Calls Try.prog 34 [vi kd, pvl x p, pvl y g, .slice A l.length c, .slice B cs.length d].toArray w (one (.bool true) w) := by
  have op := hp.old
  have oq := hq.old
  have oL := hl.old
  have oC := hc.old
  have h4 : kd ≠ 4 := by omega
  have h5 : kd ≠ 5 := by omega
  have hg : IsGr g := by
    rcases hk with ⟨_, rfl⟩ | ⟨_, rfl⟩
    · exact gr_cols hm
    · exact gr_rows hm
  have e1 : thE kd p = 0 := by
    unfold thE
    rw [if_neg (not_not_intro hm), if_pos (by omega)]
  have e2 : thE 1 g = 0 := by
    unfold thE
    rw [if_neg (not_not_intro hg.1.1), if_neg (by decide), if_pos (.inl rfl), if_pos hg]
  have hN : thN 1 g = thN kd p := by
    rw [show thN 1 g = g.rows from if_neg (by decide)]
    rcases hk with ⟨rfl, rfl⟩ | ⟨rfl, rfl⟩
    · rw [(cols_facts hm).2.1]; exact (if_pos rfl).symm
    · rw [(rows_facts hm).2.1]; exact (if_neg (by decide)).symm
  have hF : thF 1 g = thF kd p := by
    rw [show thF 1 g = hasB g from (if_neg (by decide)).trans (if_neg (by decide))]
    rcases hk with ⟨rfl, rfl⟩ | ⟨rfl, rfl⟩
    · rw [(cols_facts hm).2.2.2]; exact (if_pos rfl).symm
    · rw [(rows_facts hm).2.2.2]; exact ((if_neg (by decide)).trans (if_pos rfl)).symm
  have hG : gr kd p = g := by
    unfold gr
    rcases hk with ⟨rfl, rfl⟩ | ⟨rfl, rfl⟩
    · rw [if_pos rfl]
    · rw [if_neg (by decide), if_pos rfl]
  have hG1 : gr 1 g = g := by unfold gr; rw [if_neg (by decide), if_neg (by decide)]
  have hgl : grL kd p l = grL 1 g l := by
    unfold grL greedyS
    rw [e1, e2, hN, hF, badB_low h4 h5]
  have hge : grE kd p l = grE 1 g l := by
    unfold grE
    rw [e1, e2, hN]
  have hbs : boundS kd p l = boundS 1 g l := by
    unfold boundS
    rw [e1, e2, hN, hF, bndTo_low h4 h5]
  have c1 : ∀ w, RdP w x p → Rds vi w A c l → _ := fun w a b => greedyN_c (kd := kd) w h5 a b
  have c2 : ∀ w, RdP w y g → Rds vi w A c l → _ := fun w a b => greedyN_c (kd := 1) w (by decide) a b
  have c3 : ∀ w, RdP w x p → Rds vi w A c l → _ := fun w a b => bound_c (kd := kd) w a b
  have c4 : ∀ w, RdP w y g → Rds vi w A c l → _ := fun w a b => bound_c (kd := 1) w a b
  have c5 : ∀ w, RdP w x p → Rds vi w B d cs → _ := fun w a b => checkL_c (kd := kd) w e1 (by omega) a b hs
  have c6 : ∀ w, RdP w y g → Rds vi w B d cs → _ := fun w a b => checkL_c (kd := 1) w e2 (.inl rfl) a b hs
  rw [hgl, hge] at c1
  rw [hbs] at c3
  rw [hG] at c5
  rw [hG1] at c6
  generalize grL 1 g l = gl at c1 c2
  generalize grE 1 g l = ge at c1 c2
  generalize boundS 1 g l = bz at c3 c4
  generalize ckE g g.rows.toNat cs = ce at c5 c6
  obtain ⟨bz1, bz2⟩ := bz
  dsimp only at c3 c4
  unfold pvl patV at *
  refine calls_wc [] [] [.tmp 10] (fun _ => [.bool true]) Try.func34 rfl rfl (fun _ => rfl) Try.ntmps34 rfl (Own.nil w) rfl ?_
  refine gg ?_
  refine wl_op (ok_box rfl rfl rfl rfl rfl ?_); intro bp
  refine wl_op (ok_box rfl rfl rfl rfl rfl ?_); intro bq
  refine gg ?_
  refine gc3 [] (fun w hst hst1 => c1 w (op.now hst) (oL.now hst)) (by exact rfl) ?_
  (repeat (first | refine gk1 ?_ | refine gk2 ?_ | refine gk3 ?_ | refine gk0 ?_ | refine gk4 ?_))
  rintro y1 r1
  dsimp only [List.cons_append, List.nil_append]
  refine gg ?_
  refine gc3 [] (fun w hst hst1 => c2 w (oq.now hst) (oL.now hst)) (by exact rfl) ?_
  (repeat (first | refine gk1 ?_ | refine gk2 ?_ | refine gk3 ?_ | refine gk0 ?_ | refine gk4 ?_))
  rintro y2 r2
  dsimp only [List.cons_append, List.nil_append]
  refine gg ?_
  refine gc1 (fun w hst => sameInts_c (xs := y1.xs) (ys := y2.xs) w (grd hst) (grd hst) true (by rw [r1, r2]; simp)) (by exact rfl) ?_
  refine gg ?_
  refine gc1 (fun w hst => c3 w (op.now hst) (oL.now hst)) (by exact rfl) ?_
  refine gg ?_
  refine gc1 (fun w hst => c4 w (oq.now hst) (oL.now hst)) (by exact rfl) ?_
  refine gg ?_
  refine wc_quiet mixed (by kernel_rfl) ?_
  refine gg ?_
  refine gc2 (fun w hst => c5 w (op.now hst) (oC.now hst)) (by exact rfl) ?_
  refine gg ?_
  refine gc2 (fun w hst => c6 w (oq.now hst) (oC.now hst)) (by exact rfl) ?_
  refine gg ?_
  exact grt () trivial
theorem lawColourLines_c (w : World) (hp : RdP w x p) (hl : Rds vi w A c l) (hc : Rds vi w B d cs) (hs : cs.length ≤ 17592186043904) :
    Calls Try.prog 7 [pvl x p, .slice A l.length c, .slice B cs.length d].toArray w (one (.bool true) w) := by
  have op := hp.old
  have oL := hl.old
  have oC := hc.old
  have os := op.s
  have oc := op.c
  unfold pvl patV
  refine calls_wc [] [] [.tmp 6] (fun _ => [.bool true]) Try.func7 rfl rfl (fun _ => rfl) Try.ntmps7 rfl (Own.nil w) rfl ?_
  refine gg ?_
  refine wl_op (ok_box rfl rfl rfl rfl rfl ?_); intro bp
  refine gg ?_
  refine gc1 (fun w hst => alive_c w) (by exact rfl) ?_
  refine gg ?_
  refine gc3 [] (fun w hst hst1 => columns_c (p := p) (x := x) w (op.now hst)) (by exact rfl) ?_
  (repeat (first | refine gk1 ?_ | refine gk2 ?_ | refine gk3 ?_ | refine gk0 ?_ | refine gk4 ?_))
  rintro y1 _
  dsimp only [List.cons_append, List.nil_append]
  refine gg ?_
  refine wl_op (ok_alloc rfl rfl rfl rfl (ze_of rfl) ?_); intro q1
  refine gg ?_
  refine gc3 [] (fun w hst hst1 => colRows_c (p := p) (x := x) w (op.now hst)) (by exact rfl) ?_
  (repeat (first | refine gk1 ?_ | refine gk2 ?_ | refine gk3 ?_ | refine gk0 ?_ | refine gk4 ?_))
  rintro y2 _
  dsimp only [List.cons_append, List.nil_append]
  refine gg ?_
  refine wl_op (ok_alloc rfl rfl rfl rfl (ze_of rfl) ?_); intro q2
  refine gg ?_
  refine gc3 [] (fun w hst hst1 => turn_c (p := p) (x := x) w (op.now hst)) (by exact rfl) ?_
  (repeat (first | refine gk1 ?_ | refine gk2 ?_ | refine gk3 ?_ | refine gk0 ?_ | refine gk4 ?_))
  rintro y3 _
  dsimp only [List.cons_append, List.nil_append]
  refine gg ?_
  refine wl_op (ok_alloc rfl rfl rfl rfl (ze_of rfl) ?_); intro q3
  refine gg ?_
  by_cases hm : May p
  · refine gc1 (fun w hst => refMay_c (p := p) (w := w) (os.now hst) (oc.now hst) true (by simp [hm])) (by exact rfl) ?_
    obtain ⟨f1, f2, f3, f4⟩ := cols_facts hm
    obtain ⟨k1, k2, k3, k4⟩ := rows_facts hm
    have e1 : (colsS p).2 = 0 := by rw [show colsS p = (shutP p.width.toNat p.width (meetC p), 0) from if_pos hm]
    have e2 : (rowsS p).2 = 0 := by rw [show rowsS p = (shutP p.rows.toNat p.rows (meetB p), 0) from if_pos hm]
    have e3 := turnS_ok hm
    have r1 := rowsS_turn hm
    have r2 : colsS (turnP p) = rowsS p := by rw [← rowsS_turn (may_turn hm), turn_turn hm]
    rw [e1, e2, e3]
    dsimp only
    refine gg ?_
    refine gc3 [] (fun w hst hst1 => columns_c (p := turnP p) (x := y3) w (grdP hst)) (by exact rfl) ?_
    (repeat (first | refine gk1 ?_ | refine gk2 ?_ | refine gk3 ?_ | refine gk0 ?_ | refine gk4 ?_))
    rintro y4 _
    dsimp only [List.cons_append, List.nil_append]
    rw [r2, e2]
    refine gg ?_
    refine wl_op (ok_alloc rfl rfl rfl rfl (ze_of rfl) ?_); intro q4
    refine gg ?_
    refine gc3 [] (fun w hst hst1 => colRows_c (p := turnP p) (x := y3) w (grdP hst)) (by exact rfl) ?_
    (repeat (first | refine gk1 ?_ | refine gk2 ?_ | refine gk3 ?_ | refine gk0 ?_ | refine gk4 ?_))
    rintro y5 _
    dsimp only [List.cons_append, List.nil_append]
    rw [r1, e1]
    refine gg ?_
    refine wl_op (ok_alloc rfl rfl rfl rfl (ze_of rfl) ?_); intro q5
    refine gg ?_
    refine gc1 (fun w hst => num_c _ w) (by exact rfl) ?_
    refine gg ?_
    refine gc1 (fun w hst => num_c _ w) (by exact rfl) ?_
    refine gg ?_
    refine gc1 (fun w hst => num_c _ w) (by exact rfl) ?_
    refine gg ?_
    refine gc1 (fun w hst => num_c _ w) (by exact rfl) ?_
    refine gg ?_
    refine gc1 (fun w hst => num_c _ w) (by exact rfl) ?_
    refine gg ?_
    refine gc1 (fun w hst => samePattern_c (p := (colsS p).1) (q := (colsS p).1) (x := y1) (y := y5) w (grdP hst) (grdP hst) true (by simp)) (by exact rfl) ?_
    refine gg ?_
    refine gc1 (fun w hst => samePattern_c (p := (rowsS p).1) (q := (rowsS p).1) (x := y2) (y := y4) w (grdP hst) (grdP hst) true (by simp)) (by exact rfl) ?_
    refine gg ?_
    refine gc1 (fun w hst => same_c (p := p) (kd := 2) (x := x) (g := (colsS p).1) (y := y1) w hm (.inl ⟨rfl, rfl⟩) (op.now hst) (grdP hst) (oL.now hst) (oC.now hst) hs) (by exact rfl) ?_
    refine gg ?_
    refine gc1 (fun w hst => same_c (p := p) (kd := 3) (x := x) (g := (rowsS p).1) (y := y2) w hm (.inr ⟨rfl, rfl⟩) (op.now hst) (grdP hst) (oL.now hst) (oC.now hst) hs) (by exact rfl) ?_
    refine gg ?_
    exact grt () trivial
  · refine gc1 (fun w hst => refMay_c (p := p) (w := w) (os.now hst) (oc.now hst) false (by simp [hm])) (by exact rfl) ?_
    have e1 : (colsS p).2 = 180 := by rw [show colsS p = (zP, 180) from if_neg hm]
    have e2 : (rowsS p).2 = 180 := by rw [show rowsS p = (zP, 180) from if_neg hm]
    have e3 : (turnS p).2 = 180 := by rw [show turnS p = (zP, 180) from if_neg hm]
    rw [e1, e2, e3]
    refine gg ?_
    refine gc1 (fun w hst => num_c _ w) (by exact rfl) ?_
    refine gg ?_
    refine gc1 (fun w hst => num_c _ w) (by exact rfl) ?_
    refine gg ?_
    exact grt () trivial
end
end Go.Proofs.Ytoiiellaoikojaa
