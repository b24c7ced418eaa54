/- Walks: colours: Fault and Check of proper ones, columns, rows. -/
import Derived.Test.YtoiiellaoikojaaN0
set_option linter.unusedVariables false
set_option linter.unusedSimpArgs false
set_option maxHeartbeats 8000000
namespace Go.Proofs.Ytoiiellaoikojaa
open Go.RowKit
/-- the least line in which both stand -/
def MtOK (q : Pat) (u v k : Int) : Prop := (∃ r, HasP q r u ∧ HasP q r v) → HasP q k u ∧ HasP q k v ∧ ∀ s : Int, 0 ≤ s → s < k → ¬ (HasP q s u ∧ HasP q s v)
section
variable {p : Pat} {x : PA} {A : Option Addr} {c : Nat} {u v : Int} {L : List Int}
theorem meetingF_c (w : World) (hp : RdP w x p) (hA : Rds vi w A c L) (hL : L.length = 2) (hu : gt L 0 = u) (hv : gt L 1 = v) (hm : May p) :
    Calls Try.prog 79 [pvl x p, .slice A L.length c, .bool false].toArray w (Ret [] (fun k : Int => vi k) (fun _ => []) (MtOK p u v) w) := by
  have op := hp.old
  have os := op.s
  have oA := hA.old
  have hq := hm
  have HG := hm.toHead
  have g1 := HG.r0
  have g2 := HG.r1
  unfold pvl patV
  refine calls_wc [] [] [.tmp 6] (fun k : Int => [vi k]) Try.func79 rfl rfl (fun _ => rfl) Try.ntmps79 rfl (Own.nil w) rfl ?_
  refine gg ?_
  refine wl_op (ok_box rfl rfl rfl rfl rfl ?_); intro bp
  refine gg ?_
  refine glp (fun r : Int => 0 ≤ r ∧ r ≤ p.rows ∧ ∀ s : Int, 0 ≤ s → s < r → ¬ (HasP p s u ∧ HasP p s v)) (fun r => [(1, .slice A L.length c), (3, .pointer (some ⟨bp, 0, none⟩)), (15, vi p.rows), (16, vi r)]) (fun _ => [blk bp (pcs x p) TP]) (fun r => (p.rows - r).toNat) 0 ⟨by omega, g1, fun s s0 s1 => by omega⟩ ?_
  rintro r ⟨hr0, hr1, hno⟩
  by_cases hr : r < p.rows
  · by_cases b1 : HasP p r u
    · by_cases b2 : HasP p r v
      · refine gg ?_
        refine wc_quiet mixed (by kernel_rfl) ?_
        refine gg ?_
        refine gc2 (fun w hst => has_c (p := p) (r := r) (x := gt L 0) w (op.s.now hst) (op.c.now hst) true (by simp [hq, hu, b1])) (by exact rfl) ?_
        refine gg ?_
        refine gc2 (fun w hst => has_c (p := p) (r := r) (x := gt L 1) w (op.s.now hst) (op.c.now hst) true (by simp [hq, hv, b2])) (by exact rfl) ?_
        refine gg ?_
        exact grt r (fun _ => ⟨b1, b2, hno⟩)
      · refine gg ?_
        refine wc_quiet mixed (by kernel_rfl) ?_
        refine gg ?_
        refine gc2 (fun w hst => has_c (p := p) (r := r) (x := gt L 0) w (op.s.now hst) (op.c.now hst) true (by simp [hq, hu, b1])) (by exact rfl) ?_
        refine gg ?_
        refine gc2 (fun w hst => has_c (p := p) (r := r) (x := gt L 1) w (op.s.now hst) (op.c.now hst) false (by simp [hv, b2])) (by exact rfl) ?_
        refine gg ?_
        exact gnx (r + 1) ⟨by omega, by omega, fun s s0 s1 => by
          by_cases e : s = r
          · rw [e]; exact fun h => b2 h.2
          · exact hno s s0 (by omega)⟩ (by omega)
    · refine gg ?_
      refine wc_quiet mixed (by kernel_rfl) ?_
      refine gg ?_
      refine gc2 (fun w hst => has_c (p := p) (r := r) (x := gt L 0) w (op.s.now hst) (op.c.now hst) false (by simp [hu, b1])) (by exact rfl) ?_
      refine gg ?_
      exact gnx (r + 1) ⟨by omega, by omega, fun s s0 s1 => by
        by_cases e : s = r
        · rw [e]; exact fun h => b1 h.1
        · exact hno s s0 (by omega)⟩ (by omega)
  obtain rfl : r = p.rows := by omega
  refine gg ?_
  exact grt 0 (fun ⟨s, h1, h2⟩ => (hno s (h1.in_ hq).1.1 (h1.in_ hq).1.2 ⟨h1, h2⟩).elim)
theorem meetingT_c (w : World) (hp : RdP w x p) (hA : Rds vi w A c L) (hL : L.length = 2) (hu : gt L 0 = u) (hv : gt L 1 = v) (hm : May p) :
    Calls Try.prog 79 [pvl x p, .slice A L.length c, .bool true].toArray w (Ret [] (fun k : Int => vi k) (fun _ => []) (MtOK (turnP p) u v) w) := by
  have op := hp.old
  have oA := hA.old
  have hq := may_turn hm
  have HG := hq.toHead
  have g1 := HG.r0
  have g2 := HG.r1
  unfold pvl patV
  refine calls_wc [] [] [.tmp 6] (fun k : Int => [vi k]) Try.func79 rfl rfl (fun _ => rfl) Try.ntmps79 rfl (Own.nil w) rfl ?_
  refine gg ?_
  refine wl_op (ok_box rfl rfl rfl rfl rfl ?_); intro bp
  refine gg ?_
  refine gc3 [] (fun w hst hst1 => turn_c (p := p) (x := x) w (op.now hst)) (by exact rfl) ?_
  (repeat (first | refine gk1 ?_ | refine gk2 ?_ | refine gk3 ?_ | refine gk0 ?_ | refine gk4 ?_))
  rintro y1 _
  dsimp only [List.cons_append, List.nil_append]
  rw [turnS_ok hm]
  refine gg ?_
  refine glp (fun r : Int => 0 ≤ r ∧ r ≤ (turnP p).rows ∧ ∀ s : Int, 0 ≤ s → s < r → ¬ (HasP (turnP p) s u ∧ HasP (turnP p) s v)) (fun r => [(1, .slice A L.length c), (3, .pointer (some ⟨bp, 0, none⟩)), (15, vi (turnP p).rows), (16, vi r)]) (fun _ => [blk bp (pcs y1 (turnP p)) TP, osl TI vi y1.A y1.c (turnP p).start, osl TI vi y1.B y1.d (turnP p).cols]) (fun r => ((turnP p).rows - r).toNat) 0 ⟨by omega, g1, fun s s0 s1 => by omega⟩ ?_
  rintro r ⟨hr0, hr1, hno⟩
  by_cases hr : r < (turnP p).rows
  · by_cases b1 : HasP (turnP p) r u
    · by_cases b2 : HasP (turnP p) r v
      · refine gg ?_
        refine wc_quiet mixed (by kernel_rfl) ?_
        refine gg ?_
        refine gc2 (fun w hst => has_c (p := (turnP p)) (r := r) (x := gt L 0) w (grd hst) (grd hst) true (by simp [hq, hu, b1])) (by exact rfl) ?_
        refine gg ?_
        refine gc2 (fun w hst => has_c (p := (turnP p)) (r := r) (x := gt L 1) w (grd hst) (grd hst) true (by simp [hq, hv, b2])) (by exact rfl) ?_
        refine gg ?_
        exact grt r (fun _ => ⟨b1, b2, hno⟩)
      · refine gg ?_
        refine wc_quiet mixed (by kernel_rfl) ?_
        refine gg ?_
        refine gc2 (fun w hst => has_c (p := (turnP p)) (r := r) (x := gt L 0) w (grd hst) (grd hst) true (by simp [hq, hu, b1])) (by exact rfl) ?_
        refine gg ?_
        refine gc2 (fun w hst => has_c (p := (turnP p)) (r := r) (x := gt L 1) w (grd hst) (grd hst) false (by simp [hv, b2])) (by exact rfl) ?_
        refine gg ?_
        exact gnx (r + 1) ⟨by omega, by omega, fun s s0 s1 => by
          by_cases e : s = r
          · rw [e]; exact fun h => b2 h.2
          · exact hno s s0 (by omega)⟩ (by omega)
    · refine gg ?_
      refine wc_quiet mixed (by kernel_rfl) ?_
      refine gg ?_
      refine gc2 (fun w hst => has_c (p := (turnP p)) (r := r) (x := gt L 0) w (grd hst) (grd hst) false (by simp [hu, b1])) (by exact rfl) ?_
      refine gg ?_
      exact gnx (r + 1) ⟨by omega, by omega, fun s s0 s1 => by
        by_cases e : s = r
        · rw [e]; exact fun h => b1 h.1
        · exact hno s s0 (by omega)⟩ (by omega)
  obtain rfl : r = (turnP p).rows := by omega
  refine gg ?_
  exact grt 0 (fun ⟨s, h1, h2⟩ => (hno s (h1.in_ hq).1.1 (h1.in_ hq).1.2 ⟨h1, h2⟩).elim)
end
theorem further1_c (w : World) (v : Value) : Calls Try.prog 106 [v].toArray w (Ret [] (fun _ : Unit => .slice none 0 0) (fun _ => []) (fun _ => True) w) := by
  refine calls_wc [] [] [.tmp 2] (fun _ : Unit => [.slice none 0 0]) Try.func106 rfl rfl (fun _ => rfl) Try.ntmps106 rfl (Own.nil w) rfl ?_
  refine gg ?_
  exact grt () trivial
section
variable {g p : Pat} {x y : PA} {kd N : Int} {A NA : Option Addr} {c n nc tb m : Nat} {l : List Int} {R : TX → List Res} {yf : TX → PA}
theorem further_c (w : World) (h4 : kd ≠ 4) (h5 : kd ≠ 5) (hw : Own [blk tb (thC N NA m nc kd) TTh] w) :
    Calls Try.prog 77 [.pointer (some ⟨tb, 0, none⟩)].toArray w (Ret [blk tb (thC N NA m nc kd) TTh] (fun _ : Unit => .func (.func 106) #[] #[]) (fun _ => [blk tb (thC N NA m nc kd) TTh]) (fun _ => True) w) := by
  refine calls_wc ([blk tb (thC N NA m nc kd) TTh].flatMap Res.fp) [blk tb (thC N NA m nc kd) TTh] [.tmp 2] (fun _ => [.func (.func 106) #[] #[]]) Try.func77 rfl rfl (fun _ => rfl) Try.ntmps77 rfl hw rfl ?_
  refine gg ?_
  exact grt () trivial
/-- what shows that colours are not proper: none, or the first pair, with the line of columns and rows -/
def FtOK (kd : Int) (p g : Pat) (n : Nat) (l xs : List Int) : Prop := (xs = [] ∧ NoAl g l n 0) ∨ ∃ u v : Int, 0 ≤ u ∧ u < v ∧ v < n ∧ hasB g u v = true ∧ gt l u = gt l v ∧ NoAl g l u v ∧ ((kd = 1 ∧ xs = [u, v]) ∨ (kd = 2 ∧ ∃ k, xs = [u, v, k] ∧ MtOK p u v k) ∨ (kd = 3 ∧ ∃ k, xs = [u, v, k] ∧ MtOK (turnP p) u v k))
open Classical in
noncomputable def ftE (n : Int) (l : List Int) : Int := if ColOK n l then 0 else 240
theorem fault_ok (w : World) (hk : kd = 1 ∨ kd = 2 ∨ kd = 3) (hm : May g) (hn : g.rows = n) (hsq : g.rows = g.width) (hp : RdP w x p) (hmp : May p) (hl : Rds vi w A c l) (hs : l.length ≤ 17592186043904)
    (htk : ∀ w', Only [] w w' → Calls Try.prog 67 [vi kd, pvl x p].toArray w' (Ret [] (fun t : TX => .tuple #[.pointer (some ⟨t.tb, 0, none⟩), vi 0]) (ThR R yf kd g) (fun _ => True) w')) (hrd : ∀ t, RdB w [] (R t) (yf t) g) :
    Calls Try.prog 38 [vi kd, pvl x p, .slice A l.length c].toArray w (Ret [] (fun z : RX => .tuple #[.slice z.A z.xs.length z.c, vi (ftE n l)]) (fun z => [osl TI vi z.A z.c z.xs]) (fun z => (ftE n l = 0 → FtOK kd p g n l z.xs) ∧ (ftE n l ≠ 0 → z.xs = [])) w) := by
  have HG := hm.toHead
  have hn2 := HG.r1
  have hn0 := HG.r0
  have op := hp.old
  have oL := hl.old
  unfold pvl patV at *
  refine calls_wc [] [] [.tmp 6, .tmp 7] (fun z : RX => [.slice z.A z.xs.length z.c, vi (ftE n l)]) Try.func38 rfl rfl (fun _ => rfl) Try.ntmps38 rfl (Own.nil w) rfl ?_
  refine gnil ?_
  refine gg ?_
  refine wl_op (ok_box rfl rfl rfl rfl rfl ?_); intro bp
  refine gg ?_
  refine gc3 [] (fun w hst hst1 => htk w hst1.only) (by exact rfl) ?_
  (repeat (first | refine gk1 ?_ | refine gk2 ?_ | refine gk3 ?_ | refine gk0 ?_ | refine gk4 ?_))
  rintro ⟨tb, NA, nc, y⟩ _
  dsimp only [List.cons_append, List.nil_append]
  generalize hRy : R ⟨tb, NA, nc, y⟩ = RR
  have hrd' := hrd ⟨tb, NA, nc, y⟩
  rw [hRy] at hrd'
  generalize yf ⟨tb, NA, nc, y⟩ = yy at hrd'
  by_cases hc : ColOK n l
  · have hE : ftE n l = 0 := if_pos hc
    rw [hE]
    refine gg ?_
    refine gc3 [blk tb (thC g.rows NA (nearTo yy g g.rows).length nc kd) TTh] (fun w hst hst1 => coloured_c (N := g.rows) w (oL.later hst1) hs 0 (by rw [hn]; simp [hc]) hst1.own) (by exact rfl) ?_
    (repeat (first | refine gk1 ?_ | refine gk2 ?_ | refine gk3 ?_ | refine gk0 ?_ | refine gk4 ?_))
    rintro _ _
    dsimp only [List.cons_append, List.nil_append]
    refine gg ?_
    refine gc3 (ThI tb NA nc yy kd g RR) (fun w hst hst1 => alike_col_c (n := n) w hm hn hsq (oL.later hst1) (by have := hc.1; omega) (hrd'.later hst1) hst1.own) (by exact rfl) ?_
    dsimp only [ThI]
    (repeat (first | refine gk1 ?_ | refine gk2 ?_ | refine gk3 ?_ | refine gk0 ?_ | refine gk4 ?_))
    rintro ⟨B, d, xs⟩ hal
    dsimp only [ThI, List.cons_append, List.nil_append] at hal ⊢
    rcases hal with ⟨rfl, hno⟩ | ⟨u, v, hxx, u0, uv, v1, hb, he, hno⟩
    · have h4 : kd ≠ 4 := by omega
      have h5 : kd ≠ 5 := by omega
      dsimp only [List.length_nil]
      refine gg ?_
      refine gc3 [blk tb (thC g.rows NA (nearTo yy g g.rows).length nc kd) TTh] (fun w hst hst1 => further_c (N := g.rows) w h4 h5 hst1.own) (by exact rfl) ?_
      (repeat (first | refine gk1 ?_ | refine gk2 ?_ | refine gk3 ?_ | refine gk0 ?_ | refine gk4 ?_))
      rintro _ _
      dsimp only [List.cons_append, List.nil_append]
      refine gg ?_
      refine wl_callv [] _ (first := []) (captured := []) (vs := [.slice A l.length c]) (vf := fun _ : Unit => .slice none 0 0) (ρ := fun _ => []) (φ := fun _ => True) (f := 106) (fun w hst => further1_c w (.slice A l.length c)) (by rfl) (by rfl) (by rfl) (bod_of rfl) (by rfl) (by rfl) (by rfl) (List.Perm.refl _) ?_
      rintro _ _
      dsimp only [List.cons_append, List.nil_append]
      refine gg ?_
      exact grt (⟨none, 0, []⟩ : RX) ⟨fun _ => .inl ⟨rfl, hno⟩, fun h => (h rfl).elim⟩
    · have hx2 : xs.length = 2 := by rw [hxx]; rfl
      have hg0 : gt xs 0 = u := by rw [hxx]; rfl
      have hg1 : gt xs 1 = v := by rw [hxx]; rfl
      rcases hk with rfl | rfl | rfl
      · refine gg ?_
        exact grt (⟨B, d, xs⟩ : RX) ⟨fun _ => .inr ⟨u, v, u0, uv, v1, hb, he, hno, .inl ⟨rfl, hxx⟩⟩, fun h => (h rfl).elim⟩
      · refine gg ?_
        refine gc3 [] (fun w hst hst1 => meetingF_c (p := p) (x := x) (u := u) (v := v) (L := xs) w (op.now hst) (grd hst) hx2 hg0 hg1 hmp) (by exact rfl) ?_
        (repeat (first | refine gk1 ?_ | refine gk2 ?_ | refine gk3 ?_ | refine gk0 ?_ | refine gk4 ?_))
        rintro k hk
        dsimp only [List.cons_append, List.nil_append]
        refine gpush (by exact rfl) (fun _ => by exact rfl) ?_ (hl := by omega)
        intro _ A' c'
        refine gg ?_
        exact grt (⟨A', c', xs ++ [k]⟩ : RX) ⟨fun _ => .inr ⟨u, v, u0, uv, v1, hb, he, hno, .inr (.inl ⟨rfl, k, by rw [hxx]; rfl, hk⟩)⟩, fun h => (h rfl).elim⟩
      · refine gg ?_
        refine gc3 [] (fun w hst hst1 => meetingT_c (p := p) (x := x) (u := u) (v := v) (L := xs) w (op.now hst) (grd hst) hx2 hg0 hg1 hmp) (by exact rfl) ?_
        (repeat (first | refine gk1 ?_ | refine gk2 ?_ | refine gk3 ?_ | refine gk0 ?_ | refine gk4 ?_))
        rintro k hk
        dsimp only [List.cons_append, List.nil_append]
        refine gpush (by exact rfl) (fun _ => by exact rfl) ?_ (hl := by omega)
        intro _ A' c'
        refine gg ?_
        exact grt (⟨A', c', xs ++ [k]⟩ : RX) ⟨fun _ => .inr ⟨u, v, u0, uv, v1, hb, he, hno, .inr (.inr ⟨rfl, k, by rw [hxx]; rfl, hk⟩)⟩, fun h => (h rfl).elim⟩
  · have hE : ftE n l = 240 := if_neg hc
    rw [hE]
    refine gg ?_
    refine gc3 [blk tb (thC g.rows NA (nearTo yy g g.rows).length nc kd) TTh] (fun w hst hst1 => coloured_c (N := g.rows) w (oL.later hst1) hs 240 (by rw [hn]; simp [hc]) hst1.own) (by exact rfl) ?_
    (repeat (first | refine gk1 ?_ | refine gk2 ?_ | refine gk3 ?_ | refine gk0 ?_ | refine gk4 ?_))
    rintro _ _
    dsimp only [List.cons_append, List.nil_append]
    refine gg ?_
    exact grt (⟨none, 0, []⟩ : RX) ⟨fun h => absurd h (by decide), fun _ => rfl⟩
open Classical in
noncomputable def ckE (g : Pat) (n : Nat) (l : List Int) : Int := if ColOK n l then (if NoAl g l n 0 then 0 else 241) else 240
theorem check_ok (w : World) (hk : kd = 1 ∨ kd = 2 ∨ kd = 3) (hm : May g) (hn : g.rows = n) (hsq : g.rows = g.width) (hp : RdP w x p) (hmp : May p) (hl : Rds vi w A c l) (hs : l.length ≤ 17592186043904)
    (htk : ∀ w', Only [] w w' → Calls Try.prog 67 [vi kd, pvl x p].toArray w' (Ret [] (fun t : TX => .tuple #[.pointer (some ⟨t.tb, 0, none⟩), vi 0]) (ThR R yf kd g) (fun _ => True) w')) (hrd : ∀ t, RdB w [] (R t) (yf t) g) :
    Calls Try.prog 39 [vi kd, pvl x p, .slice A l.length c].toArray w (one (vi (ckE g n l)) w) := by
  have op := hp.old
  have oL := hl.old
  have hft : ∀ w', Only [] w w' → _ := fun w' ho => fault_ok (kd := kd) (p := p) (x := x) w' hk hm hn hsq ⟨hp.s.only ho, hp.c.only ho⟩ hmp (hl.only ho) hs (fun w2 ho2 => htk w2 (ho.trans ho2)) (fun t w2 ho2 hok => hrd t w2 (ho.trans ho2) hok)
  unfold pvl patV at *
  refine calls_wc [] [] [.tmp 6] (fun _ => [vi (ckE g n l)]) Try.func39 rfl rfl (fun _ => rfl) Try.ntmps39 rfl (Own.nil w) rfl ?_
  refine gg ?_
  refine wl_op (ok_box rfl rfl rfl rfl rfl ?_); intro bp
  refine gg ?_
  refine gc3 [] (fun w hst hst1 => hft w hst1.only) (by exact rfl) ?_
  (repeat (first | refine gk1 ?_ | refine gk2 ?_ | refine gk3 ?_ | refine gk0 ?_ | refine gk4 ?_))
  rintro ⟨B, d, xs⟩ ⟨hz1, hz2⟩
  dsimp only [List.cons_append, List.nil_append] at hz1 hz2 ⊢
  by_cases hc : ColOK n l
  · have hE : ftE n l = 0 := if_pos hc
    rw [hE]
    rcases hz1 hE with ⟨rfl, hno⟩ | ⟨u, v, u0, uv, v1, hb, he, hno, hx⟩
    · rw [show ckE g n l = 0 by unfold ckE; rw [if_pos hc, if_pos hno]]
      dsimp only [List.length_nil]
      refine gg ?_
      exact grt () trivial
    · have hna : ¬ NoAl g l n 0 := fun h => h u v hb uv (.inl (by omega)) he
      rw [show ckE g n l = 241 by unfold ckE; rw [if_pos hc, if_neg hna]]
      have hlen : 0 < xs.length := by
        rcases hx with ⟨_, e⟩ | ⟨_, k, e, _⟩ | ⟨_, k, e, _⟩ <;> rw [e] <;> simp
      refine gg ?_
      exact grt () trivial
  · have hE : ftE n l = 240 := if_neg hc
    rw [hE, show ckE g n l = 240 by unfold ckE; rw [if_neg hc]]
    refine gg ?_
    exact grt () trivial
end
end Go.Proofs.Ytoiiellaoikojaa
