/- Walks: colours: the reference's where, Fault, Check; the law ColourChecks. -/
import Derived.Test.YtoiiellaoikojaaGreatUB
set_option linter.unusedVariables false
set_option linter.unusedSimpArgs false
set_option maxHeartbeats 8000000
namespace Go.Proofs.YtoiiellaoikojaaGreat
open Go.RowKit Classical
theorem MtOK.uniq {q : Pat} {u v k k' : Int} (h : MtOK q u v k) (h' : MtOK q u v k') (hm : May q) (he : ∃ r, HasP q r u ∧ HasP q r v) : k = k' := by
  obtain ⟨a1, a2, a3⟩ := h he
  obtain ⟨b1, b2, b3⟩ := h' he
  have e1 := (a1.in_ hm).1
  have e2 := (b1.in_ hm).1
  by_cases c1 : k < k'
  · exact (b3 k e1.1 c1 ⟨a1, a2⟩).elim
  · by_cases c2 : k' < k
    · exact (a3 k' e2.1 c2 ⟨b1, b2⟩).elim
    · omega
def WhOK (kd : Int) (p : Pat) (u v : Int) (xs : List Int) : Prop := (kd ≠ 2 ∧ kd ≠ 3 ∧ xs = [u, v]) ∨ (kd = 2 ∧ ∃ k, xs = [u, v, k] ∧ MtOK p u v k) ∨ (kd = 3 ∧ ∃ k, xs = [u, v, k] ∧ MtOK (turnP p) u v k)
theorem FaOK.uniq {kd : Int} {p g : Pat} {n : Nat} {l xs ys : List Int} (hm : May p) (h2 : kd = 2 → ∀ u v, hasB g u v = true → ∃ r, HasP p r u ∧ HasP p r v) (h3 : kd = 3 → ∀ u v, hasB g u v = true → ∃ r, HasP (turnP p) r u ∧ HasP (turnP p) r v) (h : FaOK kd p g n l xs) (k : FaOK kd p g n l ys) : xs = ys := by
  rcases h with ⟨a1, a2, a3, a4⟩ | ⟨u, v, u0, uv, vn, hb, he, hno, hx⟩
  · rcases k with ⟨b1, b2, b3, b4⟩ | ⟨u, v, u0, uv, vn, hb, he, hno, hx⟩
    · by_cases e4 : kd = 4
      · exact (a3 e4).uniq (b3 e4)
      · by_cases e5 : kd = 5
        · exact (a4 e5).uniq (b4 e5)
        · rw [a2 e4 e5, b2 e4 e5]
    · exact (a1 u v hb uv (.inl (by omega)) he).elim
  · rcases k with ⟨b1, b2, b3, b4⟩ | ⟨u', v', u0', uv', vn', hb', he', hno', hx'⟩
    · exact (b1 u v hb uv (.inl (by omega)) he).elim
    · have e1 : ¬ (u < u' ∨ (u = u' ∧ v < v')) := fun h => hno' u v hb uv h he
      have e2 : ¬ (u' < u ∨ (u' = u ∧ v' < v)) := fun h => hno u' v' hb' uv' h he'
      obtain rfl : u = u' := by omega
      obtain rfl : v = v' := by omega
      rcases hx with ⟨k1, rfl⟩ | ⟨k1, k, rfl, k2⟩ | ⟨k1, k, rfl, k2⟩
      · rcases hx' with ⟨j1, rfl⟩ | ⟨j1, j, rfl, j2⟩ | ⟨j1, j, rfl, j2⟩
        · rfl
        · omega
        · omega
      · rcases hx' with ⟨j1, rfl⟩ | ⟨j1, j, rfl, j2⟩ | ⟨j1, j, rfl, j2⟩
        · omega
        · rw [k2.uniq j2 hm (h2 k1 _ _ hb)]
        · omega
      · rcases hx' with ⟨j1, rfl⟩ | ⟨j1, j, rfl, j2⟩ | ⟨j1, j, rfl, j2⟩
        · omega
        · omega
        · rw [k2.uniq j2 (may_turn hm) (h3 k1 _ _ hb)]
section
variable {p : Pat} {x : PA} {kd u v : Int} {A : Option Addr} {c : Nat} {l : List Int}
theorem where_c (w : World) (hp : RdP w x p) (hm : May p) (u0 : 0 ≤ u) (v0 : 0 ≤ v) (hu2 : kd = 2 → u < p.width ∧ v < p.width) (hu3 : kd = 3 → u < p.rows ∧ v < p.rows) (h2 : kd = 2 → ∃ r, HasP p r u ∧ HasP p r v) (h3 : kd = 3 → ∃ r, HasP (turnP p) r u ∧ HasP (turnP p) r v) :
    Calls Tryz.prog 36 [vi kd, pvl x p, vi u, vi v].toArray w (Ret [] (fun z : RX => .slice z.A z.xs.length z.c) (fun z => [osl TI vi z.A z.c z.xs]) (fun z => WhOK kd p u v z.xs) w) := by
  have op := hp.old
  have HG := hm.toHead
  have r0 := HG.r0
  have r1 := HG.r1
  have w0 := HG.w0
  have w1 := HG.w1
  have hopen : ∀ w (y : PA), RdP w y p → _ := fun w y h => open_c (p := p) (A := y.A) (c := y.c) (B := y.B) (d := y.d) w h.s h.c hm
  unfold pvl patV at *
  refine calls_wc [] [] [.tmp 8] (fun z : RX => [.slice z.A z.xs.length z.c]) Tryz.func36 rfl rfl (fun _ => rfl) Tryz.ntmps36 rfl (Own.nil w) rfl ?_
  refine gnil ?_
  refine gg ?_
  refine wl_op (ok_box rfl rfl rfl rfl rfl ?_); intro bp
  refine gg ?_
  refine gc3 [] (fun w hst hst1 => hopen w x (op.now hst)) (by exact rfl) ?_
  (repeat (first | refine gk1 ?_ | refine gk2 ?_ | refine gk3 ?_ | refine gk0 ?_ | refine gk4 ?_))
  rintro ⟨A1, c1, on⟩ hg
  dsimp only [List.cons_append, List.nil_append] at hg ⊢
  have hgl := hg.len
  refine wl_op (ok_alloc rfl rfl rfl rfl (ze_of rfl) ?_); intro q
  refine gg ?_
  by_cases k2 : kd = 2
  · subst k2
    obtain ⟨u1, v1⟩ := hu2 rfl
    refine glp (fun k : Int => 0 ≤ k ∧ k ≤ p.rows ∧ ∀ s : Int, 0 ≤ s → s < k → ¬ (HasP p s u ∧ HasP p s v)) (fun k => [(0, vi 2), (2, vi u), (3, vi v), (5, .pointer (some ⟨bp, 0, none⟩)), (9, .pointer (some ⟨q, 0, none⟩)), (10, vi k)])
      (fun _ => [blk q (gridC p.rows p.width A1 on.length c1) TGr, osl TB vb A1 c1 on, blk bp (pcs x p) TP, osl TI vi none 0 []]) (fun k => (p.rows - k).toNat) 0 ⟨by omega, r0, fun s s0 s1 => by omega⟩ ?_
    rintro k ⟨hk0, hk1, hno⟩
    by_cases hk : k < p.rows
    · have nxt : ¬ (HasP p k u ∧ HasP p k v) → ∀ s : Int, 0 ≤ s → s < k + 1 → ¬ (HasP p s u ∧ HasP p s v) := fun h s s0 s1 => by
        by_cases e : s = k
        · rw [e]; exact h
        · exact hno s s0 (by omega)
      have gu := hg.at_ k u hk0 hk u0 u1
      have gv := hg.at_ k v hk0 hk v0 v1
      have cu := cell_lt hk0 hk u0 u1
      have cv := cell_lt hk0 hk v0 v1
      refine gg ?_
      cases hu : hasB p k u with
      | false =>
        rw [hu] at gu
        refine gc1 (fun w hst => at_c w (grd hst) w0 w1 hk0 (by omega) u0 (by omega) (by omega) _ gu) (by exact rfl) ?_
        refine gg ?_
        exact gnx (k + 1) ⟨by omega, by omega, nxt fun h => by rw [hasB_iff.2 h.1] at hu; cases hu⟩ (by omega)
      | true =>
        rw [hu] at gu
        refine gc1 (fun w hst => at_c w (grd hst) w0 w1 hk0 (by omega) u0 (by omega) (by omega) _ gu) (by exact rfl) ?_
        refine gg ?_
        cases hv : hasB p k v with
        | false =>
          rw [hv] at gv
          refine gc1 (fun w hst => at_c w (grd hst) w0 w1 hk0 (by omega) v0 (by omega) (by omega) _ gv) (by exact rfl) ?_
          refine gg ?_
          exact gnx (k + 1) ⟨by omega, by omega, nxt fun h => by rw [hasB_iff.2 h.2] at hv; cases hv⟩ (by omega)
        | true =>
          rw [hv] at gv
          refine gc1 (fun w hst => at_c w (grd hst) w0 w1 hk0 (by omega) v0 (by omega) (by omega) _ gv) (by exact rfl) ?_
          refine gg ?_
          refine wl_op (ok_buildSlice vi [u, v, k] (ps := [(0, vi u), (1, vi v), (2, vi k)]) rfl rfl rfl rfl rfl (el_of rfl) (ze_of rfl) (sz_of rfl) rfl (by decide) (by decide) (by kernel_rfl) ?_)
          intro nb
          refine gg ?_
          exact grt (⟨some ⟨nb, 0, none⟩, 3, [u, v, k]⟩ : RX) (.inr (.inl ⟨rfl, k, rfl, fun _ => ⟨hasB_iff.1 hu, hasB_iff.1 hv, hno⟩⟩))
    · obtain ⟨r, hr⟩ := h2 rfl
      have := (hr.1.in_ hm).1
      exact (hno r this.1 (by omega) hr).elim
  · refine glp (fun k : Int => k = 0) (fun k => [(0, vi kd), (2, vi u), (3, vi v), (5, .pointer (some ⟨bp, 0, none⟩)), (9, .pointer (some ⟨q, 0, none⟩)), (10, vi k)])
      (fun _ => [blk q (gridC p.rows p.width A1 on.length c1) TGr, osl TB vb A1 c1 on, blk bp (pcs x p) TP, osl TI vi none 0 []]) (fun k => 0) 0 rfl ?_
    rintro k rfl
    refine gg ?_
    by_cases k3 : kd = 3
    · subst k3
      obtain ⟨u1, v1⟩ := hu3 rfl
      refine glp (fun k : Int => 0 ≤ k ∧ k ≤ p.width ∧ ∀ s : Int, 0 ≤ s → s < k → ¬ (HasP (turnP p) s u ∧ HasP (turnP p) s v)) (fun k => [(0, vi 3), (2, vi u), (3, vi v), (5, .pointer (some ⟨bp, 0, none⟩)), (9, .pointer (some ⟨q, 0, none⟩)), (11, vi k)])
        (fun _ => [blk q (gridC p.rows p.width A1 on.length c1) TGr, osl TB vb A1 c1 on, blk bp (pcs x p) TP, osl TI vi none 0 []]) (fun k => (p.width - k).toNat) 0 ⟨by omega, w0, fun s s0 s1 => by omega⟩ ?_
      rintro k ⟨hk0, hk1, hno⟩
      by_cases hk : k < p.width
      · have nxt : ¬ (HasP (turnP p) k u ∧ HasP (turnP p) k v) → ∀ s : Int, 0 ≤ s → s < k + 1 → ¬ (HasP (turnP p) s u ∧ HasP (turnP p) s v) := fun h s s0 s1 => by
          by_cases e : s = k
          · rw [e]; exact h
          · exact hno s s0 (by omega)
        have gu := hg.at_ u k u0 u1 hk0 hk
        have gv := hg.at_ v k v0 v1 hk0 hk
        have cu := cell_lt u0 u1 hk0 hk
        have cv := cell_lt v0 v1 hk0 hk
        refine gg ?_
        cases hu : hasB p u k with
        | false =>
          rw [hu] at gu
          refine gc1 (fun w hst => at_c w (grd hst) w0 w1 u0 (by omega) hk0 (by omega) (by omega) _ gu) (by exact rfl) ?_
          refine gg ?_
          exact gnx (k + 1) ⟨by omega, by omega, nxt fun h => by rw [hasB_iff.2 ((has_turn hm).1 h.1)] at hu; cases hu⟩ (by omega)
        | true =>
          rw [hu] at gu
          refine gc1 (fun w hst => at_c w (grd hst) w0 w1 u0 (by omega) hk0 (by omega) (by omega) _ gu) (by exact rfl) ?_
          refine gg ?_
          cases hv : hasB p v k with
          | false =>
            rw [hv] at gv
            refine gc1 (fun w hst => at_c w (grd hst) w0 w1 v0 (by omega) hk0 (by omega) (by omega) _ gv) (by exact rfl) ?_
            refine gg ?_
            exact gnx (k + 1) ⟨by omega, by omega, nxt fun h => by rw [hasB_iff.2 ((has_turn hm).1 h.2)] at hv; cases hv⟩ (by omega)
          | true =>
            rw [hv] at gv
            refine gc1 (fun w hst => at_c w (grd hst) w0 w1 v0 (by omega) hk0 (by omega) (by omega) _ gv) (by exact rfl) ?_
            refine gg ?_
            refine wl_op (ok_buildSlice vi [u, v, k] (ps := [(0, vi u), (1, vi v), (2, vi k)]) rfl rfl rfl rfl rfl (el_of rfl) (ze_of rfl) (sz_of rfl) rfl (by decide) (by decide) (by kernel_rfl) ?_)
            intro nb
            refine gg ?_
            exact grt (⟨some ⟨nb, 0, none⟩, 3, [u, v, k]⟩ : RX) (.inr (.inr ⟨rfl, k, rfl, fun _ => ⟨(has_turn hm).2 (hasB_iff.1 hu), (has_turn hm).2 (hasB_iff.1 hv), hno⟩⟩))
      · obtain ⟨r, hr⟩ := h3 rfl
        have := (hr.1.in_ (may_turn hm)).1
        have e : (turnP p).rows = p.width := rows_turn hm
        exact (hno r this.1 (by omega) hr).elim
    · refine glp (fun k : Int => k = 0) (fun k => [(0, vi kd), (2, vi u), (3, vi v), (5, .pointer (some ⟨bp, 0, none⟩)), (9, .pointer (some ⟨q, 0, none⟩)), (11, vi k)])
        (fun _ => [blk q (gridC p.rows p.width A1 on.length c1) TGr, osl TB vb A1 c1 on, blk bp (pcs x p) TP, osl TI vi none 0 []]) (fun k => 0) 0 rfl ?_
      rintro k rfl
      refine gg ?_
      refine wl_op (ok_buildSlice vi [u, v] (ps := [(0, vi u), (1, vi v)]) rfl rfl rfl rfl rfl (el_of rfl) (ze_of rfl) (sz_of rfl) rfl (by decide) (by decide) (by kernel_rfl) ?_)
      intro nb
      refine gg ?_
      exact grt (⟨some ⟨nb, 0, none⟩, 2, [u, v]⟩ : RX) (.inl ⟨k2, k3, rfl⟩)
theorem mayColG_c {m : Int} (w : World) (hA : Rds vi w A c l) (b : Bool) (hb : b = true ↔ ColOK m l) (hm : m ≤ 128) (hs : l.length ≤ 17592186043904) :
    Calls Tryz.prog 34 [vi m, .slice A l.length c].toArray w (one (.bool b) w) := by
  by_cases e : (l.length : Int) = m
  · exact mayCol_c w hA b hb (by omega)
  · obtain rfl : b = false := by
      cases b with
      | false => rfl
      | true => exact (e (hb.1 rfl).1).elim
    refine calls_wc [] [] [.tmp 4] (fun _ => [.bool false]) Tryz.func34 rfl rfl (fun _ => rfl) Tryz.ntmps34 rfl (Own.nil w) rfl ?_
    refine gg ?_
    exact grt () trivial
end
section
variable {p : Pat} {x : PA} {kd : Int} {A : Option Addr} {c : Nat} {l : List Int}
theorem refFaultE_c (w : World) (hp : RdP w x p) (he : thE kd p ≠ 0) :
    Calls Tryz.prog 14 [vi kd, pvl x p, .slice A l.length c].toArray w (Ret [] (fun z : RX => .tuple #[.slice z.A z.xs.length z.c, vi (thE kd p)]) (fun z => [osl TI vi z.A z.c z.xs]) (fun z => z.xs = []) w) := by
  have op := hp.old
  have hth : ∀ w, RdP w x p → _ := fun w h => things_c (p := p) (x := x) (k := kd) w h
  rw [if_neg he] at hth
  generalize thE kd p = e at *
  unfold pvl patV at *
  refine calls_wc [] [] [.tmp 6, .tmp 7] (fun z : RX => [.slice z.A z.xs.length z.c, vi e]) Tryz.func14 rfl rfl (fun _ => rfl) Tryz.ntmps14 rfl (Own.nil w) rfl ?_
  refine gnil ?_
  refine gg ?_
  refine wl_op (ok_box rfl rfl rfl rfl rfl ?_); intro bp
  refine gg ?_
  refine gc3 [] (fun w hst hst1 => hth w (op.now hst)) (by exact rfl) ?_
  (repeat (first | refine gk1 ?_ | refine gk2 ?_ | refine gk3 ?_ | refine gk0 ?_ | refine gk4 ?_))
  rintro y _
  dsimp only [List.cons_append, List.nil_append]
  refine gg ?_
  refine wl_op (ok_alloc rfl rfl rfl rfl (ze_of rfl) ?_); intro q8
  refine gg ?_
  exact grt (⟨none, 0, []⟩ : RX) rfl
theorem refFault_ok {n : Nat} (w : World) (hp : RdP w x p) (hl : Rds vi w A c l) (hs : l.length ≤ 17592186043904) (he : thE kd p = 0) (hN : thN kd p = n) (h1 : n ≤ 128) :
    Calls Tryz.prog 14 [vi kd, pvl x p, .slice A l.length c].toArray w (Ret [] (fun z : RX => .tuple #[.slice z.A z.xs.length z.c, vi (ftE n l)]) (fun z => [osl TI vi z.A z.c z.xs]) (fun z => (ftE n l = 0 → FaOK kd p (gr kd p) n l z.xs) ∧ (ftE n l ≠ 0 → z.xs = [])) w) := by
  have op := hp.old
  have oL := hl.old
  obtain ⟨hm, hkd⟩ := thE_zero he
  obtain ⟨g1, g2, g3⟩ := gr_gr he
  obtain ⟨mf2, mf3⟩ := meet_facts he
  have hth : ∀ w, RdP w x p → _ := fun w h => things_c (p := p) (x := x) (k := kd) w h
  rw [if_pos he, he, hN, ← g3] at hth
  have hin : ∀ x y, hasB (gr kd p) x y = true → (0 ≤ x ∧ x < n) ∧ 0 ≤ y ∧ y < n := fun x y h => by
    have := (hasB_iff.1 h).in_ g1.1.1
    have := g1.1.2.1
    omega
  have hon : On n (hasB (gr kd p)) := fun a b h => by have := hin a b h; omega
  have hev : ∀ a b, hasB (gr kd p) a b = true → hasB (gr kd p) b a = true := fun a b h => by rw [← g1.sym]; exact h
  have hirr := g1.irr
  have hwh : ∀ w, RdP w x p → ∀ u v : Int, 0 ≤ u → u < n → 0 ≤ v → v < n → hasB (gr kd p) u v = true → _ := fun w h u v u0 u1 v0 v1 hb => where_c (kd := kd) (u := u) (v := v) w h hm u0 v0 (fun e => by subst e; rw [show thN 2 p = p.width from if_pos rfl] at hN; omega) (fun e => by subst e; rw [show thN 3 p = p.rows from if_neg (by decide)] at hN; omega) (fun e => mf2 e u v hb) (fun e => mf3 e u v hb)
  have hfa : ∀ u v : Int, 0 ≤ u → u < v → v < n → hasB (gr kd p) u v = true → gt l u = gt l v → NoAl (gr kd p) l u v → ∀ xs, WhOK kd p u v xs → FaOK kd p (gr kd p) n l xs := fun u v u0 uv vn hb e hno xs hx => .inr ⟨u, v, u0, uv, vn, hb, e, hno, by
    rcases hx with ⟨k2, k3, hx⟩ | hx | hx
    · exact .inl ⟨by omega, hx⟩
    · exact .inr (.inl hx)
    · exact .inr (.inr hx)⟩
  have hfn : NoAl (gr kd p) l n 0 → ∀ xs, (kd ≠ 4 → kd ≠ 5 → xs = []) → (kd = 4 → PaOK (hasB (gr kd p)) l xs) → (kd = 5 → CiOK (hasB (gr kd p)) n l xs) → FaOK kd p (gr kd p) n l xs := fun a xs b c d => .inl ⟨a, b, c, d⟩
  have hpr : NoAl (gr kd p) l n 0 → _ := fun h => noAl_proper hev hin hirr h
  unfold NoAl at hfa hfn hpr
  generalize FaOK kd p (gr kd p) n l = FF at *
  generalize hasB (gr kd p) = F at *
  unfold pvl patV at *
  refine calls_wc [] [] [.tmp 6, .tmp 7] (fun z : RX => [.slice z.A z.xs.length z.c, vi (ftE n l)]) Tryz.func14 rfl rfl (fun _ => rfl) Tryz.ntmps14 rfl (Own.nil w) rfl ?_
  refine gnil ?_
  refine gg ?_
  refine wl_op (ok_box rfl rfl rfl rfl rfl ?_); intro bp
  refine gg ?_
  refine gc3 [] (fun w hst hst1 => hth w (op.now hst)) (by exact rfl) ?_
  (repeat (first | refine gk1 ?_ | refine gk2 ?_ | refine gk3 ?_ | refine gk0 ?_ | refine gk4 ?_))
  rintro ⟨A1, c1, on⟩ ⟨hg, _⟩
  have hg := hg rfl
  dsimp only [List.cons_append, List.nil_append] at hg ⊢
  have hgl := hg.len
  refine gg ?_
  refine wl_op (ok_alloc rfl rfl rfl rfl (ze_of rfl) ?_); intro q8
  refine gg ?_
  by_cases hc : ColOK n l
  · have hE : ftE n l = 0 := if_pos hc
    have hcl := hc.1
    have hcl2 : l.length = n := by omega
    rw [hE]
    refine gc1 (fun w hst => mayColG_c (m := (n : Int)) w (oL.now hst) true (by simp [hc]) (by omega) hs) (by exact rfl) ?_
    refine gg ?_
    refine glp (fun u : Int => 0 ≤ u ∧ u ≤ n ∧ ∀ a b : Int, F a b = true → a < b → (a < u ∨ a = u ∧ b < 0) → gt l a ≠ gt l b) (fun u => [(0, vi kd), (2, .slice A l.length c), (4, .pointer (some ⟨bp, 0, none⟩)), (8, .pointer (some ⟨q8, 0, none⟩)), (10, vi u)])
      (fun _ => [blk q8 (graC n A1 on.length c1) TGh, osl TB vb A1 c1 on, blk bp (pcs x p) TP, osl TI vi none 0 []]) (fun u => (n - u).toNat) 0 ⟨by omega, by omega, fun a b hb _ h => by have := hin a b hb; omega⟩ ?_
    rintro u ⟨hu0, hu1, hnu⟩
    by_cases hu : u < n
    · obtain ⟨m0, m1⟩ := mul_small (x := u) (y := n) hu0 (by omega) (by omega) (by omega)
      refine gg ?_
      refine glp (fun v : Int => u + 1 ≤ v ∧ v ≤ n ∧ ∀ a b : Int, F a b = true → a < b → (a < u ∨ a = u ∧ b < v) → gt l a ≠ gt l b) (fun v => [(0, vi kd), (2, .slice A l.length c), (4, .pointer (some ⟨bp, 0, none⟩)), (8, .pointer (some ⟨q8, 0, none⟩)), (10, vi u), (11, vi v)])
        (fun _ => [blk q8 (graC n A1 on.length c1) TGh, osl TB vb A1 c1 on, blk bp (pcs x p) TP, osl TI vi none 0 []]) (fun v => (n - v).toNat) (u + 1) ⟨by omega, by omega, fun a b hb hab h => hnu a b hb hab (by omega)⟩ ?_
      rintro v ⟨hv0, hv1, hnv⟩
      by_cases hv : v < n
      · have huv := hg.at_ u v hu0 hu (by omega) hv
        have luv := cell_lt hu0 hu (show 0 ≤ v by omega) hv
        have nxt : (F u v = true → gt l u ≠ gt l v) → ∀ a b : Int, F a b = true → a < b → (a < u ∨ a = u ∧ b < v + 1) → gt l a ≠ gt l b := fun h a b hb hab hx => by
          by_cases e : a = u ∧ b = v
          · obtain ⟨rfl, rfl⟩ := e
            exact h hb
          · exact hnv a b hb hab (by omega)
        refine gg ?_
        cases hF : F u v with
        | false =>
          rw [hF] at huv
          refine wc_quiet mixed (by kernel_rfl) ?_
          refine gg ?_
          refine gc2 (fun w hst => meetN_c (n := n) (r := u) (x := v) w rfl (grd hst) (by omega) (by omega) hu0 (by omega) (by omega) (by omega) (by omega) _ huv) (by exact rfl) ?_
          refine gg ?_
          exact gnx (v + 1) ⟨by omega, by omega, nxt fun h => by rw [hF] at h; cases h⟩ (by omega)
        | true =>
          rw [hF] at huv
          by_cases hal : gt l u = gt l v
          · refine wc_quiet mixed (by kernel_rfl) ?_
            refine gg ?_
            refine gc2 (fun w hst => meetN_c (n := n) (r := u) (x := v) w rfl (grd hst) (by omega) (by omega) hu0 (by omega) (by omega) (by omega) (by omega) _ huv) (by exact rfl) ?_
            refine gg ?_
            refine gc3 [] (fun w hst hst1 => hwh w (op.now hst) u v hu0 hu (by omega) hv hF) (by exact rfl) ?_
            (repeat (first | refine gk1 ?_ | refine gk2 ?_ | refine gk3 ?_ | refine gk0 ?_ | refine gk4 ?_))
            rintro z hz
            dsimp only [List.cons_append, List.nil_append]
            refine gg ?_
            exact grt z ⟨fun _ => hfa u v hu0 (by omega) hv hF hal hnv _ hz, fun h => (h rfl).elim⟩
          · refine wc_quiet mixed (by kernel_rfl) ?_
            refine gg ?_
            refine gc2 (fun w hst => meetN_c (n := n) (r := u) (x := v) w rfl (grd hst) (by omega) (by omega) hu0 (by omega) (by omega) (by omega) (by omega) _ huv) (by exact rfl) ?_
            refine gg ?_
            exact gnx (v + 1) ⟨by omega, by omega, nxt fun _ => hal⟩ (by omega)
      · obtain rfl : v = n := by omega
        refine gg ?_
        exact gnx (u + 1) ⟨by omega, by omega, fun a b hb hab h => hnv a b hb hab (by have := hin a b hb; omega)⟩ (by omega)
    obtain rfl : u = n := by omega
    by_cases k4 : kd = 4
    · refine gg ?_
      refine gc3 [] (fun w hst hst1 => refPath_c (F := F) (n := n) w rfl (grd hst) hg h1 hon (oL.now hst) rfl hcl2) (by exact rfl) ?_
      (repeat (first | refine gk1 ?_ | refine gk2 ?_ | refine gk3 ?_ | refine gk0 ?_ | refine gk4 ?_))
      rintro z hz
      dsimp only [List.cons_append, List.nil_append]
      refine gg ?_
      exact grt z ⟨fun _ => hfn hnu _ (fun h => (h k4).elim) (fun _ => hz) (fun h => by omega), fun h => (h rfl).elim⟩
    · by_cases k5 : kd = 5
      · refine gg ?_
        refine gc3 [] (fun w hst hst1 => refCircle_c (F := F) (n := n) w rfl (grd hst) hg h1 hon hev (oL.now hst) rfl hcl2 (hpr hnu)) (by exact rfl) ?_
        (repeat (first | refine gk1 ?_ | refine gk2 ?_ | refine gk3 ?_ | refine gk0 ?_ | refine gk4 ?_))
        rintro z hz
        dsimp only [List.cons_append, List.nil_append]
        refine gg ?_
        exact grt z ⟨fun _ => hfn hnu _ (fun _ h => (h k5).elim) (fun h => by omega) (fun _ => hz), fun h => (h rfl).elim⟩
      · refine gg ?_
        exact grt (⟨none, 0, []⟩ : RX) ⟨fun _ => hfn hnu _ (fun _ _ => rfl) (fun h => (k4 h).elim) (fun h => (k5 h).elim), fun h => (h rfl).elim⟩
  · have hE : ftE n l = 240 := if_neg hc
    rw [hE]
    refine gc1 (fun w hst => mayColG_c (m := (n : Int)) w (oL.now hst) false (by simp [hc]) (by omega) hs) (by exact rfl) ?_
    refine gg ?_
    exact grt (⟨none, 0, []⟩ : RX) ⟨fun h => absurd h (by decide), fun _ => rfl⟩
theorem refFault_c (w : World) (hp : RdP w x p) (hl : Rds vi w A c l) (hs : l.length ≤ 17592186043904) :
    Calls Tryz.prog 14 [vi kd, pvl x p, .slice A l.length c].toArray w (Ret [] (fun z : RX => .tuple #[.slice z.A z.xs.length z.c, vi (faE kd p l)]) (fun z => [osl TI vi z.A z.c z.xs]) (fun z => (faE kd p l = 0 → FaOK kd p (gr kd p) (gr kd p).rows.toNat l z.xs) ∧ (faE kd p l ≠ 0 → z.xs = [])) w) := by
  by_cases he : thE kd p = 0
  · obtain ⟨g1, g2, g3⟩ := gr_gr he
    have h0 := g1.1.1.toHead.r0
    have h1 := g1.1.1.toHead.r1
    have hN : thN kd p = (gr kd p).rows.toNat := by omega
    have hE : faE kd p l = ftE (gr kd p).rows.toNat l := by unfold faE; rw [if_neg (not_not_intro he), hN]
    rw [hE]
    exact refFault_ok w hp hl hs he hN (by omega)
  · have hE : faE kd p l = thE kd p := by unfold faE; rw [if_pos he]
    rw [hE]
    exact (refFaultE_c w hp he).mono fun e w' h => ret_val h fun z hz => ⟨rfl, fun h => (he h).elim, fun _ => hz⟩
theorem refCheck_c (w : World) (hp : RdP w x p) (hl : Rds vi w A c l) (hs : l.length ≤ 17592186043904) :
    Calls Tryz.prog 15 [vi kd, pvl x p, .slice A l.length c].toArray w (one (vi (ckA kd p l)) w) := by
  have op := hp.old
  have oL := hl.old
  have hft : ∀ w, RdP w x p → Rds vi w A c l → _ := fun w h k => refFault_c (kd := kd) w h k hs
  have hck : ∀ xs : List Int, _ → _ → _ := fun xs h1 h2 => ckA_of (kd := kd) (p := p) (l := l) (xs := xs) h1 h2
  generalize ckA kd p l = ck at hck ⊢
  generalize faE kd p l = fe at hft hck
  generalize FaOK kd p (gr kd p) (gr kd p).rows.toNat l = FF at hft hck
  unfold pvl patV at *
  refine calls_wc [] [] [.tmp 6] (fun _ => [vi ck]) Tryz.func15 rfl rfl (fun _ => rfl) Tryz.ntmps15 rfl (Own.nil w) rfl ?_
  refine gg ?_
  refine wl_op (ok_box rfl rfl rfl rfl rfl ?_); intro bp
  refine gg ?_
  refine gc3 [] (fun w hst hst1 => hft w (op.now hst) (oL.now hst)) (by exact rfl) ?_
  (repeat (first | refine gk1 ?_ | refine gk2 ?_ | refine gk3 ?_ | refine gk0 ?_ | refine gk4 ?_))
  rintro ⟨B, d, xs⟩ ⟨hz1, hz2⟩
  dsimp only [List.cons_append, List.nil_append] at hz1 hz2 ⊢
  obtain ⟨k1, k2, k3⟩ := hck xs hz1 hz2
  by_cases he : fe = 0
  · by_cases hx : xs = []
    · obtain rfl := k2 he hx
      have hxl : xs.length = 0 := by rw [hx]; rfl
      subst he
      refine gg ?_
      exact grt () trivial
    · obtain rfl := k1 he hx
      have hxl : 0 < xs.length := List.length_pos_iff.2 hx
      subst he
      refine gg ?_
      exact grt () trivial
  · obtain rfl := k3 he
    refine gg ?_
    exact grt () trivial
theorem lawColourChecks_c (w : World) (hp : RdP w x p) (hA : Rds vi w A c l) (hl : p.start.length ≤ 17592186043904) (hl2 : p.cols.length ≤ 17592186043904) (hl3 : l.length ≤ 17592186043904) :
    Calls Tryz.prog 4 [vi kd, pvl x p, .slice A l.length c].toArray w (one (.bool true) w) := by
  have op := hp.old
  have oA := hA.old
  have hb : ∀ (w : World) (x : PA) (A : Option Addr) (c : Nat), RdP w x p → Rds vi w A c l → _ := fun w x A c h1 h2 => fault_c (p := p) (kd := kd) (l := l) (x := x) (A := A) (c := c) w h1 h2 hl3
  have hrb : ∀ (w : World) (x : PA) (A : Option Addr) (c : Nat), RdP w x p → Rds vi w A c l → _ := fun w x A c h1 h2 => refFault_c (p := p) (kd := kd) (l := l) (x := x) (A := A) (c := c) w h1 h2 hl3
  have hf : ∀ (w : World) (x : PA) (A : Option Addr) (c : Nat), RdP w x p → Rds vi w A c l → _ := fun w x A c h1 h2 => check_c (p := p) (kd := kd) (l := l) (x := x) (A := A) (c := c) w h1 h2 hl3
  have hrf : ∀ (w : World) (x : PA) (A : Option Addr) (c : Nat), RdP w x p → Rds vi w A c l → _ := fun w x A c h1 h2 => refCheck_c (p := p) (kd := kd) (l := l) (x := x) (A := A) (c := c) w h1 h2 hl3
  have hun : ∀ xs ys : List Int, (faE kd p l = 0 → FaOK kd p (gr kd p) (gr kd p).rows.toNat l xs) ∧ (faE kd p l ≠ 0 → xs = []) → (faE kd p l = 0 → FaOK kd p (gr kd p) (gr kd p).rows.toNat l ys) ∧ (faE kd p l ≠ 0 → ys = []) → xs = ys := fun xs ys h k => by
    by_cases he : faE kd p l = 0
    · have ht : thE kd p = 0 := by
        unfold faE at he
        by_cases ht : thE kd p = 0
        · exact ht
        · rw [if_pos ht] at he; exact he
      obtain ⟨m2, m3⟩ := meet_facts ht
      exact (h.1 he).uniq (thE_zero ht).1 m2 m3 (k.1 he)
    · rw [h.2 he, k.2 he]
  generalize ckA kd p l = ck at hf hrf
  generalize faE kd p l = fe at hb hrb hun
  generalize FaOK kd p (gr kd p) (gr kd p).rows.toNat l = FF at hb hrb hun
  unfold pvl patV
  refine calls_wc [] [] [.tmp 6] (fun _ => [.bool true]) Tryz.func4 rfl rfl (fun _ => rfl) Tryz.ntmps4 rfl (Own.nil w) rfl ?_
  refine gg ?_
  refine wl_op (ok_box rfl rfl rfl rfl rfl ?_); intro bp
  refine wl_none TIs sv ?_
  refine wl_none TIs sv ?_
  refine gg ?_
  refine wl_op (ok_alloc rfl rfl rfl rfl (ze_of rfl) ?_); intro g
  refine wl_giv (g := g) ?_
  (repeat (first | refine gk1 ?_ | refine gk2 ?_ | refine gk3 ?_ | refine gk0 ?_ | refine gk4 ?_))
  refine gg ?_
  refine gc3 [bun (Giv g ⟨none, 0, none, 0, []⟩)] (fun w hst hst1 => gpat_c (p := p) (x := x) ⟨none, 0, none, 0, []⟩ w (op.later (bun_out1 hst1)) hl hl2 (by simp) (bun_out1 hst1).own) (by exact rfl) ?_
  (repeat (first | refine gk1 ?_ | refine gk2 ?_ | refine gk3 ?_ | refine gk0 ?_ | refine gk4 ?_))
  rintro ⟨z1, e1, f1⟩ ⟨h1a, h1b, h1c⟩
  dsimp only [List.cons_append, List.nil_append] at h1a h1b h1c ⊢
  refine gg ?_
  refine gc3 [bun (Giv g z1)] (fun w hst hst1 => gints_c (l := l) z1 w (oA.later (bun_out1 hst1)) hl3 (by rw [h1a]; simp) (bun_out1 hst1).own) (by exact rfl) ?_
  (repeat (first | refine gk1 ?_ | refine gk2 ?_ | refine gk3 ?_ | refine gk0 ?_ | refine gk4 ?_))
  rintro ⟨z2, e2⟩ ⟨h2a, h2b⟩
  dsimp only [List.cons_append, List.nil_append] at h2a h2b ⊢
  have me1 : e1 ∈ z2.es := by rw [h2a, h1a]; simp
  have mf1 : f1 ∈ z2.es := by rw [h2a, h1a]; simp
  have me2 : e2 ∈ z2.es := by rw [h2a]; simp
  refine gc1 (fun w hst => hf w ⟨e1.A, e1.c, f1.A, f1.c⟩ e2.A e2.c (grdG hst me1 mf1 h1b h1c) (grdI hst me2 h2b)) (by exact rfl) ?_
  refine gg ?_
  refine gc3 [bun (Giv g z2)] (fun w hst hst1 => gpat_c (p := p) (x := x) z2 w (op.later (bun_out1 hst1)) hl hl2 (by rw [h2a, h1a]; simp) (bun_out1 hst1).own) (by exact rfl) ?_
  (repeat (first | refine gk1 ?_ | refine gk2 ?_ | refine gk3 ?_ | refine gk0 ?_ | refine gk4 ?_))
  rintro ⟨z3, e3, f3⟩ ⟨h3a, h3b, h3c⟩
  dsimp only [List.cons_append, List.nil_append] at h3a h3b h3c ⊢
  refine gg ?_
  refine gc3 [bun (Giv g z3)] (fun w hst hst1 => gints_c (l := l) z3 w (oA.later (bun_out1 hst1)) hl3 (by rw [h3a, h2a, h1a]; simp) (bun_out1 hst1).own) (by exact rfl) ?_
  (repeat (first | refine gk1 ?_ | refine gk2 ?_ | refine gk3 ?_ | refine gk0 ?_ | refine gk4 ?_))
  rintro ⟨z4, e4⟩ ⟨h4a, h4b⟩
  dsimp only [List.cons_append, List.nil_append] at h4a h4b ⊢
  have me3 : e3 ∈ z4.es := by rw [h4a, h3a]; simp
  have mf3 : f3 ∈ z4.es := by rw [h4a, h3a]; simp
  have me4 : e4 ∈ z4.es := by rw [h4a]; simp
  refine gc3 [] (fun w hst hst1 => hb w ⟨e3.A, e3.c, f3.A, f3.c⟩ e4.A e4.c (grdG hst me3 mf3 h3b h3c) (grdI hst me4 h4b)) (by exact rfl) ?_
  (repeat (first | refine gk1 ?_ | refine gk2 ?_ | refine gk3 ?_ | refine gk0 ?_ | refine gk4 ?_))
  rintro y1 r1
  dsimp only [List.cons_append, List.nil_append]
  refine gg ?_
  refine gc3 [] (fun w hst hst1 => hrb w x A c (op.now hst) (oA.now hst)) (by exact rfl) ?_
  (repeat (first | refine gk1 ?_ | refine gk2 ?_ | refine gk3 ?_ | refine gk0 ?_ | refine gk4 ?_))
  rintro y2 r2
  dsimp only [List.cons_append, List.nil_append]
  have hxy := hun _ _ r1 r2
  refine gg ?_
  refine gwa [bun (Giv g z4)] ?_
  (repeat (first | refine gk1 ?_ | refine gk2 ?_ | refine gk3 ?_ | refine gk0 ?_ | refine gk4 ?_))
  dsimp only [List.cons_append, List.nil_append]
  (first | refine ga1 0 (by exact rfl) (by exact rfl) ?_ | refine ga2 0 (by exact rfl) (by exact rfl) ?_ | refine ga3 0 (by exact rfl) (by exact rfl) ?_ | refine ga4 0 (by exact rfl) (by exact rfl) ?_)
  (first | refine ga1 2 (by exact rfl) (by exact rfl) ?_ | refine ga2 2 (by exact rfl) (by exact rfl) ?_ | refine ga3 2 (by exact rfl) (by exact rfl) ?_ | refine ga4 2 (by exact rfl) (by exact rfl) ?_)
  (first | refine ga1 3 (by exact rfl) (by exact rfl) ?_ | refine ga2 3 (by exact rfl) (by exact rfl) ?_ | refine ga3 3 (by exact rfl) (by exact rfl) ?_ | refine ga4 3 (by exact rfl) (by exact rfl) ?_)
  (first | refine ga1 4 (by exact rfl) (by exact rfl) ?_ | refine ga2 4 (by exact rfl) (by exact rfl) ?_ | refine ga3 4 (by exact rfl) (by exact rfl) ?_ | refine ga4 4 (by exact rfl) (by exact rfl) ?_)
  refine gaOne 1 rfl ?_
  refine gc10 (fun w hst => num_c _ w) (by exact rfl) ?_
  refine ⟨by (repeat (first | exact Suf.refl | exact Suf.nil | exact Suf.app _ _ | apply Suf.cons)), ?_⟩
  refine gaOne 5 rfl ?_
  refine gc10 (fun w hst => hrf w x A c (op.now hst) (oA.now hst)) (by exact rfl) ?_
  refine ⟨by (repeat (first | exact Suf.refl | exact Suf.nil | exact Suf.app _ _ | apply Suf.cons)), ?_⟩
  (first | refine ga1 6 (by exact rfl) (by exact rfl) ?_ | refine ga2 6 (by exact rfl) (by exact rfl) ?_ | refine ga3 6 (by exact rfl) (by exact rfl) ?_ | refine ga4 6 (by exact rfl) (by exact rfl) ?_)
  (first | refine ga1 7 (by exact rfl) (by exact rfl) ?_ | refine ga2 7 (by exact rfl) (by exact rfl) ?_ | refine ga3 7 (by exact rfl) (by exact rfl) ?_ | refine ga4 7 (by exact rfl) (by exact rfl) ?_)
  (first | refine ga1 8 (by exact rfl) (by exact rfl) ?_ | refine ga2 8 (by exact rfl) (by exact rfl) ?_ | refine ga3 8 (by exact rfl) (by exact rfl) ?_ | refine ga4 8 (by exact rfl) (by exact rfl) ?_)
  (first | refine ga1 10 (by exact rfl) (by exact rfl) ?_ | refine ga2 10 (by exact rfl) (by exact rfl) ?_ | refine ga3 10 (by exact rfl) (by exact rfl) ?_ | refine ga4 10 (by exact rfl) (by exact rfl) ?_)
  refine gaOne 9 rfl ?_
  refine gc10 (fun w hst => num_c _ w) (by exact rfl) ?_
  refine ⟨by (repeat (first | exact Suf.refl | exact Suf.nil | exact Suf.app _ _ | apply Suf.cons)), ?_⟩
  (first | refine ga1 11 (by exact rfl) (by exact rfl) ?_ | refine ga2 11 (by exact rfl) (by exact rfl) ?_ | refine ga3 11 (by exact rfl) (by exact rfl) ?_ | refine ga4 11 (by exact rfl) (by exact rfl) ?_)
  (first | refine ga1 12 (by exact rfl) (by exact rfl) ?_ | refine ga2 12 (by exact rfl) (by exact rfl) ?_ | refine ga3 12 (by exact rfl) (by exact rfl) ?_ | refine ga4 12 (by exact rfl) (by exact rfl) ?_)
  (first | refine ga1 13 (by exact rfl) (by exact rfl) ?_ | refine ga2 13 (by exact rfl) (by exact rfl) ?_ | refine ga3 13 (by exact rfl) (by exact rfl) ?_ | refine ga4 13 (by exact rfl) (by exact rfl) ?_)
  (first | refine ga1 14 (by exact rfl) (by exact rfl) ?_ | refine ga2 14 (by exact rfl) (by exact rfl) ?_ | refine ga3 14 (by exact rfl) (by exact rfl) ?_ | refine ga4 14 (by exact rfl) (by exact rfl) ?_)
  (first | refine ga1 15 (by exact rfl) (by exact rfl) ?_ | refine ga2 15 (by exact rfl) (by exact rfl) ?_ | refine ga3 15 (by exact rfl) (by exact rfl) ?_ | refine ga4 15 (by exact rfl) (by exact rfl) ?_)
  refine gaOne 16 rfl ?_
  refine gc10 (fun w hst => sameInts_c (xs := y1.xs) (ys := y2.xs) w (grd hst) (grd hst) true (by rw [hxy]; simp)) (by exact rfl) ?_
  refine ⟨by (repeat (first | exact Suf.refl | exact Suf.nil | exact Suf.app _ _ | apply Suf.cons)), ?_⟩
  (first | refine ga1 17 (by exact rfl) (by exact rfl) ?_ | refine ga2 17 (by exact rfl) (by exact rfl) ?_ | refine ga3 17 (by exact rfl) (by exact rfl) ?_ | refine ga4 17 (by exact rfl) (by exact rfl) ?_)
  (first | refine ga1 18 (by exact rfl) (by exact rfl) ?_ | refine ga2 18 (by exact rfl) (by exact rfl) ?_ | refine ga3 18 (by exact rfl) (by exact rfl) ?_ | refine ga4 18 (by exact rfl) (by exact rfl) ?_)
  refine gaOne 19 rfl ?_
  refine gc30 [bun (Giv g z4)] (fun w hst hst1 => gintact_c z4 w (by rw [h4a, h3a, h2a, h1a]; simp) (bun_out1 hst1).own) (by exact rfl) ?_
  (repeat (first | refine gk1 ?_ | refine gk2 ?_ | refine gk3 ?_ | refine gk0 ?_ | refine gk4 ?_))
  rintro _ _
  dsimp only [List.cons_append, List.nil_append]
  refine ⟨by (repeat (first | exact Suf.refl | exact Suf.nil | exact Suf.app _ _ | apply Suf.cons)), ?_⟩
  (first | refine ga1 20 (by exact rfl) (by exact rfl) ?_ | refine ga2 20 (by exact rfl) (by exact rfl) ?_ | refine ga3 20 (by exact rfl) (by exact rfl) ?_ | refine ga4 20 (by exact rfl) (by exact rfl) ?_)
  (first | refine ga1 21 (by exact rfl) (by exact rfl) ?_ | refine ga2 21 (by exact rfl) (by exact rfl) ?_ | refine ga3 21 (by exact rfl) (by exact rfl) ?_ | refine ga4 21 (by exact rfl) (by exact rfl) ?_)
  refine gaOne 22 rfl ?_
  refine gc10 (fun w hst => alive_c w) (by exact rfl) ?_
  refine ⟨by (repeat (first | exact Suf.refl | exact Suf.nil | exact Suf.app _ _ | apply Suf.cons)), ?_⟩
  (first | refine ga1 23 (by exact rfl) (by exact rfl) ?_ | refine ga2 23 (by exact rfl) (by exact rfl) ?_ | refine ga3 23 (by exact rfl) (by exact rfl) ?_ | refine ga4 23 (by exact rfl) (by exact rfl) ?_)
  (first | refine ga1 24 (by exact rfl) (by exact rfl) ?_ | refine ga2 24 (by exact rfl) (by exact rfl) ?_ | refine ga3 24 (by exact rfl) (by exact rfl) ?_ | refine ga4 24 (by exact rfl) (by exact rfl) ?_)
  refine gaDone ?_
  refine gg ?_
  exact grt () trivial
end
end Go.Proofs.YtoiiellaoikojaaGreat
