/- Walks: colours: Greedy (but for acyclic ones). -/
import Derived.Test.YtoiiellaoikojaaK4
set_option linter.unusedVariables false
set_option linter.unusedSimpArgs false
set_option maxHeartbeats 8000000
namespace Go.Proofs.Ytoiiellaoikojaa
open Go.RowKit
/-- what is coloured lies in memory, with what it rests on -/
abbrev ThR (R : TX → List Res) (yf : TX → PA) (k : Int) (g : Pat) (t : TX) : List Res := [blk t.tb (thC g.rows t.A (nearTo (yf t) g g.rows).length t.c k) TTh, osl TIs sv t.A t.c (nearTo (yf t) g g.rows), bun (R t)]
structure GrX where
  k : Int
  cs : List Int
  M : List Int
theorem badB_not5 {k : Int} (hk : k ≠ 5) (g : Int → Int → Bool) (n : Nat) (cs : List Int) (v c : Int) : badB k g n cs v c = (badN g n cs v c || (decide (k = 4) && badS g n cs v c)) := by
  unfold badB
  rw [decide_eq_false hk, Bool.false_and, Bool.or_false]
section
variable {p g : Pat} {x : PA} {k : Int} {A : Option Addr} {c n : Nat} {l : List Int} {R : TX → List Res} {yf : TX → PA}
noncomputable def greedyS (k : Int) (g : Int → Int → Bool) (n : Nat) (l : List Int) : List Int := greedyL (badB k g n) n l (List.replicate n (-1))
theorem greedy_ok (w : World) (hk : k ≠ 5) (hm : May g) (hn : g.rows = n) (hsq : g.rows = g.width) (hev : Ev (hasB g)) (hirr : ∀ u, hasB g u u = false) (hl : Rds vi w A c l) (ho : IsOrd l n)
    (hord : ∀ w', Only [] w w' → Calls Try.prog 60 [vi k, pvl x p, .slice A l.length c].toArray w' (Ret [] (fun t : TX => .tuple #[.pointer (some ⟨t.tb, 0, none⟩), vi 0]) (ThR R yf k g) (fun _ => True) w')) (hrd : ∀ t, RdB w [] (R t) (yf t) g) :
    Calls Try.prog 21 [vi k, pvl x p, .slice A l.length c].toArray w (Ret [] (fun y : RX => .tuple #[.slice y.A y.xs.length y.c, vi (numS y.xs), vi 0]) (fun y => [osl TI vi y.A y.c y.xs]) (fun y => y.xs = greedyS k (hasB g) n l) w) := by
  have HG := hm.toHead
  have hn2 := HG.r1
  have hn0 := HG.r0
  have oL := hl.old
  have hll := ho.len
  have hon : On n (hasB g) := by rw [← hn]; exact hasB_on hm hsq
  unfold pvl patV at *
  refine calls_wc [] [] [.tmp 6, .tmp 7, .tmp 8] (fun y : RX => [.slice y.A y.xs.length y.c, vi (numS y.xs), vi 0]) Try.func21 rfl rfl (fun _ => rfl) Try.ntmps21 rfl (Own.nil w) rfl ?_
  refine gg ?_
  refine wl_op (ok_box rfl rfl rfl rfl rfl ?_); intro bp
  refine gg ?_
  refine gc3 [] (fun w hst hst1 => hord w hst1.only) (by exact rfl) ?_
  (repeat (first | refine gk1 ?_ | refine gk2 ?_ | refine gk3 ?_ | refine gk0 ?_ | refine gk4 ?_))
  rintro ⟨tb, NA, nc, y⟩ _
  dsimp only [List.cons_append, List.nil_append]
  generalize hRy : R ⟨tb, NA, nc, y⟩ = RR
  have hrd' := hrd ⟨tb, NA, nc, y⟩
  rw [hRy] at hrd'
  generalize yf ⟨tb, NA, nc, y⟩ = yy at hrd'
  have hnl := nearTo_len yy g (k := g.rows) hn0
  refine gg ?_
  refine wc_meetK (fun _ : GyX => True) (fun z => [(0, vi k), (2, .slice A l.length c), (11, .pointer (some ⟨z.gb, 0, none⟩))]) (fun z => GrI z n k yy g RR (List.replicate n 0) (List.replicate (n + 1) 0) 0) ?_ ?_
  · refine gwa [] ?_
    (repeat (first | refine gk1 ?_ | refine gk2 ?_ | refine gk3 ?_ | refine gk0 ?_ | refine gk4 ?_))
    dsimp only [List.cons_append, List.nil_append]
    (first | refine ga1 0 (by exact rfl) (by exact rfl) ?_ | refine ga2 0 (by exact rfl) (by exact rfl) ?_ | refine ga3 0 (by exact rfl) (by exact rfl) ?_ | refine ga4 0 (by exact rfl) (by exact rfl) ?_)
    (first | refine ga1 1 (by exact rfl) (by exact rfl) ?_ | refine ga2 1 (by exact rfl) (by exact rfl) ?_ | refine ga3 1 (by exact rfl) (by exact rfl) ?_ | refine ga4 1 (by exact rfl) (by exact rfl) ?_)
    (first | refine ga1 2 (by exact rfl) (by exact rfl) ?_ | refine ga2 2 (by exact rfl) (by exact rfl) ?_ | refine ga3 2 (by exact rfl) (by exact rfl) ?_ | refine ga4 2 (by exact rfl) (by exact rfl) ?_)
    (first | refine ga1 3 (by exact rfl) (by exact rfl) ?_ | refine ga2 3 (by exact rfl) (by exact rfl) ?_ | refine ga3 3 (by exact rfl) (by exact rfl) ?_ | refine ga4 3 (by exact rfl) (by exact rfl) ?_)
    (first | refine ga1 4 (by exact rfl) (by exact rfl) ?_ | refine ga2 4 (by exact rfl) (by exact rfl) ?_ | refine ga3 4 (by exact rfl) (by exact rfl) ?_ | refine ga4 4 (by exact rfl) (by exact rfl) ?_)
    (first | refine ga1 6 (by exact rfl) (by exact rfl) ?_ | refine ga2 6 (by exact rfl) (by exact rfl) ?_ | refine ga3 6 (by exact rfl) (by exact rfl) ?_ | refine ga4 6 (by exact rfl) (by exact rfl) ?_)
    (first | refine ga1 7 (by exact rfl) (by exact rfl) ?_ | refine ga2 7 (by exact rfl) (by exact rfl) ?_ | refine ga3 7 (by exact rfl) (by exact rfl) ?_ | refine ga4 7 (by exact rfl) (by exact rfl) ?_)
    (first | refine ga1 8 (by exact rfl) (by exact rfl) ?_ | refine ga2 8 (by exact rfl) (by exact rfl) ?_ | refine ga3 8 (by exact rfl) (by exact rfl) ?_ | refine ga4 8 (by exact rfl) (by exact rfl) ?_)
    (first | refine ga1 9 (by exact rfl) (by exact rfl) ?_ | refine ga2 9 (by exact rfl) (by exact rfl) ?_ | refine ga3 9 (by exact rfl) (by exact rfl) ?_ | refine ga4 9 (by exact rfl) (by exact rfl) ?_)
    (first | refine ga1 10 (by exact rfl) (by exact rfl) ?_ | refine ga2 10 (by exact rfl) (by exact rfl) ?_ | refine ga3 10 (by exact rfl) (by exact rfl) ?_ | refine ga4 10 (by exact rfl) (by exact rfl) ?_)
    refine gaAll [5, 11] ?_
    intro j hj
    simp only [List.mem_cons, List.not_mem_nil, or_false] at hj
    rcases hj with rfl | rfl
    · refine ⟨_, rfl, ?_⟩
      refine gmk0 vi 0 rfl rfl rfl rfl rfl rfl rfl rfl rfl rfl rfl (by omega) (Int.le_refl _) (by omega) (by omega) ?_
      intro cb
      rw [show g.rows.toNat = n by omega]
      refine ⟨by (repeat (first | exact Suf.refl | exact Suf.nil | exact Suf.app _ _ | apply Suf.cons)), ?_⟩
      refine gaOne 11 rfl ?_
      refine gmk0 vi 0 rfl rfl rfl rfl rfl rfl rfl rfl rfl rfl rfl (by omega) (Int.le_refl _) (by omega) (by omega) ?_
      intro mb
      rw [show (g.rows + 1).toNat = n + 1 by omega]
      refine ⟨by (repeat (first | exact Suf.refl | exact Suf.nil | exact Suf.app _ _ | apply Suf.cons)), ?_⟩
      refine wa_v 12 [_, _] rfl (by kernel_rfl) rfl rfl rfl rfl (val_build (ps := [(0, .pointer (some ⟨tb, 0, none⟩)), (1, .slice (some ⟨cb, 0, none⟩) n n), (2, .slice (some ⟨mb, 0, none⟩) (n + 1) (n + 1))]) (cells := [.pointer (some ⟨tb, 0, none⟩), .slice (some ⟨cb, 0, none⟩) n n, .slice (some ⟨mb, 0, none⟩) (n + 1) (n + 1), vi 0]) rfl rfl (by kernel_rfl)) ?_
      refine gaOne 13 rfl ?_
      refine ok_box rfl rfl rfl rfl rfl ?_
      intro gb
      refine ⟨by (repeat (first | exact Suf.refl | exact Suf.nil | exact Suf.app _ _ | apply Suf.cons)), ?_⟩
      (first | refine ga1 14 (by exact rfl) (by exact rfl) ?_ | refine ga2 14 (by exact rfl) (by exact rfl) ?_ | refine ga3 14 (by exact rfl) (by exact rfl) ?_ | refine ga4 14 (by exact rfl) (by exact rfl) ?_)
      refine gaDone ?_
      exact ⟨(⟨gb, cb, mb, tb, NA, nc⟩ : GyX), trivial, .cons rfl (.cons rfl (.cons rfl .nil)), by refine SubK.e ?_; (repeat (first | refine gk1 ?_ | refine gk2 ?_ | refine gk3 ?_ | refine gk0 ?_ | refine gk4 ?_)); trivial⟩
    · refine ⟨_, rfl, ?_⟩
      refine gmk0 vi 0 rfl rfl rfl rfl rfl rfl rfl rfl rfl rfl rfl (by omega) (Int.le_refl _) (by omega) (by omega) ?_
      intro mb
      rw [show (g.rows + 1).toNat = n + 1 by omega]
      refine ⟨by (repeat (first | exact Suf.refl | exact Suf.nil | exact Suf.app _ _ | apply Suf.cons)), ?_⟩
      refine gaOne 5 rfl ?_
      refine gmk0 vi 0 rfl rfl rfl rfl rfl rfl rfl rfl rfl rfl rfl (by omega) (Int.le_refl _) (by omega) (by omega) ?_
      intro cb
      rw [show g.rows.toNat = n by omega]
      refine ⟨by (repeat (first | exact Suf.refl | exact Suf.nil | exact Suf.app _ _ | apply Suf.cons)), ?_⟩
      refine wa_v 12 [_, _] rfl (by kernel_rfl) rfl rfl rfl rfl (val_build (ps := [(0, .pointer (some ⟨tb, 0, none⟩)), (1, .slice (some ⟨cb, 0, none⟩) n n), (2, .slice (some ⟨mb, 0, none⟩) (n + 1) (n + 1))]) (cells := [.pointer (some ⟨tb, 0, none⟩), .slice (some ⟨cb, 0, none⟩) n n, .slice (some ⟨mb, 0, none⟩) (n + 1) (n + 1), vi 0]) rfl rfl (by kernel_rfl)) ?_
      refine gaOne 13 rfl ?_
      refine ok_box rfl rfl rfl rfl rfl ?_
      intro gb
      refine ⟨by (repeat (first | exact Suf.refl | exact Suf.nil | exact Suf.app _ _ | apply Suf.cons)), ?_⟩
      (first | refine ga1 14 (by exact rfl) (by exact rfl) ?_ | refine ga2 14 (by exact rfl) (by exact rfl) ?_ | refine ga3 14 (by exact rfl) (by exact rfl) ?_ | refine ga4 14 (by exact rfl) (by exact rfl) ?_)
      refine gaDone ?_
      exact ⟨(⟨gb, cb, mb, tb, NA, nc⟩ : GyX), trivial, .cons rfl (.cons rfl (.cons rfl .nil)), by refine SubK.e ?_; (repeat (first | refine gk1 ?_ | refine gk2 ?_ | refine gk3 ?_ | refine gk0 ?_ | refine gk4 ?_)); trivial⟩
  rintro z _
  dsimp only [GrI]
  refine gg ?_
  refine glp (fun s : GrX => 0 ≤ s.k ∧ s.k ≤ n ∧ s.cs.length = n ∧ ∀ i, 0 ≤ i → i < s.k → gt s.cs i = -1) (fun s => [(0, vi k), (2, .slice A l.length c), (11, .pointer (some ⟨z.gb, 0, none⟩)), (44, vi n), (45, vi s.k)])
    (fun s => GrI z n k yy g RR s.cs (List.replicate (n + 1) 0) 0) (fun s => (n - s.k).toNat) ⟨0, List.replicate n 0, []⟩ ⟨by simp, by simp, by simp, fun i i0 i1 => by dsimp only at i1; omega⟩ ?_
  rintro ⟨j, cs, _⟩ ⟨hj0, hj1, hcl, hneg⟩
  dsimp only at hj0 hj1 hcl hneg ⊢
  by_cases hj : j < n
  · dsimp only [GrI]
    refine gg ?_
    exact gnx (⟨j + 1, cs.set j.toNat (-1), []⟩ : GrX) ⟨by dsimp only; omega, by dsimp only; omega, by dsimp only; rw [List.length_set]; exact hcl, fun i i0 i1 => by
      dsimp only at i1 ⊢
      rw [gt_setI hj0 (by omega) i0]
      by_cases e : i = j
      · rw [if_pos e]
      · rw [if_neg e]; exact hneg i i0 (by omega)⟩ (by dsimp only; omega)
  obtain rfl : j = n := by omega
  obtain rfl : cs = List.replicate n (-1) := ext_gt (by simpa using hcl) fun i i0 i1 => by
    rw [hneg i i0 (by omega), gt_elem i0 (by simp; omega)]; simp
  clear hneg hj0 hj1 hcl hj
  dsimp only [GrI]
  refine gg ?_
  refine glp (fun s : GrX => 0 ≤ s.k ∧ s.k ≤ n ∧ s.cs = greedyS k (hasB g) n (l.take s.k.toNat) ∧ GI (hasB g) n (l.take s.k.toNat) s.cs ∧ s.M.length = n + 1 ∧ ∀ i : Int, 0 ≤ i → i ≤ n → gt s.M i ≤ s.k) (fun s => [(0, vi k), (11, .pointer (some ⟨z.gb, 0, none⟩)), (55, .slice A l.length c), (56, vi l.length), (57, vi s.k)])
    (fun s => GrI z n k yy g RR s.cs s.M s.k) (fun s => (n - s.k).toNat) ⟨0, List.replicate n (-1), List.replicate (n + 1) 0⟩ ⟨by simp, by simp, rfl, GI.zero hon, by simp, fun i i0 i1 => by dsimp only; rw [gt_elem i0 (by simp; omega)]; simp⟩ ?_
  rintro ⟨j, cs, M⟩ ⟨hj0, hj1, hcs, hGI, hMl, hMb⟩
  dsimp only at hj0 hj1 hcs hGI hMl hMb ⊢
  have hcl := hGI.len
  have hCs : CsOK n cs := ⟨hcl, fun u u0 u1 => by
    by_cases hu : u ∈ l.take j.toNat
    · have := hGI.on u u0 u1 hu; omega
    · have := hGI.off u u0 u1 hu; omega⟩
  by_cases hj : j < n
  · have hv := ho.rng j hj0 hj
    have htk : (l.take j.toNat).length = j.toNat := by rw [List.length_take]; omega
    have hnin : gt l j ∉ l.take j.toNat := fun hmem => by
      obtain ⟨i, i0, i1, e⟩ := mem_gt hmem
      rw [htk] at i1
      have e2 : gt (l.take j.toNat) i = gt l i := by
        rw [gt_elem i0 (by rw [htk]; exact i1), gt_elem i0 (by omega)]
        simp
      rw [e2] at e
      have := ho.inj i j i0 (by omega) hj0 hj e
      omega
    have hnext : l.take (j + 1).toNat = l.take j.toNat ++ [gt l j] := by
      rw [show (j + 1).toNat = j.toNat + 1 by omega, List.take_add_one, List.getElem?_eq_getElem (by omega), gt_elem hj0 (by omega)]
      rfl
    obtain ⟨c0, c00, c01, hfr⟩ := hGI.fresh hon
    rw [htk] at c01
    have hfr := hfr k (gt l j)
    dsimp only [GrI]
    refine gg ?_
    generalize hvv : gt l j = v at hv hnin hnext hfr
    refine gc3 (GrI z n k yy g RR cs M (j + 1)) (fun w hst hst1 => forbid_c w hm hn hsq hCs hMl hv.1 hv.2 ((hrd'.later hst1)) hst1.own) (by exact rfl) ?_
    dsimp only [GrI]
    (repeat (first | refine gk1 ?_ | refine gk2 ?_ | refine gk3 ?_ | refine gk0 ?_ | refine gk4 ?_))
    rintro M' hMk
    dsimp only [GrI, List.cons_append, List.nil_append]
    have hM'l := hMk.len
    have hmark : ∀ d : Int, 0 ≤ d → d ≤ n → (gt M' d = j + 1 ↔ badB k (hasB g) n cs v d = true) := fun d d0 d1 => by
      rw [badB_not5 hk]
      constructor
      · intro h
        apply Classical.byContradiction
        intro hb
        have := hMk.off d d0 d1 hb
        have := hMb d d0 d1
        omega
      · intro h
        exact hMk.on d d0 d1 h
    have hM'b : ∀ i : Int, 0 ≤ i → i ≤ n → gt M' i ≤ j + 1 := fun i i0 i1 => by
      by_cases hb : (badN (hasB g) n cs v i || (decide (k = 4) && badS (hasB g) n cs v i)) = true
      · rw [hMk.on i i0 i1 hb]; omega
      · rw [hMk.off i i0 i1 hb]; have := hMb i i0 i1; omega
    refine gg ?_
    refine glp (fun d : Int => 0 ≤ d ∧ d ≤ c0 ∧ ∀ e : Int, 0 ≤ e → e < d → badB k (hasB g) n cs v e = true) (fun d => [(0, vi k), (11, .pointer (some ⟨z.gb, 0, none⟩)), (14, vi v), (15, vi d), (55, .slice A l.length c), (56, vi l.length), (57, vi j)])
      (fun d => GrI z n k yy g RR cs M' (j + 1)) (fun d => (c0 - d).toNat) 0 ⟨by omega, by omega, fun e e0 e1 => by omega⟩ ?_
    rintro d ⟨hd0, hd1, hdb⟩
    dsimp only [GrI]
    have hmd := hmark d hd0 (by omega)
    cases hbd : badB k (hasB g) n cs v d with
    | true =>
      have hne : d ≠ c0 := fun e => by rw [e, hfr] at hbd; cases hbd
      have hmd' := hmd.2 hbd
      refine gg ?_
      refine wc_quiet mixed (by kernel_rfl) ?_
      refine gg ?_
      exact gnx (d + 1) ⟨by omega, by omega, fun e e0 e1 => by
        by_cases h : e = d
        · rw [h]; exact hbd
        · exact hdb e e0 (by omega)⟩ (by omega)
    | false =>
      have hmd' : gt M' d ≠ j + 1 := fun h => by rw [hmd.1 h] at hbd; cases hbd
      have hlc : leastC (badB k (hasB g) n cs v) (n + 1) 0 = d := leastC_eq c00 (by omega) hfr hd0 hbd hdb
      have hbN : badN (hasB g) n cs v d = false := by
        rw [badB_not5 hk] at hbd
        exact (Bool.or_eq_false_iff.1 hbd).1
      have hGI2 := hGI.next hon hev hirr hv.1 hv.2 hnin (by rw [htk]; omega) hd0 (by omega) hbN
      have hcs2 : cs.set v.toNat d = greedyS k (hasB g) n (l.take (j + 1).toNat) := by
        rw [hnext]
        unfold greedyS
        rw [greedyL_snoc]
        unfold greedyS at hcs
        rw [← hcs, hlc]
      refine gg ?_
      refine wc_quiet mixed (by kernel_rfl) ?_
      refine gg ?_
      exact gnx (⟨j + 1, cs.set v.toNat d, M'⟩ : GrX) ⟨by dsimp only; omega, by dsimp only; omega, hcs2, by dsimp only; rw [hnext]; exact hGI2, hM'l, hM'b⟩ (by dsimp only; omega)
  obtain rfl : j = n := by omega
  rw [Int.toNat_natCast, List.take_of_length_le (by omega)] at hcs hGI
  have hmr : ∀ e ∈ cs, -1 ≤ e ∧ e < 100000 := fun e he => by
    obtain ⟨i, i0, i1, h⟩ := mem_gt he
    have := hCs.rng i i0 (by omega)
    omega
  have hnum : ∀ w, Rds vi w (some ⟨z.cb, 0, none⟩) n cs → Calls Try.prog 63 [.slice (some ⟨z.cb, 0, none⟩) n n].toArray w (one (vi (numS cs)) w) := fun w h => by
    have := number_c w h hmr (by omega)
    rwa [hcl] at this
  dsimp only [GrI]
  refine gg ?_
  refine wc_quiet mixed (by kernel_rfl) ?_
  refine gg ?_
  refine gc2 (fun w hst => hnum w (grd hst)) (by exact rfl) ?_
  refine gg ?_
  exact grt (⟨some ⟨z.cb, 0, none⟩, n, cs⟩ : RX) hcs (h1 := ⟨.t (look_to rfl (by rw [hcl])), .t rfl, .t rfl, trivial⟩)
end
end Go.Proofs.Ytoiiellaoikojaa
