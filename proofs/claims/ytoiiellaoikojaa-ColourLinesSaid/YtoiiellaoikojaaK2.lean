/- Walks: colours: what is coloured. -/
import Derived.Test.YtoiiellaoikojaaK1
set_option linter.unusedVariables false
set_option linter.unusedSimpArgs false
set_option maxHeartbeats 8000000
namespace Go.Proofs.Ytoiiellaoikojaa
open Go.RowKit
abbrev TTh : TypeId := 105
section
variable {P : Program} {n : Nat} {w0 : World} {D : List Nat} {Γ : Tm} {σ : List Res} {ops : Array Oper} {os : List Oper} {Q : QQ} {o : Oper}
theorem val_slice3 {α : Type} {f : α → Value} {A : Option Addr} {c : Nat} {xs : List α} {t e : TypeId} {x l h m : Operand} {lo hi : Int} (hop : o.op = .slice t x (some l) (some h) (some m)) (hx : ev Γ x = some (.slice A xs.length c)) (hl : ev Γ l = some (.int .i64 lo)) (hh : ev Γ h = some (.int .i64 hi)) (hm : ev Γ m = some (.int .i64 hi))
    (hr : ∀ w, St w0 D σ w → Rds f w A c xs) (ht : elem? P t = some e) (hs : size? P e = some 1) (h0 : 0 ≤ lo) (h1 : lo ≤ hi) (h2 : hi ≤ xs.length) :
    ValOK P w0 D σ Γ o (sv (rowA A lo hi, hi.toNat - lo.toNat, hi.toNat - lo.toNat)) := by
  refine ⟨fun w hst g hg => ?_⟩
  have := run_sub3 (P := P) (hr w hst) ht hs h0 h1 h2
  unfold sv rowA
  simp [execOp, hop, hg _ _ hx, hg _ _ hl, hg _ _ hh, hg _ _ hm, this]
theorem wc_bun {c : Code} (l : List Res) (h : SubK l σ (fun σ' => WC P n w0 D c Q Γ (bun l :: σ'))) : WC P n w0 D c Q Γ σ := by
  obtain ⟨rest, hp, h⟩ := h
  exact .mk fun a w hs hst => h.run a w hs (bun_in (hst.perm hp))
end
def rowV (y : PA) (g : Pat) (v : Int) : SV := (rowA y.B (gt g.start v) (gt g.start (v + 1)), (gt g.start (v + 1)).toNat - (gt g.start v).toNat, (gt g.start (v + 1)).toNat - (gt g.start v).toNat)
def nearTo (y : PA) (g : Pat) (k : Int) : List SV := (List.range k.toNat).map fun v : Nat => rowV y g v
theorem nearTo_len (y : PA) (g : Pat) {k : Int} (h : 0 ≤ k) : ((nearTo y g k).length : Int) = k := by simp [nearTo]; omega
theorem nearTo_next (y : PA) (g : Pat) {k : Int} (h : 0 ≤ k) : nearTo y g (k + 1) = nearTo y g k ++ [rowV y g k] := by
  unfold nearTo
  rw [show (k + 1).toNat = k.toNat + 1 by omega, List.range_succ, List.map_append]
  simp only [List.map_cons, List.map_nil]
  rw [show ((k.toNat : Nat) : Int) = k by omega]
theorem nearTo_at (y : PA) (g : Pat) {k v : Int} (h0 : 0 ≤ v) (h1 : v < k) : gt (nearTo y g k) v = rowV y g v := by
  unfold nearTo
  rw [gt_elem h0 (by simp; omega)]
  simp only [List.getElem_map, List.getElem_range]
  rw [show ((v.toNat : Nat) : Int) = v by omega]
abbrev thC (n : Int) (NA : Option Addr) (l nc : Nat) (k : Int) : List Value := [vi n, .slice NA l nc, vi k]
structure TX where
  tb : Nat
  A : Option Addr
  c : Nat
  y : PA
structure TkX where
  k : Int
  A : Option Addr
  c : Nat
open Classical in
noncomputable def gr (k : Int) (p : Pat) : Pat := if k = 2 then (colsS p).1 else if k = 3 then (rowsS p).1 else p
section
variable {p : Pat} {x : PA} {k : Int}
theorem ofGraph_c (b : Bool) (hb : b = true ↔ k ≠ 2 ∧ k ≠ 3) (w : World) : Calls Try.prog 101 [vi k].toArray w (one (.bool b) w) := by
  refine calls_wc [] [] [.tmp 2] (fun _ => [.bool b]) Try.func101 rfl rfl (fun _ => rfl) Try.ntmps101 rfl (Own.nil w) rfl ?_
  refine gg ?_
  by_cases h2 : k = 2
  · obtain rfl : b = false := by
      cases b with
      | false => rfl
      | true => exact ((hb.1 rfl).1 h2).elim
    refine gg ?_
    exact grt () trivial
  · by_cases h3 : k = 3
    · obtain rfl : b = false := by
        cases b with
        | false => rfl
        | true => exact ((hb.1 rfl).2 h3).elim
      refine gg ?_
      exact grt () trivial
    · obtain rfl : b = true := hb.2 ⟨h2, h3⟩
      refine gg ?_
      exact grt () trivial
theorem isKind_c (b : Bool) (hb : b = true ↔ 1 ≤ k ∧ k ≤ 5) (w : World) : Calls Try.prog 100 [vi k].toArray w (one (.bool b) w) := by
  refine calls_wc [] [] [.tmp 2] (fun _ => [.bool b]) Try.func100 rfl rfl (fun _ => rfl) Try.ntmps100 rfl (Own.nil w) rfl ?_
  refine gg ?_
  by_cases h2 : 1 ≤ k
  · by_cases h3 : k ≤ 5
    · obtain rfl : b = true := hb.2 ⟨h2, h3⟩
      refine gg ?_
      exact grt () trivial
    · obtain rfl : b = false := by
        cases b with
        | false => rfl
        | true => exact (h3 (hb.1 rfl).2).elim
      refine gg ?_
      exact grt () trivial
  · obtain rfl : b = false := by
      cases b with
      | false => rfl
      | true => exact (h2 (hb.1 rfl).1).elim
    refine gg ?_
    exact grt () trivial
/-- what is coloured of a pattern: a graph of its own, or that of its lines -/
theorem takenG_c (w : World) (hp : RdP w x p) (hm : May p) (hg : IsGr p) (hk : k = 1 ∨ k = 4 ∨ k = 5) :
    Calls Try.prog 67 [vi k, pvl x p].toArray w (Ret [] (fun t : TX => .tuple #[.pointer (some ⟨t.tb, 0, none⟩), vi 0]) (fun t => [blk t.tb (thC p.rows t.A (nearTo x p p.rows).length t.c k) TTh, osl TIs sv t.A t.c (nearTo x p p.rows)]) (fun t => True) w) := by
  have op := hp.old
  have os := op.s
  have oc := op.c
  have HG := hm.toHead
  obtain ⟨g1, g2, h3, h4, h5, h6, h7, h8⟩ := hm.toHead
  have hsm := hm.small
  have k1 : 1 ≤ k ∧ k ≤ 5 := by omega
  have k2 : k ≠ 2 := by omega
  have k3 : k ≠ 3 := by omega
  unfold pvl patV
  refine calls_wc [] [] [.tmp 4, .tmp 5] (fun t : TX => [.pointer (some ⟨t.tb, 0, none⟩), vi 0]) Try.func67 rfl rfl (fun _ => rfl) Try.ntmps67 rfl (Own.nil w) rfl ?_
  refine gg ?_
  refine wl_op (ok_box rfl rfl rfl rfl rfl ?_); intro bp
  refine gg ?_
  refine gc1 (fun w hst => may_t (op.s.now hst) (op.c.now hst) hm) (by exact rfl) ?_
  refine gg ?_
  refine gc1 (fun w hst => isKind_c (k := k) true (by simp [k1]) w) (by exact rfl) ?_
  refine gg ?_
  refine gc1 (fun w hst => ofGraph_c (k := k) true (by simp [k2, k3]) w) (by exact rfl) ?_
  refine gg ?_
  refine gc1 (fun w hst => isGraph_c (p := p) (x := x) w (op.now hst) true (by simp [hg])) (by exact rfl) ?_
  refine gg ?_
  refine wl_op (ok_alloc rfl rfl rfl rfl (ze_of rfl) ?_); intro q6
  refine gg ?_
  refine wl_none TIs sv ?_
  refine wl_v rfl rfl rfl (val_build (ps := [(0, vi p.rows), (2, vi k)]) (cells := thC p.rows none 0 0 k) rfl rfl (by kernel_rfl)) ?_
  refine wl_op (ok_box rfl rfl rfl rfl rfl ?_); intro tb
  refine gg ?_
  refine glp (fun s : TkX => 0 ≤ s.k ∧ s.k ≤ p.rows) (fun s => [(6, .pointer (some ⟨q6, 0, none⟩)), (7, .pointer (some ⟨tb, 0, none⟩)), (47, vi p.rows), (48, vi s.k)])
    (fun s => [blk tb (thC p.rows s.A (nearTo x p s.k).length s.c k) TTh, osl TIs sv s.A s.c (nearTo x p s.k), blk q6 (pcs x p) TP]) (fun s => (p.rows - s.k).toNat) ⟨0, none, 0⟩ ⟨by simp, g1⟩ ?_
  rintro ⟨v, NA, nc⟩ ⟨hv0, hv1⟩
  dsimp only at hv0 hv1 ⊢
  have hnl := nearTo_len x p hv0
  by_cases hv : v < p.rows
  · have e1 := HG.lo hv0 (by omega)
    have e2 := HG.hi (r := v + 1) (by omega) (by omega)
    have e3 := HG.step hv0 hv
    refine gg ?_
    refine gwa [blk tb (thC p.rows NA (nearTo x p v).length nc k) TTh, osl TIs sv NA nc (nearTo x p v)] ?_
    (repeat (first | refine gk1 ?_ | refine gk2 ?_ | refine gk3 ?_ | refine gk0 ?_ | refine gk4 ?_))
    dsimp only [List.cons_append, List.nil_append]
    (first | refine ga1 0 (by exact rfl) (by exact rfl) ?_ | refine ga2 0 (by exact rfl) (by exact rfl) ?_ | refine ga3 0 (by exact rfl) (by exact rfl) ?_ | refine ga4 0 (by exact rfl) (by exact rfl) ?_)
    (first | refine ga1 1 (by exact rfl) (by exact rfl) ?_ | refine ga2 1 (by exact rfl) (by exact rfl) ?_ | refine ga3 1 (by exact rfl) (by exact rfl) ?_ | refine ga4 1 (by exact rfl) (by exact rfl) ?_)
    (first | refine ga1 2 (by exact rfl) (by exact rfl) ?_ | refine ga2 2 (by exact rfl) (by exact rfl) ?_ | refine ga3 2 (by exact rfl) (by exact rfl) ?_ | refine ga4 2 (by exact rfl) (by exact rfl) ?_)
    (first | refine ga1 3 (by exact rfl) (by exact rfl) ?_ | refine ga2 3 (by exact rfl) (by exact rfl) ?_ | refine ga3 3 (by exact rfl) (by exact rfl) ?_ | refine ga4 3 (by exact rfl) (by exact rfl) ?_)
    (first | refine ga1 5 (by exact rfl) (by exact rfl) ?_ | refine ga2 5 (by exact rfl) (by exact rfl) ?_ | refine ga3 5 (by exact rfl) (by exact rfl) ?_ | refine ga4 5 (by exact rfl) (by exact rfl) ?_)
    (first | refine ga1 6 (by exact rfl) (by exact rfl) ?_ | refine ga2 6 (by exact rfl) (by exact rfl) ?_ | refine ga3 6 (by exact rfl) (by exact rfl) ?_ | refine ga4 6 (by exact rfl) (by exact rfl) ?_)
    (first | refine ga1 7 (by exact rfl) (by exact rfl) ?_ | refine ga2 7 (by exact rfl) (by exact rfl) ?_ | refine ga3 7 (by exact rfl) (by exact rfl) ?_ | refine ga4 7 (by exact rfl) (by exact rfl) ?_)
    (first | refine ga1 8 (by exact rfl) (by exact rfl) ?_ | refine ga2 8 (by exact rfl) (by exact rfl) ?_ | refine ga3 8 (by exact rfl) (by exact rfl) ?_ | refine ga4 8 (by exact rfl) (by exact rfl) ?_)
    (first | refine ga1 9 (by exact rfl) (by exact rfl) ?_ | refine ga2 9 (by exact rfl) (by exact rfl) ?_ | refine ga3 9 (by exact rfl) (by exact rfl) ?_ | refine ga4 9 (by exact rfl) (by exact rfl) ?_)
    (first | refine ga1 10 (by exact rfl) (by exact rfl) ?_ | refine ga2 10 (by exact rfl) (by exact rfl) ?_ | refine ga3 10 (by exact rfl) (by exact rfl) ?_ | refine ga4 10 (by exact rfl) (by exact rfl) ?_)
    (first | refine ga1 11 (by exact rfl) (by exact rfl) ?_ | refine ga2 11 (by exact rfl) (by exact rfl) ?_ | refine ga3 11 (by exact rfl) (by exact rfl) ?_ | refine ga4 11 (by exact rfl) (by exact rfl) ?_)
    (first | refine ga1 12 (by exact rfl) (by exact rfl) ?_ | refine ga2 12 (by exact rfl) (by exact rfl) ?_ | refine ga3 12 (by exact rfl) (by exact rfl) ?_ | refine ga4 12 (by exact rfl) (by exact rfl) ?_)
    (first | refine ga1 13 (by exact rfl) (by exact rfl) ?_ | refine ga2 13 (by exact rfl) (by exact rfl) ?_ | refine ga3 13 (by exact rfl) (by exact rfl) ?_ | refine ga4 13 (by exact rfl) (by exact rfl) ?_)
    (first | refine ga1 14 (by exact rfl) (by exact rfl) ?_ | refine ga2 14 (by exact rfl) (by exact rfl) ?_ | refine ga3 14 (by exact rfl) (by exact rfl) ?_ | refine ga4 14 (by exact rfl) (by exact rfl) ?_)
    (first | refine ga1 15 (by exact rfl) (by exact rfl) ?_ | refine ga2 15 (by exact rfl) (by exact rfl) ?_ | refine ga3 15 (by exact rfl) (by exact rfl) ?_ | refine ga4 15 (by exact rfl) (by exact rfl) ?_)
    (first | refine ga1 16 (by exact rfl) (by exact rfl) ?_ | refine ga2 16 (by exact rfl) (by exact rfl) ?_ | refine ga3 16 (by exact rfl) (by exact rfl) ?_ | refine ga4 16 (by exact rfl) (by exact rfl) ?_)
    (first | refine ga1 17 (by exact rfl) (by exact rfl) ?_ | refine ga2 17 (by exact rfl) (by exact rfl) ?_ | refine ga3 17 (by exact rfl) (by exact rfl) ?_ | refine ga4 17 (by exact rfl) (by exact rfl) ?_)
    (first | refine ga1 18 (by exact rfl) (by exact rfl) ?_ | refine ga2 18 (by exact rfl) (by exact rfl) ?_ | refine ga3 18 (by exact rfl) (by exact rfl) ?_ | refine ga4 18 (by exact rfl) (by exact rfl) ?_)
    (first | refine ga1 19 (by exact rfl) (by exact rfl) ?_ | refine ga2 19 (by exact rfl) (by exact rfl) ?_ | refine ga3 19 (by exact rfl) (by exact rfl) ?_ | refine ga4 19 (by exact rfl) (by exact rfl) ?_)
    (first | refine ga1 20 (by exact rfl) (by exact rfl) ?_ | refine ga2 20 (by exact rfl) (by exact rfl) ?_ | refine ga3 20 (by exact rfl) (by exact rfl) ?_ | refine ga4 20 (by exact rfl) (by exact rfl) ?_)
    (first | refine ga1 21 (by exact rfl) (by exact rfl) ?_ | refine ga2 21 (by exact rfl) (by exact rfl) ?_ | refine ga3 21 (by exact rfl) (by exact rfl) ?_ | refine ga4 21 (by exact rfl) (by exact rfl) ?_)
    (first | refine ga1 22 (by exact rfl) (by exact rfl) ?_ | refine ga2 22 (by exact rfl) (by exact rfl) ?_ | refine ga3 22 (by exact rfl) (by exact rfl) ?_ | refine ga4 22 (by exact rfl) (by exact rfl) ?_)
    (first | refine ga1 23 (by exact rfl) (by exact rfl) ?_ | refine ga2 23 (by exact rfl) (by exact rfl) ?_ | refine ga3 23 (by exact rfl) (by exact rfl) ?_ | refine ga4 23 (by exact rfl) (by exact rfl) ?_)
    refine wa_v 24 [_, _] rfl (by kernel_rfl) rfl rfl rfl rfl (val_slice3 rfl rfl rfl rfl rfl (fun w hst => op.c.now hst) (el_of rfl) (sz_of rfl) e1 e3 e2) ?_
    refine gaAll [4, 25] ?_
    intro j hj
    simp only [List.mem_cons, List.not_mem_nil, or_false] at hj
    rcases hj with rfl | rfl
    · refine ⟨_, rfl, ?_⟩
      refine gl0 (by exact rfl) ?_
      refine ⟨by (repeat (first | exact Suf.refl | exact Suf.nil | exact Suf.app _ _ | apply Suf.cons)), ?_⟩
      refine gaOne 25 rfl ?_
      refine ok_build1 sv (rowV x p v) rfl rfl rfl rfl rfl (el_of rfl) (ze_of rfl) rfl (sz_of rfl) rfl ?_
      intro b2
      refine ⟨by (repeat (first | exact Suf.refl | exact Suf.nil | exact Suf.app _ _ | apply Suf.cons)), ?_⟩
      refine gaOne 26 rfl ?_
      refine ok_append 2 sv (ys := [rowV x p v]) rfl rfl rfl rfl rfl rfl rfl (el_of rfl) (ze_of rfl) rfl (sz_of rfl) (by_of rfl) ⟨_, rfl⟩ (fun w hst => osl_reads (hst.at_ 0 rfl)) (fun _ => rfl) (by simp; omega) (by simp; omega) ?_
      intro A' c'
      refine ⟨by (repeat (first | exact Suf.refl | exact Suf.nil | exact Suf.app _ _ | apply Suf.cons)), ?_⟩
      (first | refine ga1 27 (by exact rfl) (by exact rfl) ?_ | refine ga2 27 (by exact rfl) (by exact rfl) ?_ | refine ga3 27 (by exact rfl) (by exact rfl) ?_ | refine ga4 27 (by exact rfl) (by exact rfl) ?_)
      (first | refine ga1 28 (by exact rfl) (by exact rfl) ?_ | refine ga2 28 (by exact rfl) (by exact rfl) ?_ | refine ga3 28 (by exact rfl) (by exact rfl) ?_ | refine ga4 28 (by exact rfl) (by exact rfl) ?_)
      refine gaOne 29 rfl ?_
      refine gt0 (by exact rfl) ?_
      refine ⟨by (repeat (first | exact Suf.refl | exact Suf.nil | exact Suf.app _ _ | apply Suf.cons)), ?_⟩
      refine gaDone ?_
      rw [← nearTo_next x p hv0]
      refine gg ?_
      exact gnx (⟨v + 1, A', c'⟩ : TkX) ⟨by dsimp only; omega, by dsimp only; omega⟩ (by dsimp only; omega)
    · refine ⟨_, rfl, ?_⟩
      refine ok_build1 sv (rowV x p v) rfl rfl rfl rfl rfl (el_of rfl) (ze_of rfl) rfl (sz_of rfl) rfl ?_
      intro b2
      refine ⟨by (repeat (first | exact Suf.refl | exact Suf.nil | exact Suf.app _ _ | apply Suf.cons)), ?_⟩
      refine gaOne 4 rfl ?_
      refine gl0 (by exact rfl) ?_
      refine ⟨by (repeat (first | exact Suf.refl | exact Suf.nil | exact Suf.app _ _ | apply Suf.cons)), ?_⟩
      refine gaOne 26 rfl ?_
      refine ok_append 2 sv (ys := [rowV x p v]) rfl rfl rfl rfl rfl rfl rfl (el_of rfl) (ze_of rfl) rfl (sz_of rfl) (by_of rfl) ⟨_, rfl⟩ (fun w hst => osl_reads (hst.at_ 0 rfl)) (fun _ => rfl) (by simp; omega) (by simp; omega) ?_
      intro A' c'
      refine ⟨by (repeat (first | exact Suf.refl | exact Suf.nil | exact Suf.app _ _ | apply Suf.cons)), ?_⟩
      (first | refine ga1 27 (by exact rfl) (by exact rfl) ?_ | refine ga2 27 (by exact rfl) (by exact rfl) ?_ | refine ga3 27 (by exact rfl) (by exact rfl) ?_ | refine ga4 27 (by exact rfl) (by exact rfl) ?_)
      (first | refine ga1 28 (by exact rfl) (by exact rfl) ?_ | refine ga2 28 (by exact rfl) (by exact rfl) ?_ | refine ga3 28 (by exact rfl) (by exact rfl) ?_ | refine ga4 28 (by exact rfl) (by exact rfl) ?_)
      refine gaOne 29 rfl ?_
      refine gt0 (by exact rfl) ?_
      refine ⟨by (repeat (first | exact Suf.refl | exact Suf.nil | exact Suf.app _ _ | apply Suf.cons)), ?_⟩
      refine gaDone ?_
      rw [← nearTo_next x p hv0]
      refine gg ?_
      exact gnx (⟨v + 1, A', c'⟩ : TkX) ⟨by dsimp only; omega, by dsimp only; omega⟩ (by dsimp only; omega)
  · obtain rfl : v = p.rows := by omega
    refine gg ?_
    exact grt (⟨tb, NA, nc, x⟩ : TX) trivial
theorem takencols_c (w : World) (hp : RdP w x p) (hm : May p) (hk : k = 2) :
    Calls Try.prog 67 [vi k, pvl x p].toArray w (Ret [] (fun t : TX => .tuple #[.pointer (some ⟨t.tb, 0, none⟩), vi 0]) (fun t => [blk t.tb (thC (colsS p).1.rows t.A (nearTo t.y (colsS p).1 (colsS p).1.rows).length t.c k) TTh, osl TIs sv t.A t.c (nearTo t.y (colsS p).1 (colsS p).1.rows)] ++ PatR t.y (colsS p).1) (fun t => True) w) := by
  have op := hp.old
  obtain ⟨h1, h2, h3, h4, h5, h6, h7, h8⟩ := hm.toHead
  have k1 : 1 ≤ k ∧ k ≤ 5 := by omega
  have hcl : ∀ w, RdP w x p → _ := fun w h => columns_c (p := p) (x := x) w h
  have hmg : May (colsS p).1 := by
    rw [show colsS p = (shutP p.width.toNat p.width (meetC p), 0) from if_pos hm]
    exact shut_may (by omega) (by omega) (by omega) (meetC_within hm)
  generalize colsS p = z at hcl hmg ⊢
  obtain ⟨q, ze⟩ := z
  dsimp only at hcl hmg ⊢
  have HG := hmg.toHead
  obtain ⟨g1, g2, g3, g4, g5, g6, g7, g8⟩ := hmg.toHead
  have hsm := hmg.small
  unfold pvl patV at *
  refine calls_wc [] [] [.tmp 4, .tmp 5] (fun t : TX => [.pointer (some ⟨t.tb, 0, none⟩), vi 0]) Try.func67 rfl rfl (fun _ => rfl) Try.ntmps67 rfl (Own.nil w) rfl ?_
  refine gg ?_
  refine wl_op (ok_box rfl rfl rfl rfl rfl ?_); intro bp
  refine gg ?_
  refine gc1 (fun w hst => may_t (op.s.now hst) (op.c.now hst) hm) (by exact rfl) ?_
  refine gg ?_
  refine gc1 (fun w hst => isKind_c (k := k) true (by simp [k1]) w) (by exact rfl) ?_
  refine gg ?_
  refine gc1 (fun w hst => ofGraph_c (k := k) false (by simp [hk]) w) (by exact rfl) ?_
  refine gg ?_
  refine wl_op (ok_alloc rfl rfl rfl rfl (ze_of rfl) ?_); intro q6
  refine gg ?_
  refine gc3 [] (fun w hst hst1 => hcl w (op.now hst)) (by exact rfl) ?_
  (repeat (first | refine gk1 ?_ | refine gk2 ?_ | refine gk3 ?_ | refine gk0 ?_ | refine gk4 ?_))
  rintro y _
  dsimp only [List.cons_append, List.nil_append]
  refine gg ?_
  refine wl_none TIs sv ?_
  refine wl_v rfl rfl rfl (val_build (ps := [(0, vi q.rows), (2, vi k)]) (cells := thC q.rows none 0 0 k) rfl rfl (by kernel_rfl)) ?_
  refine wl_op (ok_box rfl rfl rfl rfl rfl ?_); intro tb
  refine gg ?_
  refine glp (fun s : TkX => 0 ≤ s.k ∧ s.k ≤ q.rows) (fun s => [(6, .pointer (some ⟨q6, 0, none⟩)), (7, .pointer (some ⟨tb, 0, none⟩)), (47, vi q.rows), (48, vi s.k)])
    (fun s => [blk tb (thC q.rows s.A (nearTo y q s.k).length s.c k) TTh, osl TIs sv s.A s.c (nearTo y q s.k), blk q6 (pcs y q) TP, osl TI vi y.A y.c q.start, osl TI vi y.B y.d q.cols]) (fun s => (q.rows - s.k).toNat) ⟨0, none, 0⟩ ⟨by simp, g1⟩ ?_
  rintro ⟨v, NA, nc⟩ ⟨hv0, hv1⟩
  dsimp only at hv0 hv1 ⊢
  have hnl := nearTo_len y q hv0
  by_cases hv : v < q.rows
  · have e1 := HG.lo hv0 (by omega)
    have e2 := HG.hi (r := v + 1) (by omega) (by omega)
    have e3 := HG.step hv0 hv
    refine gg ?_
    refine gwa [blk tb (thC q.rows NA (nearTo y q v).length nc k) TTh, osl TIs sv NA nc (nearTo y q v)] ?_
    (repeat (first | refine gk1 ?_ | refine gk2 ?_ | refine gk3 ?_ | refine gk0 ?_ | refine gk4 ?_))
    dsimp only [List.cons_append, List.nil_append]
    (first | refine ga1 0 (by exact rfl) (by exact rfl) ?_ | refine ga2 0 (by exact rfl) (by exact rfl) ?_ | refine ga3 0 (by exact rfl) (by exact rfl) ?_ | refine ga4 0 (by exact rfl) (by exact rfl) ?_)
    (first | refine ga1 1 (by exact rfl) (by exact rfl) ?_ | refine ga2 1 (by exact rfl) (by exact rfl) ?_ | refine ga3 1 (by exact rfl) (by exact rfl) ?_ | refine ga4 1 (by exact rfl) (by exact rfl) ?_)
    (first | refine ga1 2 (by exact rfl) (by exact rfl) ?_ | refine ga2 2 (by exact rfl) (by exact rfl) ?_ | refine ga3 2 (by exact rfl) (by exact rfl) ?_ | refine ga4 2 (by exact rfl) (by exact rfl) ?_)
    (first | refine ga1 3 (by exact rfl) (by exact rfl) ?_ | refine ga2 3 (by exact rfl) (by exact rfl) ?_ | refine ga3 3 (by exact rfl) (by exact rfl) ?_ | refine ga4 3 (by exact rfl) (by exact rfl) ?_)
    (first | refine ga1 5 (by exact rfl) (by exact rfl) ?_ | refine ga2 5 (by exact rfl) (by exact rfl) ?_ | refine ga3 5 (by exact rfl) (by exact rfl) ?_ | refine ga4 5 (by exact rfl) (by exact rfl) ?_)
    (first | refine ga1 6 (by exact rfl) (by exact rfl) ?_ | refine ga2 6 (by exact rfl) (by exact rfl) ?_ | refine ga3 6 (by exact rfl) (by exact rfl) ?_ | refine ga4 6 (by exact rfl) (by exact rfl) ?_)
    (first | refine ga1 7 (by exact rfl) (by exact rfl) ?_ | refine ga2 7 (by exact rfl) (by exact rfl) ?_ | refine ga3 7 (by exact rfl) (by exact rfl) ?_ | refine ga4 7 (by exact rfl) (by exact rfl) ?_)
    (first | refine ga1 8 (by exact rfl) (by exact rfl) ?_ | refine ga2 8 (by exact rfl) (by exact rfl) ?_ | refine ga3 8 (by exact rfl) (by exact rfl) ?_ | refine ga4 8 (by exact rfl) (by exact rfl) ?_)
    (first | refine ga1 9 (by exact rfl) (by exact rfl) ?_ | refine ga2 9 (by exact rfl) (by exact rfl) ?_ | refine ga3 9 (by exact rfl) (by exact rfl) ?_ | refine ga4 9 (by exact rfl) (by exact rfl) ?_)
    (first | refine ga1 10 (by exact rfl) (by exact rfl) ?_ | refine ga2 10 (by exact rfl) (by exact rfl) ?_ | refine ga3 10 (by exact rfl) (by exact rfl) ?_ | refine ga4 10 (by exact rfl) (by exact rfl) ?_)
    (first | refine ga1 11 (by exact rfl) (by exact rfl) ?_ | refine ga2 11 (by exact rfl) (by exact rfl) ?_ | refine ga3 11 (by exact rfl) (by exact rfl) ?_ | refine ga4 11 (by exact rfl) (by exact rfl) ?_)
    (first | refine ga1 12 (by exact rfl) (by exact rfl) ?_ | refine ga2 12 (by exact rfl) (by exact rfl) ?_ | refine ga3 12 (by exact rfl) (by exact rfl) ?_ | refine ga4 12 (by exact rfl) (by exact rfl) ?_)
    (first | refine ga1 13 (by exact rfl) (by exact rfl) ?_ | refine ga2 13 (by exact rfl) (by exact rfl) ?_ | refine ga3 13 (by exact rfl) (by exact rfl) ?_ | refine ga4 13 (by exact rfl) (by exact rfl) ?_)
    (first | refine ga1 14 (by exact rfl) (by exact rfl) ?_ | refine ga2 14 (by exact rfl) (by exact rfl) ?_ | refine ga3 14 (by exact rfl) (by exact rfl) ?_ | refine ga4 14 (by exact rfl) (by exact rfl) ?_)
    (first | refine ga1 15 (by exact rfl) (by exact rfl) ?_ | refine ga2 15 (by exact rfl) (by exact rfl) ?_ | refine ga3 15 (by exact rfl) (by exact rfl) ?_ | refine ga4 15 (by exact rfl) (by exact rfl) ?_)
    (first | refine ga1 16 (by exact rfl) (by exact rfl) ?_ | refine ga2 16 (by exact rfl) (by exact rfl) ?_ | refine ga3 16 (by exact rfl) (by exact rfl) ?_ | refine ga4 16 (by exact rfl) (by exact rfl) ?_)
    (first | refine ga1 17 (by exact rfl) (by exact rfl) ?_ | refine ga2 17 (by exact rfl) (by exact rfl) ?_ | refine ga3 17 (by exact rfl) (by exact rfl) ?_ | refine ga4 17 (by exact rfl) (by exact rfl) ?_)
    (first | refine ga1 18 (by exact rfl) (by exact rfl) ?_ | refine ga2 18 (by exact rfl) (by exact rfl) ?_ | refine ga3 18 (by exact rfl) (by exact rfl) ?_ | refine ga4 18 (by exact rfl) (by exact rfl) ?_)
    (first | refine ga1 19 (by exact rfl) (by exact rfl) ?_ | refine ga2 19 (by exact rfl) (by exact rfl) ?_ | refine ga3 19 (by exact rfl) (by exact rfl) ?_ | refine ga4 19 (by exact rfl) (by exact rfl) ?_)
    (first | refine ga1 20 (by exact rfl) (by exact rfl) ?_ | refine ga2 20 (by exact rfl) (by exact rfl) ?_ | refine ga3 20 (by exact rfl) (by exact rfl) ?_ | refine ga4 20 (by exact rfl) (by exact rfl) ?_)
    (first | refine ga1 21 (by exact rfl) (by exact rfl) ?_ | refine ga2 21 (by exact rfl) (by exact rfl) ?_ | refine ga3 21 (by exact rfl) (by exact rfl) ?_ | refine ga4 21 (by exact rfl) (by exact rfl) ?_)
    (first | refine ga1 22 (by exact rfl) (by exact rfl) ?_ | refine ga2 22 (by exact rfl) (by exact rfl) ?_ | refine ga3 22 (by exact rfl) (by exact rfl) ?_ | refine ga4 22 (by exact rfl) (by exact rfl) ?_)
    (first | refine ga1 23 (by exact rfl) (by exact rfl) ?_ | refine ga2 23 (by exact rfl) (by exact rfl) ?_ | refine ga3 23 (by exact rfl) (by exact rfl) ?_ | refine ga4 23 (by exact rfl) (by exact rfl) ?_)
    refine wa_v 24 [_, _] rfl (by kernel_rfl) rfl rfl rfl rfl (val_slice3 rfl rfl rfl rfl rfl (fun w hst => grd hst) (el_of rfl) (sz_of rfl) e1 e3 e2) ?_
    refine gaAll [4, 25] ?_
    intro j hj
    simp only [List.mem_cons, List.not_mem_nil, or_false] at hj
    rcases hj with rfl | rfl
    · refine ⟨_, rfl, ?_⟩
      refine gl0 (by exact rfl) ?_
      refine ⟨by (repeat (first | exact Suf.refl | exact Suf.nil | exact Suf.app _ _ | apply Suf.cons)), ?_⟩
      refine gaOne 25 rfl ?_
      refine ok_build1 sv (rowV y q v) rfl rfl rfl rfl rfl (el_of rfl) (ze_of rfl) rfl (sz_of rfl) rfl ?_
      intro b2
      refine ⟨by (repeat (first | exact Suf.refl | exact Suf.nil | exact Suf.app _ _ | apply Suf.cons)), ?_⟩
      refine gaOne 26 rfl ?_
      refine ok_append 2 sv (ys := [rowV y q v]) rfl rfl rfl rfl rfl rfl rfl (el_of rfl) (ze_of rfl) rfl (sz_of rfl) (by_of rfl) ⟨_, rfl⟩ (fun w hst => osl_reads (hst.at_ 0 rfl)) (fun _ => rfl) (by simp; omega) (by simp; omega) ?_
      intro A' c'
      refine ⟨by (repeat (first | exact Suf.refl | exact Suf.nil | exact Suf.app _ _ | apply Suf.cons)), ?_⟩
      (first | refine ga1 27 (by exact rfl) (by exact rfl) ?_ | refine ga2 27 (by exact rfl) (by exact rfl) ?_ | refine ga3 27 (by exact rfl) (by exact rfl) ?_ | refine ga4 27 (by exact rfl) (by exact rfl) ?_)
      (first | refine ga1 28 (by exact rfl) (by exact rfl) ?_ | refine ga2 28 (by exact rfl) (by exact rfl) ?_ | refine ga3 28 (by exact rfl) (by exact rfl) ?_ | refine ga4 28 (by exact rfl) (by exact rfl) ?_)
      refine gaOne 29 rfl ?_
      refine gt0 (by exact rfl) ?_
      refine ⟨by (repeat (first | exact Suf.refl | exact Suf.nil | exact Suf.app _ _ | apply Suf.cons)), ?_⟩
      refine gaDone ?_
      rw [← nearTo_next y q hv0]
      refine gg ?_
      exact gnx (⟨v + 1, A', c'⟩ : TkX) ⟨by dsimp only; omega, by dsimp only; omega⟩ (by dsimp only; omega)
    · refine ⟨_, rfl, ?_⟩
      refine ok_build1 sv (rowV y q v) rfl rfl rfl rfl rfl (el_of rfl) (ze_of rfl) rfl (sz_of rfl) rfl ?_
      intro b2
      refine ⟨by (repeat (first | exact Suf.refl | exact Suf.nil | exact Suf.app _ _ | apply Suf.cons)), ?_⟩
      refine gaOne 4 rfl ?_
      refine gl0 (by exact rfl) ?_
      refine ⟨by (repeat (first | exact Suf.refl | exact Suf.nil | exact Suf.app _ _ | apply Suf.cons)), ?_⟩
      refine gaOne 26 rfl ?_
      refine ok_append 2 sv (ys := [rowV y q v]) rfl rfl rfl rfl rfl rfl rfl (el_of rfl) (ze_of rfl) rfl (sz_of rfl) (by_of rfl) ⟨_, rfl⟩ (fun w hst => osl_reads (hst.at_ 0 rfl)) (fun _ => rfl) (by simp; omega) (by simp; omega) ?_
      intro A' c'
      refine ⟨by (repeat (first | exact Suf.refl | exact Suf.nil | exact Suf.app _ _ | apply Suf.cons)), ?_⟩
      (first | refine ga1 27 (by exact rfl) (by exact rfl) ?_ | refine ga2 27 (by exact rfl) (by exact rfl) ?_ | refine ga3 27 (by exact rfl) (by exact rfl) ?_ | refine ga4 27 (by exact rfl) (by exact rfl) ?_)
      (first | refine ga1 28 (by exact rfl) (by exact rfl) ?_ | refine ga2 28 (by exact rfl) (by exact rfl) ?_ | refine ga3 28 (by exact rfl) (by exact rfl) ?_ | refine ga4 28 (by exact rfl) (by exact rfl) ?_)
      refine gaOne 29 rfl ?_
      refine gt0 (by exact rfl) ?_
      refine ⟨by (repeat (first | exact Suf.refl | exact Suf.nil | exact Suf.app _ _ | apply Suf.cons)), ?_⟩
      refine gaDone ?_
      rw [← nearTo_next y q hv0]
      refine gg ?_
      exact gnx (⟨v + 1, A', c'⟩ : TkX) ⟨by dsimp only; omega, by dsimp only; omega⟩ (by dsimp only; omega)
  · obtain rfl : v = q.rows := by omega
    refine gg ?_
    exact grt (⟨tb, NA, nc, y⟩ : TX) trivial
theorem takenrows_c (w : World) (hp : RdP w x p) (hm : May p) (hk : k = 3) :
    Calls Try.prog 67 [vi k, pvl x p].toArray w (Ret [] (fun t : TX => .tuple #[.pointer (some ⟨t.tb, 0, none⟩), vi 0]) (fun t => [blk t.tb (thC (rowsS p).1.rows t.A (nearTo t.y (rowsS p).1 (rowsS p).1.rows).length t.c k) TTh, osl TIs sv t.A t.c (nearTo t.y (rowsS p).1 (rowsS p).1.rows)] ++ PatR t.y (rowsS p).1) (fun t => True) w) := by
  have op := hp.old
  obtain ⟨h1, h2, h3, h4, h5, h6, h7, h8⟩ := hm.toHead
  have k1 : 1 ≤ k ∧ k ≤ 5 := by omega
  have hcl : ∀ w, RdP w x p → _ := fun w h => colRows_c (p := p) (x := x) w h
  have hmg : May (rowsS p).1 := by
    rw [show rowsS p = (shutP p.rows.toNat p.rows (meetB p), 0) from if_pos hm]
    exact shut_may (by omega) (by omega) (by omega) (meetB_within hm)
  generalize rowsS p = z at hcl hmg ⊢
  obtain ⟨q, ze⟩ := z
  dsimp only at hcl hmg ⊢
  have HG := hmg.toHead
  obtain ⟨g1, g2, g3, g4, g5, g6, g7, g8⟩ := hmg.toHead
  have hsm := hmg.small
  unfold pvl patV at *
  refine calls_wc [] [] [.tmp 4, .tmp 5] (fun t : TX => [.pointer (some ⟨t.tb, 0, none⟩), vi 0]) Try.func67 rfl rfl (fun _ => rfl) Try.ntmps67 rfl (Own.nil w) rfl ?_
  refine gg ?_
  refine wl_op (ok_box rfl rfl rfl rfl rfl ?_); intro bp
  refine gg ?_
  refine gc1 (fun w hst => may_t (op.s.now hst) (op.c.now hst) hm) (by exact rfl) ?_
  refine gg ?_
  refine gc1 (fun w hst => isKind_c (k := k) true (by simp [k1]) w) (by exact rfl) ?_
  refine gg ?_
  refine gc1 (fun w hst => ofGraph_c (k := k) false (by simp [hk]) w) (by exact rfl) ?_
  refine gg ?_
  refine wl_op (ok_alloc rfl rfl rfl rfl (ze_of rfl) ?_); intro q6
  refine gg ?_
  refine gc3 [] (fun w hst hst1 => hcl w (op.now hst)) (by exact rfl) ?_
  (repeat (first | refine gk1 ?_ | refine gk2 ?_ | refine gk3 ?_ | refine gk0 ?_ | refine gk4 ?_))
  rintro y _
  dsimp only [List.cons_append, List.nil_append]
  refine gg ?_
  refine wl_none TIs sv ?_
  refine wl_v rfl rfl rfl (val_build (ps := [(0, vi q.rows), (2, vi k)]) (cells := thC q.rows none 0 0 k) rfl rfl (by kernel_rfl)) ?_
  refine wl_op (ok_box rfl rfl rfl rfl rfl ?_); intro tb
  refine gg ?_
  refine glp (fun s : TkX => 0 ≤ s.k ∧ s.k ≤ q.rows) (fun s => [(6, .pointer (some ⟨q6, 0, none⟩)), (7, .pointer (some ⟨tb, 0, none⟩)), (47, vi q.rows), (48, vi s.k)])
    (fun s => [blk tb (thC q.rows s.A (nearTo y q s.k).length s.c k) TTh, osl TIs sv s.A s.c (nearTo y q s.k), blk q6 (pcs y q) TP, osl TI vi y.A y.c q.start, osl TI vi y.B y.d q.cols]) (fun s => (q.rows - s.k).toNat) ⟨0, none, 0⟩ ⟨by simp, g1⟩ ?_
  rintro ⟨v, NA, nc⟩ ⟨hv0, hv1⟩
  dsimp only at hv0 hv1 ⊢
  have hnl := nearTo_len y q hv0
  by_cases hv : v < q.rows
  · have e1 := HG.lo hv0 (by omega)
    have e2 := HG.hi (r := v + 1) (by omega) (by omega)
    have e3 := HG.step hv0 hv
    refine gg ?_
    refine gwa [blk tb (thC q.rows NA (nearTo y q v).length nc k) TTh, osl TIs sv NA nc (nearTo y q v)] ?_
    (repeat (first | refine gk1 ?_ | refine gk2 ?_ | refine gk3 ?_ | refine gk0 ?_ | refine gk4 ?_))
    dsimp only [List.cons_append, List.nil_append]
    (first | refine ga1 0 (by exact rfl) (by exact rfl) ?_ | refine ga2 0 (by exact rfl) (by exact rfl) ?_ | refine ga3 0 (by exact rfl) (by exact rfl) ?_ | refine ga4 0 (by exact rfl) (by exact rfl) ?_)
    (first | refine ga1 1 (by exact rfl) (by exact rfl) ?_ | refine ga2 1 (by exact rfl) (by exact rfl) ?_ | refine ga3 1 (by exact rfl) (by exact rfl) ?_ | refine ga4 1 (by exact rfl) (by exact rfl) ?_)
    (first | refine ga1 2 (by exact rfl) (by exact rfl) ?_ | refine ga2 2 (by exact rfl) (by exact rfl) ?_ | refine ga3 2 (by exact rfl) (by exact rfl) ?_ | refine ga4 2 (by exact rfl) (by exact rfl) ?_)
    (first | refine ga1 3 (by exact rfl) (by exact rfl) ?_ | refine ga2 3 (by exact rfl) (by exact rfl) ?_ | refine ga3 3 (by exact rfl) (by exact rfl) ?_ | refine ga4 3 (by exact rfl) (by exact rfl) ?_)
    (first | refine ga1 5 (by exact rfl) (by exact rfl) ?_ | refine ga2 5 (by exact rfl) (by exact rfl) ?_ | refine ga3 5 (by exact rfl) (by exact rfl) ?_ | refine ga4 5 (by exact rfl) (by exact rfl) ?_)
    (first | refine ga1 6 (by exact rfl) (by exact rfl) ?_ | refine ga2 6 (by exact rfl) (by exact rfl) ?_ | refine ga3 6 (by exact rfl) (by exact rfl) ?_ | refine ga4 6 (by exact rfl) (by exact rfl) ?_)
    (first | refine ga1 7 (by exact rfl) (by exact rfl) ?_ | refine ga2 7 (by exact rfl) (by exact rfl) ?_ | refine ga3 7 (by exact rfl) (by exact rfl) ?_ | refine ga4 7 (by exact rfl) (by exact rfl) ?_)
    (first | refine ga1 8 (by exact rfl) (by exact rfl) ?_ | refine ga2 8 (by exact rfl) (by exact rfl) ?_ | refine ga3 8 (by exact rfl) (by exact rfl) ?_ | refine ga4 8 (by exact rfl) (by exact rfl) ?_)
    (first | refine ga1 9 (by exact rfl) (by exact rfl) ?_ | refine ga2 9 (by exact rfl) (by exact rfl) ?_ | refine ga3 9 (by exact rfl) (by exact rfl) ?_ | refine ga4 9 (by exact rfl) (by exact rfl) ?_)
    (first | refine ga1 10 (by exact rfl) (by exact rfl) ?_ | refine ga2 10 (by exact rfl) (by exact rfl) ?_ | refine ga3 10 (by exact rfl) (by exact rfl) ?_ | refine ga4 10 (by exact rfl) (by exact rfl) ?_)
    (first | refine ga1 11 (by exact rfl) (by exact rfl) ?_ | refine ga2 11 (by exact rfl) (by exact rfl) ?_ | refine ga3 11 (by exact rfl) (by exact rfl) ?_ | refine ga4 11 (by exact rfl) (by exact rfl) ?_)
    (first | refine ga1 12 (by exact rfl) (by exact rfl) ?_ | refine ga2 12 (by exact rfl) (by exact rfl) ?_ | refine ga3 12 (by exact rfl) (by exact rfl) ?_ | refine ga4 12 (by exact rfl) (by exact rfl) ?_)
    (first | refine ga1 13 (by exact rfl) (by exact rfl) ?_ | refine ga2 13 (by exact rfl) (by exact rfl) ?_ | refine ga3 13 (by exact rfl) (by exact rfl) ?_ | refine ga4 13 (by exact rfl) (by exact rfl) ?_)
    (first | refine ga1 14 (by exact rfl) (by exact rfl) ?_ | refine ga2 14 (by exact rfl) (by exact rfl) ?_ | refine ga3 14 (by exact rfl) (by exact rfl) ?_ | refine ga4 14 (by exact rfl) (by exact rfl) ?_)
    (first | refine ga1 15 (by exact rfl) (by exact rfl) ?_ | refine ga2 15 (by exact rfl) (by exact rfl) ?_ | refine ga3 15 (by exact rfl) (by exact rfl) ?_ | refine ga4 15 (by exact rfl) (by exact rfl) ?_)
    (first | refine ga1 16 (by exact rfl) (by exact rfl) ?_ | refine ga2 16 (by exact rfl) (by exact rfl) ?_ | refine ga3 16 (by exact rfl) (by exact rfl) ?_ | refine ga4 16 (by exact rfl) (by exact rfl) ?_)
    (first | refine ga1 17 (by exact rfl) (by exact rfl) ?_ | refine ga2 17 (by exact rfl) (by exact rfl) ?_ | refine ga3 17 (by exact rfl) (by exact rfl) ?_ | refine ga4 17 (by exact rfl) (by exact rfl) ?_)
    (first | refine ga1 18 (by exact rfl) (by exact rfl) ?_ | refine ga2 18 (by exact rfl) (by exact rfl) ?_ | refine ga3 18 (by exact rfl) (by exact rfl) ?_ | refine ga4 18 (by exact rfl) (by exact rfl) ?_)
    (first | refine ga1 19 (by exact rfl) (by exact rfl) ?_ | refine ga2 19 (by exact rfl) (by exact rfl) ?_ | refine ga3 19 (by exact rfl) (by exact rfl) ?_ | refine ga4 19 (by exact rfl) (by exact rfl) ?_)
    (first | refine ga1 20 (by exact rfl) (by exact rfl) ?_ | refine ga2 20 (by exact rfl) (by exact rfl) ?_ | refine ga3 20 (by exact rfl) (by exact rfl) ?_ | refine ga4 20 (by exact rfl) (by exact rfl) ?_)
    (first | refine ga1 21 (by exact rfl) (by exact rfl) ?_ | refine ga2 21 (by exact rfl) (by exact rfl) ?_ | refine ga3 21 (by exact rfl) (by exact rfl) ?_ | refine ga4 21 (by exact rfl) (by exact rfl) ?_)
    (first | refine ga1 22 (by exact rfl) (by exact rfl) ?_ | refine ga2 22 (by exact rfl) (by exact rfl) ?_ | refine ga3 22 (by exact rfl) (by exact rfl) ?_ | refine ga4 22 (by exact rfl) (by exact rfl) ?_)
    (first | refine ga1 23 (by exact rfl) (by exact rfl) ?_ | refine ga2 23 (by exact rfl) (by exact rfl) ?_ | refine ga3 23 (by exact rfl) (by exact rfl) ?_ | refine ga4 23 (by exact rfl) (by exact rfl) ?_)
    refine wa_v 24 [_, _] rfl (by kernel_rfl) rfl rfl rfl rfl (val_slice3 rfl rfl rfl rfl rfl (fun w hst => grd hst) (el_of rfl) (sz_of rfl) e1 e3 e2) ?_
    refine gaAll [4, 25] ?_
    intro j hj
    simp only [List.mem_cons, List.not_mem_nil, or_false] at hj
    rcases hj with rfl | rfl
    · refine ⟨_, rfl, ?_⟩
      refine gl0 (by exact rfl) ?_
      refine ⟨by (repeat (first | exact Suf.refl | exact Suf.nil | exact Suf.app _ _ | apply Suf.cons)), ?_⟩
      refine gaOne 25 rfl ?_
      refine ok_build1 sv (rowV y q v) rfl rfl rfl rfl rfl (el_of rfl) (ze_of rfl) rfl (sz_of rfl) rfl ?_
      intro b2
      refine ⟨by (repeat (first | exact Suf.refl | exact Suf.nil | exact Suf.app _ _ | apply Suf.cons)), ?_⟩
      refine gaOne 26 rfl ?_
      refine ok_append 2 sv (ys := [rowV y q v]) rfl rfl rfl rfl rfl rfl rfl (el_of rfl) (ze_of rfl) rfl (sz_of rfl) (by_of rfl) ⟨_, rfl⟩ (fun w hst => osl_reads (hst.at_ 0 rfl)) (fun _ => rfl) (by simp; omega) (by simp; omega) ?_
      intro A' c'
      refine ⟨by (repeat (first | exact Suf.refl | exact Suf.nil | exact Suf.app _ _ | apply Suf.cons)), ?_⟩
      (first | refine ga1 27 (by exact rfl) (by exact rfl) ?_ | refine ga2 27 (by exact rfl) (by exact rfl) ?_ | refine ga3 27 (by exact rfl) (by exact rfl) ?_ | refine ga4 27 (by exact rfl) (by exact rfl) ?_)
      (first | refine ga1 28 (by exact rfl) (by exact rfl) ?_ | refine ga2 28 (by exact rfl) (by exact rfl) ?_ | refine ga3 28 (by exact rfl) (by exact rfl) ?_ | refine ga4 28 (by exact rfl) (by exact rfl) ?_)
      refine gaOne 29 rfl ?_
      refine gt0 (by exact rfl) ?_
      refine ⟨by (repeat (first | exact Suf.refl | exact Suf.nil | exact Suf.app _ _ | apply Suf.cons)), ?_⟩
      refine gaDone ?_
      rw [← nearTo_next y q hv0]
      refine gg ?_
      exact gnx (⟨v + 1, A', c'⟩ : TkX) ⟨by dsimp only; omega, by dsimp only; omega⟩ (by dsimp only; omega)
    · refine ⟨_, rfl, ?_⟩
      refine ok_build1 sv (rowV y q v) rfl rfl rfl rfl rfl (el_of rfl) (ze_of rfl) rfl (sz_of rfl) rfl ?_
      intro b2
      refine ⟨by (repeat (first | exact Suf.refl | exact Suf.nil | exact Suf.app _ _ | apply Suf.cons)), ?_⟩
      refine gaOne 4 rfl ?_
      refine gl0 (by exact rfl) ?_
      refine ⟨by (repeat (first | exact Suf.refl | exact Suf.nil | exact Suf.app _ _ | apply Suf.cons)), ?_⟩
      refine gaOne 26 rfl ?_
      refine ok_append 2 sv (ys := [rowV y q v]) rfl rfl rfl rfl rfl rfl rfl (el_of rfl) (ze_of rfl) rfl (sz_of rfl) (by_of rfl) ⟨_, rfl⟩ (fun w hst => osl_reads (hst.at_ 0 rfl)) (fun _ => rfl) (by simp; omega) (by simp; omega) ?_
      intro A' c'
      refine ⟨by (repeat (first | exact Suf.refl | exact Suf.nil | exact Suf.app _ _ | apply Suf.cons)), ?_⟩
      (first | refine ga1 27 (by exact rfl) (by exact rfl) ?_ | refine ga2 27 (by exact rfl) (by exact rfl) ?_ | refine ga3 27 (by exact rfl) (by exact rfl) ?_ | refine ga4 27 (by exact rfl) (by exact rfl) ?_)
      (first | refine ga1 28 (by exact rfl) (by exact rfl) ?_ | refine ga2 28 (by exact rfl) (by exact rfl) ?_ | refine ga3 28 (by exact rfl) (by exact rfl) ?_ | refine ga4 28 (by exact rfl) (by exact rfl) ?_)
      refine gaOne 29 rfl ?_
      refine gt0 (by exact rfl) ?_
      refine ⟨by (repeat (first | exact Suf.refl | exact Suf.nil | exact Suf.app _ _ | apply Suf.cons)), ?_⟩
      refine gaDone ?_
      rw [← nearTo_next y q hv0]
      refine gg ?_
      exact gnx (⟨v + 1, A', c'⟩ : TkX) ⟨by dsimp only; omega, by dsimp only; omega⟩ (by dsimp only; omega)
  · obtain rfl : v = q.rows := by omega
    refine gg ?_
    exact grt (⟨tb, NA, nc, y⟩ : TX) trivial
theorem takenE_c (w : World) (hp : RdP w x p) (he : thE k p ≠ 0) :
    Calls Try.prog 67 [vi k, pvl x p].toArray w (one (.tuple #[.pointer none, vi (thE k p)]) w) := by
  have op := hp.old
  unfold pvl patV
  by_cases hm : May p
  · by_cases hk : 1 ≤ k ∧ k ≤ 5
    · have h23 : k ≠ 2 ∧ k ≠ 3 := by
        refine ⟨fun h => he ?_, fun h => he ?_⟩
        · unfold thE; rw [if_neg (by simp [hm]), if_pos (.inl h)]
        · unfold thE; rw [if_neg (by simp [hm]), if_pos (.inr h)]
      have hg : ¬ IsGr p := fun hg => he (by unfold thE; rw [if_neg (by simp [hm]), if_neg (by omega), if_pos (by omega), if_pos hg])
      rw [show thE k p = 220 by unfold thE; rw [if_neg (by simp [hm]), if_neg (by omega), if_pos (by omega), if_neg hg]]
      refine calls_wc [] [] [.tmp 4, .tmp 5] (fun _ => [.pointer none, vi 220]) Try.func67 rfl rfl (fun _ => rfl) Try.ntmps67 rfl (Own.nil w) rfl ?_
      refine gg ?_
      refine wl_op (ok_box rfl rfl rfl rfl rfl ?_); intro bp
      refine gg ?_
      refine gc1 (fun w hst => may_t (op.s.now hst) (op.c.now hst) hm) (by exact rfl) ?_
      refine gg ?_
      refine gc1 (fun w hst => isKind_c (k := k) true (by simp [hk]) w) (by exact rfl) ?_
      refine gg ?_
      refine gc1 (fun w hst => ofGraph_c (k := k) true (by simp [h23]) w) (by exact rfl) ?_
      refine gg ?_
      refine gc1 (fun w hst => isGraph_c (p := p) (x := x) w (op.now hst) false (by simp [hg])) (by exact rfl) ?_
      refine gg ?_
      exact grt () trivial
    · rw [show thE k p = 242 by unfold thE; rw [if_neg (by simp [hm]), if_neg (by omega), if_neg (by omega)]]
      refine calls_wc [] [] [.tmp 4, .tmp 5] (fun _ => [.pointer none, vi 242]) Try.func67 rfl rfl (fun _ => rfl) Try.ntmps67 rfl (Own.nil w) rfl ?_
      refine gg ?_
      refine wl_op (ok_box rfl rfl rfl rfl rfl ?_); intro bp
      refine gg ?_
      refine gc1 (fun w hst => may_t (op.s.now hst) (op.c.now hst) hm) (by exact rfl) ?_
      refine gg ?_
      refine gc1 (fun w hst => isKind_c (k := k) false (by simp [hk]) w) (by exact rfl) ?_
      refine gg ?_
      exact grt () trivial
  · rw [show thE k p = 180 by unfold thE; rw [if_pos hm]]
    refine calls_wc [] [] [.tmp 4, .tmp 5] (fun _ => [.pointer none, vi 180]) Try.func67 rfl rfl (fun _ => rfl) Try.ntmps67 rfl (Own.nil w) rfl ?_
    refine gg ?_
    refine wl_op (ok_box rfl rfl rfl rfl rfl ?_); intro bp
    refine gg ?_
    refine gc1 (fun w hst => may_f (op.s.now hst) (op.c.now hst) hm) (by exact rfl) ?_
    refine gg ?_
    exact grt () trivial
end
end Go.Proofs.Ytoiiellaoikojaa
