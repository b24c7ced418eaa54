/- Walks: alike, Union. -/
import Derived.Test.YtoiiellaoikojaaAB
set_option linter.unusedVariables false
set_option linter.unusedSimpArgs false
set_option maxHeartbeats 8000000
namespace Go.Proofs.Ytoiiellaoikojaa
open Go.RowKit
section
variable {A : Option Addr} {c : Nat} {l : LP}
theorem alike_c (w : World) (hl : RdPs w A c l) (e : Int) (he : alikeS (l.map Prod.snd) = e) :
    Calls Try.prog 89 [.slice A l.length c].toArray w (one (vi e) w) := by
  have ol := hl.old
  have hcap := hl.cap
  have hmx := hl.max
  have hlen : (l.map Prod.snd).length = l.length := List.length_map _
  by_cases hz : l = []
  · subst hz
    obtain rfl : (7 : Int) = e := by rw [← he]; unfold alikeS; rw [if_neg (by simp), if_pos (by simp)]
    refine calls_wc [] [] [.tmp 2] (fun _ => [vi 7]) Try.func89 rfl rfl (fun _ => rfl) Try.ntmps89 rfl (Own.nil w) rfl ?_
    refine gg ?_
    refine glp (fun _ : Unit => True) (fun _ => [(0, .slice A ([] : LP).length c), (7, .slice A ([] : LP).length c), (8, vi ([] : LP).length), (9, vi 0)]) (fun _ => []) (fun _ => 0) () trivial ?_
    intro _ _
    dsimp only [List.length_nil]
    refine gg ?_
    exact grt () trivial
  · have hpos : 0 < l.length := List.length_pos_iff.2 hz
    obtain ⟨ad, rfl⟩ := hl.ad hpos
    have hall : ∀ q : Pat → Prop, (∀ p ∈ l.map Prod.snd, q p) ↔ ∀ i : Int, 0 ≤ i → i < l.length → q (gt l i).2 := fun q => by
      constructor
      · intro h i h0 h1
        exact h _ (List.mem_map.2 ⟨_, gt_mem h0 h1, rfl⟩)
      · rintro h p hp
        obtain ⟨x, hx, rfl⟩ := List.mem_map.1 hp
        obtain ⟨i, i0, i1, rfl⟩ := mem_gt hx
        exact h i i0 i1
    have hne : l.map Prod.snd ≠ [] := by simpa using hz
    have g0 : gt (l.map Prod.snd) 0 = (gt l 0).2 := snd_gt (by omega) (by omega)
    refine calls_wc [] [] [.tmp 2] (fun _ => [vi e]) Try.func89 rfl rfl (fun _ => rfl) Try.ntmps89 rfl (Own.nil w) rfl ?_
    refine gg ?_
    refine glp (fun k : Int => 0 ≤ k ∧ k ≤ l.length ∧ ∀ i : Int, 0 ≤ i → i < k → May (gt l i).2) (fun k => [(0, .slice (some ad) l.length c), (7, .slice (some ad) l.length c), (8, vi l.length), (9, vi k)]) (fun _ => []) (fun k => (l.length - k).toNat) 0 ⟨by omega, by omega, fun i h h' => by omega⟩ ?_
    rintro k ⟨hk0, hk1, hk⟩
    by_cases hlt : k < l.length
    · have oP := ol.pat (gt_mem hk0 hlt)
      refine gg ?_
      refine wl_v rfl rfl rfl (val_ldP ol hk0 hlt rfl rfl) ?_
      refine wl_op (ok_alloc rfl rfl rfl rfl (ze_of rfl) ?_); intro tb
      refine gg ?_
      by_cases hm : May (gt l k).2
      · refine gc1 (fun w hst => may_t (oP.s.now hst) (oP.c.now hst) hm) (by exact rfl) ?_
        refine gg ?_
        exact gnx (k + 1) ⟨by omega, by omega, fun i h h' => by
          by_cases e : i < k
          · exact hk i h e
          · obtain rfl : i = k := by omega
            exact hm⟩ (by omega)
      · obtain rfl : (180 : Int) = e := by
          rw [← he]; unfold alikeS
          rw [if_pos]
          intro h
          exact hm (((hall _).1 h) k hk0 hlt)
        refine gc1 (fun w hst => may_f (oP.s.now hst) (oP.c.now hst) hm) (by exact rfl) ?_
        refine gg ?_
        exact grt () trivial
    · obtain rfl : k = l.length := by omega
      have hmay : ∀ p ∈ l.map Prod.snd, May p := (hall _).2 hk
      refine gg ?_
      refine glp (fun k : Int => 0 ≤ k ∧ k ≤ l.length ∧ ∀ i : Int, 0 ≤ i → i < k → (gt l i).2.rows = (gt l 0).2.rows ∧ (gt l i).2.width = (gt l 0).2.width) (fun k => [(0, .slice (some ad) l.length c), (20, .slice (some ad) l.length c), (21, vi l.length), (22, vi k)]) (fun _ => []) (fun k => (l.length - k).toNat) 0 ⟨by omega, by omega, fun i h h' => by omega⟩ ?_
      rintro k ⟨hk0, hk1, hs⟩
      by_cases hlt : k < l.length
      · have bad : ¬ ((gt l k).2.rows = (gt l 0).2.rows ∧ (gt l k).2.width = (gt l 0).2.width) → (7 : Int) = e := fun hb => by
          rw [← he]; unfold alikeS
          rw [if_neg (not_not_intro hmay), if_neg hne, if_pos]
          intro h
          rw [g0] at h
          exact hb (((hall (fun p => p.rows = (gt l 0).2.rows ∧ p.width = (gt l 0).2.width)).1 h) k hk0 hlt)
        refine gg ?_
        refine wl_v rfl rfl rfl (val_ldP ol hk0 hlt rfl rfl) ?_
        refine wl_op (ok_alloc rfl rfl rfl rfl (ze_of rfl) ?_); intro tb
        refine gg ?_
        refine wc_quiet mixed (by kernel_rfl) ?_
        refine gg ?_
        refine wq_val rfl rfl rfl (val_flP (i := 0) rfl rfl rfl rfl) ?_
        refine wq_val rfl rfl rfl (val_lfP (i := 0) ol (by omega) (by omega) rfl rfl rfl rfl) ?_
        by_cases h1 : (gt l k).2.rows = (gt l 0).2.rows
        · refine gg ?_
          refine wq_val rfl rfl rfl (val_flP (i := 0) rfl rfl rfl rfl) ?_
          refine wq_val rfl rfl rfl (val_lfP (i := 0) ol (by omega) (by omega) rfl rfl rfl rfl) ?_
          by_cases h2 : (gt l k).2.width = (gt l 0).2.width
          · refine gg ?_
            exact gnx (k + 1) ⟨by omega, by omega, fun i h h' => by
              by_cases e : i < k
              · exact hs i h e
              · obtain rfl : i = k := by omega
                exact ⟨h1, h2⟩⟩ (by omega)
          · obtain rfl := bad fun h => h2 h.2
            refine gg ?_
            exact grt () trivial
        · obtain rfl := bad fun h => h1 h.1
          refine gg ?_
          exact grt () trivial
      · obtain rfl : k = l.length := by omega
        obtain rfl : (0 : Int) = e := by
          rw [← he]; unfold alikeS
          rw [if_neg (not_not_intro hmay), if_neg hne, if_neg]
          rw [g0]
          exact not_not_intro ((hall (fun p => p.rows = (gt l 0).2.rows ∧ p.width = (gt l 0).2.width)).2 hs)
        refine gg ?_
        exact grt () trivial
theorem union1_c {p : Pat} (hm : May p) (S S' : Int → Int → Bool) (tb R : Nat) (ms : List Nat) (width : Int) (hms : (ms.length : Int) = p.rows) (k r : Int) (w : World) (h0 : 0 ≤ r) (h1 : r < p.rows) (h2 : gt p.start r ≤ k) (h3 : k < gt p.start (r + 1)) (hw : Own (TabI tb R ms width S) w) (hS : S' = fun a b => S a b || (a == r && b == gt p.cols k)) :
    Calls Try.prog 90 ([vi r, vi (gt p.cols k), vi k] ++ [Value.pointer (some ⟨tb, 0, none⟩)]).toArray w (Ret (TabI tb R ms width S) (fun _ : Unit => .tuple #[]) (fun _ => TabI tb R ms width S') (fun _ => True) w) := by
  obtain ⟨c0, c1, _⟩ := hm.row r h0 h1 k h2 h3
  have hw1 := hm.toHead.w1
  subst hS
  refine calls_wc ((TabI tb R ms width S).flatMap Res.fp) (TabI tb R ms width S) [] (fun _ => []) Try.func90 rfl rfl (fun _ => rfl) Try.ntmps90 rfl hw rfl ?_
  refine gg ?_
  refine gm1 (by exact rfl) ?_
  refine gg ?_
  exact grt () trivial
theorem union_c (w : World) (hl : RdPs w A c l) (q : PE) (hq : unionS (l.map Prod.snd) = q) :
    Calls Try.prog 52 [.slice A l.length c].toArray w (Ret [] (fun y : PA => .tuple #[pvl y q.1, vi q.2]) (fun y => PatR y q.1) (fun _ => True) w) := by
  have ol := hl.old
  have hcap := hl.cap
  have hmx := hl.max
  have hlen : (l.map Prod.snd).length = l.length := List.length_map _
  by_cases ha : alikeS (l.map Prod.snd) = 0
  · have hal := alike_iff.1 ha
    have hpos : 0 < l.length := by
      rw [← hlen]; exact List.length_pos_iff.2 hal.some_
    obtain ⟨ad, rfl⟩ := hl.ad hpos
    have g0 : gt (l.map Prod.snd) 0 = (gt l 0).2 := snd_gt (by omega) (by omega)
    have hmay : ∀ i : Int, 0 ≤ i → i < l.length → May (gt l i).2 := fun i h0 h1 => hal.may _ (List.mem_map.2 ⟨_, gt_mem h0 h1, rfl⟩)
    have hsz : ∀ i : Int, 0 ≤ i → i < l.length → (gt l i).2.rows = (gt l 0).2.rows ∧ (gt l i).2.width = (gt l 0).2.width := fun i h0 h1 => by
      have := hal.size _ (List.mem_map.2 ⟨_, gt_mem h0 h1, rfl⟩)
      rwa [g0] at this
    obtain ⟨h1, h2, h3, h4, _⟩ := (hmay 0 (by omega) (by omega)).toHead
    obtain rfl : (shutP (gt l 0).2.rows.toNat (gt l 0).2.width (unionB (l.map Prod.snd)), (0 : Int)) = q := by
      rw [← hq]; unfold unionS
      rw [if_neg (not_not_intro ha), g0]
    refine calls_wc [] [] [.cell 2 TP, .tmp 3] (fun y : PA => [pvl y (shutP (gt l 0).2.rows.toNat (gt l 0).2.width (unionB (l.map Prod.snd))), vi 0]) Try.func52 rfl rfl (fun _ => rfl) Try.ntmps52 rfl (Own.nil w) rfl ?_
    refine gg ?_
    refine wl_op (ok_alloc rfl rfl rfl rfl (ze_of rfl) ?_); intro rb
    refine gg ?_
    refine gc1 (fun w hst => alike_c w (ol.now hst) 0 ha) (by exact rfl) ?_
    refine gg ?_
    refine wc_cutK (fun z : Nat × Nat × List Nat => (z.2.2.length : Int) = (gt l 0).2.rows) (fun z => [(0, .slice (some ad) l.length c), (2, .pointer (some ⟨rb, 0, none⟩)), (5, .pointer (some ⟨z.1, 0, none⟩))])
      (fun z => [blk z.1 [vi (gt l 0).2.width, .slice (some ⟨z.2.1, 0, none⟩) z.2.2.length z.2.2.length] TT, Tab z.2.1 z.2.2 (fun _ _ => false), blk rb pat0 TP]) ?_ ?_
    · refine gwa [] ?_
      (repeat (first | refine gk1 ?_ | refine gk2 ?_ | refine gk3 ?_ | refine gk0 ?_ | refine gk4 ?_))
      (first | refine ga1 0 (by exact rfl) (by exact rfl) ?_ | refine ga2 0 (by exact rfl) (by exact rfl) ?_ | refine ga3 0 (by exact rfl) (by exact rfl) ?_ | refine ga4 0 (by exact rfl) (by exact rfl) ?_)
      (first | refine ga1 1 (by exact rfl) (by exact rfl) ?_ | refine ga2 1 (by exact rfl) (by exact rfl) ?_ | refine ga3 1 (by exact rfl) (by exact rfl) ?_ | refine ga4 1 (by exact rfl) (by exact rfl) ?_)
      refine wa_v 2 [] rfl (by kernel_rfl) rfl rfl rfl rfl (val_flP (i := 0) rfl rfl rfl rfl) ?_
      refine wa_v 3 [] rfl (by kernel_rfl) rfl rfl rfl rfl (val_lfP (i := 0) ol (by omega) (by omega) rfl rfl rfl rfl) ?_
      (first | refine ga1 4 (by exact rfl) (by exact rfl) ?_ | refine ga2 4 (by exact rfl) (by exact rfl) ?_ | refine ga3 4 (by exact rfl) (by exact rfl) ?_ | refine ga4 4 (by exact rfl) (by exact rfl) ?_)
      (first | refine ga1 5 (by exact rfl) (by exact rfl) ?_ | refine ga2 5 (by exact rfl) (by exact rfl) ?_ | refine ga3 5 (by exact rfl) (by exact rfl) ?_ | refine ga4 5 (by exact rfl) (by exact rfl) ?_)
      refine wa_v 6 [] rfl (by kernel_rfl) rfl rfl rfl rfl (val_flP (i := 0) rfl rfl rfl rfl) ?_
      refine wa_v 7 [] rfl (by kernel_rfl) rfl rfl rfl rfl (val_lfP (i := 0) ol (by omega) (by omega) rfl rfl rfl rfl) ?_
      refine gaAll [8, 9] ?_
      intro j hj
      simp only [List.mem_cons, List.not_mem_nil, or_false] at hj
      rcases hj with rfl | rfl
      · refine ⟨_, rfl, ?_⟩
        refine gc0 [] (fun w hst hst1 => blank_c (rows := (gt l 0).2.rows) (width := (gt l 0).2.width) w h1 h2) (by exact rfl) ?_
        (repeat (first | refine gk1 ?_ | refine gk2 ?_ | refine gk3 ?_ | refine gk0 ?_ | refine gk4 ?_))
        rintro ⟨R, ms⟩ hms
        dsimp only [List.cons_append, List.nil_append] at hms ⊢
        refine ⟨by (repeat (first | exact Suf.refl | exact Suf.nil | exact Suf.app _ _ | apply Suf.cons)), ?_⟩
        refine gaOne 9 rfl ?_
        refine ok_alloc rfl rfl rfl rfl (ze_of rfl) ?_
        intro tb
        refine ⟨by (repeat (first | exact Suf.refl | exact Suf.nil | exact Suf.app _ _ | apply Suf.cons)), ?_⟩
        refine gaOne 10 rfl ?_
        refine gt0 (by exact rfl) ?_
        refine ⟨by (repeat (first | exact Suf.refl | exact Suf.nil | exact Suf.app _ _ | apply Suf.cons)), ?_⟩
        refine gaDone ?_
        exact ⟨⟨tb, R, ms⟩, hms, .cons rfl (.cons rfl (.cons rfl .nil)), by refine gperm ?_; (repeat (first | refine gk1 ?_ | refine gk2 ?_ | refine gk3 ?_ | refine gk0 ?_ | refine gk4 ?_)); exact List.Perm.refl _⟩
      · refine ⟨_, rfl, ?_⟩
        refine ok_alloc rfl rfl rfl rfl (ze_of rfl) ?_
        intro tb
        refine ⟨by (repeat (first | exact Suf.refl | exact Suf.nil | exact Suf.app _ _ | apply Suf.cons)), ?_⟩
        refine gaOne 8 rfl ?_
        refine gc0 [] (fun w hst hst1 => blank_c (rows := (gt l 0).2.rows) (width := (gt l 0).2.width) w h1 h2) (by exact rfl) ?_
        (repeat (first | refine gk1 ?_ | refine gk2 ?_ | refine gk3 ?_ | refine gk0 ?_ | refine gk4 ?_))
        rintro ⟨R, ms⟩ hms
        dsimp only [List.cons_append, List.nil_append] at hms ⊢
        refine ⟨by (repeat (first | exact Suf.refl | exact Suf.nil | exact Suf.app _ _ | apply Suf.cons)), ?_⟩
        refine gaOne 10 rfl ?_
        refine gt0 (by exact rfl) ?_
        refine ⟨by (repeat (first | exact Suf.refl | exact Suf.nil | exact Suf.app _ _ | apply Suf.cons)), ?_⟩
        refine gaDone ?_
        exact ⟨⟨tb, R, ms⟩, hms, .cons rfl (.cons rfl (.cons rfl .nil)), by refine gperm ?_; (repeat (first | refine gk1 ?_ | refine gk2 ?_ | refine gk3 ?_ | refine gk0 ?_ | refine gk4 ?_)); exact List.Perm.refl _⟩
    rintro ⟨tb, R, ms⟩ hms
    dsimp only at hms ⊢
    rw [uni_none (l.map Prod.snd)]
    refine gg ?_
    refine glp (fun i : Int => 0 ≤ i ∧ i ≤ l.length) (fun i => [(2, .pointer (some ⟨rb, 0, none⟩)), (5, .pointer (some ⟨tb, 0, none⟩)), (23, .slice (some ad) l.length c), (24, vi l.length), (25, vi i)])
      (fun i => [blk tb [vi (gt l 0).2.width, .slice (some ⟨R, 0, none⟩) ms.length ms.length] TT, Tab R ms (uniF (l.map Prod.snd) i), blk rb pat0 TP]) (fun i => (l.length - i).toNat) 0 ⟨by omega, by omega⟩ ?_
    rintro i ⟨hi0, hi1⟩
    by_cases hi : i < l.length
    · have oP := ol.pat (gt_mem hi0 hi)
      have hmi := hmay i hi0 hi
      have hsi := hsz i hi0 hi
      have gi : gt (l.map Prod.snd) i = (gt l i).2 := snd_gt hi0 hi
      have hmi' : May (gt (l.map Prod.snd) i) := by rw [gi]; exact hmi
      rw [uniU_begin hmi']
      refine gg ?_
      refine wl_v rfl rfl rfl (val_ldP ol hi0 hi rfl rfl) ?_
      refine wl_op (ok_alloc rfl rfl rfl rfl (ze_of rfl) ?_); intro pb
      refine gg ?_
      refine gc3 (TabI tb R ms (gt l 0).2.width (uniU (l.map Prod.snd) i 0)) (fun w hst hst1 => each_c hmi (fun k (_ : Unit) => TabI tb R ms (gt l 0).2.width (uniU (l.map Prod.snd) i k)) (fun _ _ => True) 90 [Value.pointer (some ⟨tb, 0, none⟩)] (bod_of rfl) () w (oP.s.later hst1) (oP.c.later hst1) trivial hst1.own
        (fun k r _ w h0 h1 h2 h3 _ hw => union1_c hmi _ _ tb R ms (gt l 0).2.width (by omega) k r w h0 h1 h2 h3 hw.own (by have := uniU_step (l := l.map Prod.snd) (i := i) (r := r) (k := k) hmi' h0 (by rw [gi]; exact h1) (by rw [gi]; exact h2) (by rw [gi]; exact h3); rwa [gi] at this))) (by exact rfl) ?_
      (repeat (first | refine gk1 ?_ | refine gk2 ?_ | refine gk3 ?_ | refine gk0 ?_ | refine gk4 ?_))
      rintro _ _
      dsimp only [List.cons_append, List.nil_append]
      rw [← gi, uniU_next hi0 hmi' (fun h => by rw [snd_gt (by omega) (by omega)]; exact hmay _ (by omega) (by omega)) (fun _ => trivial)]
      refine gg ?_
      exact gnx (i + 1) ⟨by omega, by omega⟩ (by omega)
    · obtain rfl : i = l.length := by omega
      rw [show ((l.length : Nat) : Int) = ((l.map Prod.snd).length : Nat) by rw [hlen], uni_end]
      refine gg ?_
      refine gc3 [Tab R ms (unionB (l.map Prod.snd))] (fun w hst hst1 => shut_c (S := unionB (l.map Prod.snd)) (width := (gt l 0).2.width) w hst1.own (by omega)) (by exact rfl) ?_
      (repeat (first | refine gk1 ?_ | refine gk2 ?_ | refine gk3 ?_ | refine gk0 ?_ | refine gk4 ?_))
      rintro y _
      dsimp only [List.cons_append, List.nil_append]
      rw [nat_cast_toNat hms]
      refine gg ?_
      exact grt y trivial
  · obtain rfl : (zP, alikeS (l.map Prod.snd)) = q := by
      rw [← hq]; unfold unionS
      rw [if_pos ha]
    generalize hE : alikeS (l.map Prod.snd) = E at ha
    refine calls_wc [] [] [.cell 2 TP, .tmp 3] (fun y : PA => [pvl y zP, vi E]) Try.func52 rfl rfl (fun _ => rfl) Try.ntmps52 rfl (Own.nil w) rfl ?_
    refine gnil ?_
    refine gnil ?_
    refine gg ?_
    refine wl_op (ok_alloc rfl rfl rfl rfl (ze_of rfl) ?_); intro rb
    refine gg ?_
    refine gc1 (fun w hst => alike_c w (ol.now hst) E hE) (by exact rfl) ?_
    refine gg ?_
    exact grt PA.nil trivial
end
end Go.Proofs.Ytoiiellaoikojaa
