/- Walks: colours: Classes, refused; the reference. -/
import Derived.Test.YtoiiellaoikojaaK7
set_option linter.unusedVariables false
set_option linter.unusedSimpArgs false
set_option maxHeartbeats 8000000
namespace Go.Proofs.Ytoiiellaoikojaa
open Go.RowKit
section
variable {P : Program} {n : Nat} {w0 w : World} {D : List Nat} {Γ : Tm} {σ : List Res} {Q : QQ}
theorem wc_take {cd : Code} {rows : List RW} {i : Int} (h0 : 0 ≤ i) (h1 : i < rows.length) (h : PickK (bun (rows.map rwR)) σ (fun σ' => WC P n w0 D cd Q Γ (rwR (gt rows i) :: bun ((rows.take i.toNat).map rwR ++ (rows.drop (i.toNat + 1)).map rwR) :: σ'))) : WC P n w0 D cd Q Γ σ := by
  obtain ⟨σ', hp, h⟩ := h
  refine .mk fun a w hs hst => h.run a w hs ?_
  have h2 := bun_out (hst.perm hp)
  have h3 := h2.perm ((take_at h0 h1).symm.append_right σ')
  have h4 : St w0 D (((rows.take i.toNat).map rwR ++ (rows.drop (i.toNat + 1)).map rwR) ++ (rwR (gt rows i) :: σ')) w := h3.perm (by
    rw [List.cons_append]
    exact List.perm_middle)
  exact (bun_in h4).perm (List.Perm.swap _ _ _)
end
theorem posTo_nil {l : List Int} {v c : Int} (h : ∀ i : Int, 0 ≤ i → i < v → gt l i ≠ c) : posTo l v c = [] := by
  unfold posTo
  rw [List.filter_eq_nil_iff]
  intro i hi
  have := mem_rng.1 hi
  simpa using h i this.1 (by omega)
section
variable {A : Option Addr} {c : Nat} {l : List Int}
theorem take_next {k : Int} (h0 : 0 ≤ k) (h1 : k < l.length) : l.take (k + 1).toNat = l.take k.toNat ++ [gt l k] := by
  rw [show (k + 1).toNat = k.toNat + 1 by omega, List.take_add_one, List.getElem?_eq_getElem (by omega), gt_elem h0 (by omega)]
  rfl
theorem take_mem {k i : Int} (i0 : 0 ≤ i) (i1 : i < k) (h1 : k ≤ l.length) : gt l i ∈ l.take k.toNat := by
  rw [gt_elem i0 (by omega)]
  exact List.mem_iff_getElem.2 ⟨i.toNat, by rw [List.length_take]; omega, by simp⟩
theorem classesE_c (w : World) (hA : Rds vi w A c l) (hm : ¬ clMay l) :
    Calls Try.prog 25 [.slice A l.length c].toArray w (one (.tuple #[.slice none 0 0, vi 240]) w) := by
  have oA := hA.old
  refine calls_wc [] [] [.tmp 2, .tmp 3] (fun _ => [.slice none 0 0, vi 240]) Try.func25 rfl rfl (fun _ => rfl) Try.ntmps25 rfl (Own.nil w) rfl ?_
  refine gg ?_
  by_cases hl : l.length ≤ 128
  · refine gg ?_
    refine glp (fun k : Int => 0 ≤ k ∧ k ≤ l.length ∧ ∀ i : Int, 0 ≤ i → i < k → 0 ≤ gt l i ∧ gt l i ≤ 65536) (fun k => [(0, .slice A l.length c), (12, .slice A l.length c), (13, vi l.length), (14, vi k)]) (fun _ => []) (fun k => (l.length - k).toNat) 0 ⟨by omega, by omega, fun i i0 i1 => by omega⟩ ?_
    rintro k ⟨hk0, hk1, hok⟩
    by_cases hk : k < l.length
    · by_cases h1 : gt l k < 0
      · refine gg ?_
        exact grt () trivial
      · by_cases h2 : 65536 < gt l k
        · refine gg ?_
          exact grt () trivial
        · refine gg ?_
          exact gnx (k + 1) ⟨by omega, by omega, fun i i0 i1 => by
            by_cases e : i = k
            · rw [e]; omega
            · exact hok i i0 (by omega)⟩ (by omega)
    · exact (hm ⟨hl, fun i i0 i1 => hok i i0 (by omega)⟩).elim
  · refine gg ?_
    exact grt () trivial
theorem mayCol_c {m : Int} (w : World) (hA : Rds vi w A c l) (b : Bool) (hb : b = true ↔ (l.length : Int) = m ∧ ∀ i : Int, 0 ≤ i → i < l.length → 0 ≤ gt l i ∧ gt l i ≤ 65536) (hl : l.length ≤ 1000000) :
    Calls Try.prog 65 [vi m, .slice A l.length c].toArray w (one (.bool b) w) := by
  have oA := hA.old
  have fals : ¬ ((l.length : Int) = m ∧ ∀ i : Int, 0 ≤ i → i < l.length → 0 ≤ gt l i ∧ gt l i ≤ 65536) → b = false := fun h => by
    cases b with
    | false => rfl
    | true => exact (h (hb.1 rfl)).elim
  refine calls_wc [] [] [.tmp 4] (fun _ => [.bool b]) Try.func65 rfl rfl (fun _ => rfl) Try.ntmps65 rfl (Own.nil w) rfl ?_
  refine gg ?_
  by_cases hl : (l.length : Int) = m
  · refine gg ?_
    refine glp (fun k : Int => 0 ≤ k ∧ k ≤ l.length ∧ ∀ i : Int, 0 ≤ i → i < k → 0 ≤ gt l i ∧ gt l i ≤ 65536) (fun k => [(1, .slice A l.length c), (5, vi k)]) (fun _ => []) (fun k => (l.length - k).toNat) 0 ⟨by omega, by omega, fun i i0 i1 => by omega⟩ ?_
    rintro k ⟨hk0, hk1, hok⟩
    by_cases hk : k < l.length
    · by_cases h1 : gt l k < 0
      · obtain rfl := fals (fun h => by have := h.2 k hk0 hk; omega)
        refine gg ?_
        exact grt () trivial
      · by_cases h2 : 65536 < gt l k
        · obtain rfl := fals (fun h => by have := h.2 k hk0 hk; omega)
          refine gg ?_
          exact grt () trivial
        · refine gg ?_
          exact gnx (k + 1) ⟨by omega, by omega, fun i i0 i1 => by
            by_cases e : i = k
            · rw [e]; omega
            · exact hok i i0 (by omega)⟩ (by omega)
    · obtain rfl : b = true := hb.2 ⟨hl, fun i i0 i1 => hok i i0 (by omega)⟩
      refine gg ?_
      exact grt () trivial
  · obtain rfl := fals (fun h => hl h.1)
    refine gg ?_
    exact grt () trivial
theorem refClassesE_c (w : World) (hA : Rds vi w A c l) (hm : ¬ clMay l) :
    Calls Try.prog 26 [.slice A l.length c].toArray w (one (.tuple #[.slice none 0 0, vi 240]) w) := by
  have oA := hA.old
  refine calls_wc [] [] [.tmp 2, .tmp 3] (fun _ => [.slice none 0 0, vi 240]) Try.func26 rfl rfl (fun _ => rfl) Try.ntmps26 rfl (Own.nil w) rfl ?_
  refine gg ?_
  by_cases hl : l.length ≤ 128
  · refine gg ?_
    refine gc1 (fun w hst => mayCol_c (m := l.length) w (oA.now hst) false (by
      constructor
      · intro h; cases h
      · intro h; exact (hm ⟨hl, h.2⟩).elim) (by omega)) (by exact rfl) ?_
    refine gg ?_
    exact grt () trivial
  · refine gg ?_
    exact grt () trivial
theorem refClasses_c (w : World) (hA : Rds vi w A c l) (hm : clMay l) :
    Calls Try.prog 26 [.slice A l.length c].toArray w (Ret [] (fun y : ClX => .tuple #[.slice y.A y.rows.length y.c, vi 0]) (fun y => [osl TIs sv y.A y.c (y.rows.map rwV), bun (y.rows.map rwR)]) (fun y => ClI l (numS l).toNat l.length y.rows) w) := by
  have oA := hA.old
  have hl := hm.1
  have hnr : ∀ k : Nat, 0 ≤ numS (l.take k) ∧ numS (l.take k) ≤ 65537 := fun k => numS_rng (l.take k) (m := 65537) (fun d hd => by
    obtain ⟨i, i0, i1, e⟩ := mem_gt (List.mem_of_mem_take hd)
    have := hm.2 i i0 i1
    omega) (by omega)
  refine calls_wc [] [] [.tmp 2, .tmp 3] (fun y : ClX => [.slice y.A y.rows.length y.c, vi 0]) Try.func26 rfl rfl (fun _ => rfl) Try.ntmps26 rfl (Own.nil w) rfl ?_
  refine gg ?_
  refine gc1 (fun w hst => mayCol_c (m := l.length) w (oA.now hst) true (by simp; exact fun i i0 i1 => hm.2 i i0 i1) (by omega)) (by exact rfl) ?_
  refine wl_none TIs sv ?_
  refine wl_bun [] ?_
  (repeat (first | refine gk1 ?_ | refine gk2 ?_ | refine gk3 ?_ | refine gk0 ?_ | refine gk4 ?_))
  refine gg ?_
  refine glp (fun s : ClX => 0 ≤ s.k ∧ s.k ≤ l.length ∧ ClI l s.rows.length s.k s.rows ∧ (s.rows.length : Int) = numS (l.take s.k.toNat)) (fun s => [(0, .slice A l.length c), (4, .slice s.A s.rows.length s.c), (5, vi s.k)])
    (fun s => [osl TIs sv s.A s.c (s.rows.map rwV), bun (s.rows.map rwR)]) (fun s => (l.length - s.k).toNat) ⟨0, none, 0, []⟩ ⟨by simp, by simp, ⟨rfl, fun d d0 d1 => by dsimp only [List.length_nil] at d1; omega⟩, rfl⟩ ?_
  rintro ⟨k, AA, cc, rows⟩ ⟨hk0, hk1, hI, hnm⟩
  dsimp only at hk0 hk1 hI hnm ⊢
  by_cases hk : k < l.length
  · have hc := hm.2 k hk0 hk
    have htk := take_next (l := l) hk0 hk
    have hsn : numS (l.take (k + 1).toNat) = max (numS (l.take k.toNat)) (gt l k + 1) := by rw [htk, numS_snoc]
    have h1r := hnr k.toNat
    refine gg ?_
    refine glp (fun s : ClX => ClI l s.rows.length k s.rows ∧ numS (l.take k.toNat) ≤ s.rows.length ∧ (s.rows.length : Int) ≤ numS (l.take (k + 1).toNat)) (fun s => [(0, .slice A l.length c), (4, .slice s.A s.rows.length s.c), (5, vi k)])
      (fun s => [osl TIs sv s.A s.c (s.rows.map rwV), bun (s.rows.map rwR)]) (fun s => (numS (l.take (k + 1).toNat) - s.rows.length).toNat) ⟨0, AA, cc, rows⟩ ⟨hI, by dsimp only; omega, by dsimp only; omega⟩ ?_
    clear hI hnm
    rintro ⟨_, AA, cc, rows⟩ ⟨hI, hn1, hn2⟩
    dsimp only at hI hn1 hn2 ⊢
    have hrl2 : (rows.map rwV).length = rows.length := List.length_map _
    by_cases hmore : (rows.length : Int) ≤ gt l k
    · have hI2 : ClI l (rows ++ [default]).length k (rows ++ [default]) := ⟨rfl, fun d d0 d1 => by
        rw [List.length_append, List.length_singleton] at d1
        by_cases e : d = rows.length
        · rw [posTo_nil (c := d) fun i i0 i1 h => by
            have := numS_max _ _ (take_mem (l := l) i0 i1 (by omega))
            omega]
          have e2 : d.toNat = rows.length := by omega
          rw [gt_elem d0 (by simp; omega)]
          simp only [e2]
          simp
          rfl
        · rw [← hI.at_ d d0 (by omega), gt_elem d0 (by simp; omega), gt_elem d0 (by omega), List.getElem_append_left (by omega)]⟩
      refine gg ?_
      refine wl_op (ok_build1 sv (none, 0, 0) rfl rfl rfl rfl rfl (el_of rfl) (ze_of rfl) rfl (sz_of rfl) rfl ?_)
      intro b1
      rw [← hrl2]
      refine wl_op (ok_append 1 sv (ys := [(none, 0, 0)]) rfl rfl rfl rfl rfl rfl rfl (el_of rfl) (ze_of rfl) rfl (sz_of rfl) (by_of rfl) ⟨_, rfl⟩ (fun w hst => osl_reads (hst.at_ 0 rfl)) (fun _ => rfl) (by simp; omega) (by simp; omega) ?_)
      intro A' c'
      refine wl_nilrow rows ?_
      (repeat (first | refine gk1 ?_ | refine gk2 ?_ | refine gk3 ?_ | refine gk0 ?_ | refine gk4 ?_))
      rw [show rows.map rwV ++ [(none, 0, 0)] = List.map rwV (rows ++ [(default : RW)]) by rw [List.map_append]; rfl]
      rw [show (List.map rwV (rows ++ [(default : RW)])).length = List.length (rows ++ [(default : RW)]) from List.length_map _]
      refine gg ?_
      exact gnx (⟨0, A', c', rows ++ [default]⟩ : ClX) ⟨hI2, by dsimp only; simp; omega, by dsimp only; simp; omega⟩ (by dsimp only; simp; omega)
    · have hnm : (rows.length : Int) = numS (l.take (k + 1).toNat) := by omega
      have hxl := posTo_len l (c := gt l k) hk0
      rw [← hI.at_ _ hc.1 (by omega)] at hxl
      have hnx : ∀ A' c', ClI l (rows.set (gt l k).toNat ⟨A', c', (gt rows (gt l k)).xs ++ [k]⟩).length (k + 1) (rows.set (gt l k).toNat ⟨A', c', (gt rows (gt l k)).xs ++ [k]⟩) := fun A' c' => by
        have := hI.next (A := A') (c' := c') hk0 hc.1 (by omega)
        rwa [List.length_set]
      refine wc_know (φ := ∃ ad, AA = some ad) (fun w hst => (grd (f := sv) (e := TIs) (A := AA) (c := cc) (xs := rows.map rwV) hst).ad_ (by omega)) ?_
      rintro ⟨ad, rfl⟩
      refine wc_take (rows := rows) (i := gt l k) hc.1 (by omega) ?_
      (repeat (first | refine gk1 ?_ | refine gk2 ?_ | refine gk3 ?_ | refine gk0 ?_ | refine gk4 ?_))
      generalize hr : gt rows (gt l k) = r at hxl hnx
      dsimp only [rwR]
      rw [← hrl2]
      refine gg ?_
      refine gwa [osl TIs sv (some ad) cc (rows.map rwV), osl TI vi r.A r.c r.xs] ?_
      (repeat (first | refine gk1 ?_ | refine gk2 ?_ | refine gk3 ?_ | refine gk0 ?_ | refine gk4 ?_))
      dsimp only [List.cons_append, List.nil_append]
      (first | refine ga1 0 (by exact rfl) (by exact rfl) ?_ | refine ga2 0 (by exact rfl) (by exact rfl) ?_ | refine ga3 0 (by exact rfl) (by exact rfl) ?_ | refine ga4 0 (by exact rfl) (by exact rfl) ?_)
      (first | refine ga1 1 (by exact rfl) (by exact rfl) ?_ | refine ga2 1 (by exact rfl) (by exact rfl) ?_ | refine ga3 1 (by exact rfl) (by exact rfl) ?_ | refine ga4 1 (by exact rfl) (by exact rfl) ?_)
      (first | refine ga1 2 (by exact rfl) (by exact rfl) ?_ | refine ga2 2 (by exact rfl) (by exact rfl) ?_ | refine ga3 2 (by exact rfl) (by exact rfl) ?_ | refine ga4 2 (by exact rfl) (by exact rfl) ?_)
      (first | refine ga1 3 (by exact rfl) (by exact rfl) ?_ | refine ga2 3 (by exact rfl) (by exact rfl) ?_ | refine ga3 3 (by exact rfl) (by exact rfl) ?_ | refine ga4 3 (by exact rfl) (by exact rfl) ?_)
      (first | refine ga1 4 (by exact rfl) (by exact rfl) ?_ | refine ga2 4 (by exact rfl) (by exact rfl) ?_ | refine ga3 4 (by exact rfl) (by exact rfl) ?_ | refine ga4 4 (by exact rfl) (by exact rfl) ?_)
      (first | refine ga1 5 (by exact rfl) (by exact rfl) ?_ | refine ga2 5 (by exact rfl) (by exact rfl) ?_ | refine ga3 5 (by exact rfl) (by exact rfl) ?_ | refine ga4 5 (by exact rfl) (by exact rfl) ?_)
      (first | refine ga1 6 (by exact rfl) (by exact rfl) ?_ | refine ga2 6 (by exact rfl) (by exact rfl) ?_ | refine ga3 6 (by exact rfl) (by exact rfl) ?_ | refine ga4 6 (by exact rfl) (by exact rfl) ?_)
      (first | refine ga1 7 (by exact rfl) (by exact rfl) ?_ | refine ga2 7 (by exact rfl) (by exact rfl) ?_ | refine ga3 7 (by exact rfl) (by exact rfl) ?_ | refine ga4 7 (by exact rfl) (by exact rfl) ?_)
      (first | refine ga1 8 (by exact rfl) (by exact rfl) ?_ | refine ga2 8 (by exact rfl) (by exact rfl) ?_ | refine ga3 8 (by exact rfl) (by exact rfl) ?_ | refine ga4 8 (by exact rfl) (by exact rfl) ?_)
      (first | refine ga1 9 (by exact rfl) (by exact rfl) ?_ | refine ga2 9 (by exact rfl) (by exact rfl) ?_ | refine ga3 9 (by exact rfl) (by exact rfl) ?_ | refine ga4 9 (by exact rfl) (by exact rfl) ?_)
      (first | refine ga1 10 (by exact rfl) (by exact rfl) ?_ | refine ga2 10 (by exact rfl) (by exact rfl) ?_ | refine ga3 10 (by exact rfl) (by exact rfl) ?_ | refine ga4 10 (by exact rfl) (by exact rfl) ?_)
      (first | refine ga1 12 (by exact rfl) (by exact rfl) ?_ | refine ga2 12 (by exact rfl) (by exact rfl) ?_ | refine ga3 12 (by exact rfl) (by exact rfl) ?_ | refine ga4 12 (by exact rfl) (by exact rfl) ?_)
      refine gaAll [11, 13] ?_
      intro j hj
      simp only [List.mem_cons, List.not_mem_nil, or_false] at hj
      rcases hj with rfl | rfl
      · refine ⟨_, rfl, ?_⟩
        refine gl0 (by exact rfl) ?_
        rw [map_rwV_at hc.1 (by omega), hr, show sv (rwV r) = .slice r.A r.xs.length r.c from rfl]
        refine ⟨by (repeat (first | exact Suf.refl | exact Suf.nil | exact Suf.app _ _ | apply Suf.cons)), ?_⟩
        refine gaOne 13 rfl ?_
        refine ok_build1 vi k rfl rfl rfl rfl rfl (el_of rfl) (ze_of rfl) rfl (sz_of rfl) rfl ?_
        intro b2
        refine ⟨by (repeat (first | exact Suf.refl | exact Suf.nil | exact Suf.app _ _ | apply Suf.cons)), ?_⟩
        refine gaOne 14 rfl ?_
        refine ok_append 2 vi (ys := [k]) rfl rfl rfl rfl rfl rfl rfl (el_of rfl) (ze_of rfl) rfl (sz_of rfl) (by_of rfl) ⟨_, rfl⟩ (fun w hst => osl_reads (hst.at_ 0 rfl)) (fun _ => rfl) (by simp; omega) (by simp; omega) ?_
        intro A' c'
        refine ⟨by (repeat (first | exact Suf.refl | exact Suf.nil | exact Suf.app _ _ | apply Suf.cons)), ?_⟩
        (first | refine ga1 15 (by exact rfl) (by exact rfl) ?_ | refine ga2 15 (by exact rfl) (by exact rfl) ?_ | refine ga3 15 (by exact rfl) (by exact rfl) ?_ | refine ga4 15 (by exact rfl) (by exact rfl) ?_)
        refine gaOne 16 rfl ?_
        refine gt0 (by exact rfl) ?_ (hv := .there (.r (x := (A', (r.xs ++ [k]).length, c')) rfl rfl hc.1 (by omega)))
        rw [show (rows.map rwV).set (gt l k).toNat (A', (r.xs ++ [k]).length, c') = (rows.set (gt l k).toNat ⟨A', c', r.xs ++ [k]⟩).map rwV by rw [List.map_set]]
        refine ⟨by (repeat (first | exact Suf.refl | exact Suf.nil | exact Suf.app _ _ | apply Suf.cons)), ?_⟩
        refine gaDone ?_
        refine wc_give (rows := rows) (i := gt l k) ⟨A', c', r.xs ++ [k]⟩ hc.1 (by omega) ?_
        (repeat (first | refine gk1 ?_ | refine gk2 ?_ | refine gk3 ?_ | refine gk0 ?_ | refine gk4 ?_))
        refine gg ?_
        rw [show (rows.map rwV).length = (rows.set (gt l k).toNat ⟨A', c', r.xs ++ [k]⟩).length by simp]
        exact gnx (⟨k + 1, some ad, cc, rows.set (gt l k).toNat ⟨A', c', r.xs ++ [k]⟩⟩ : ClX) ⟨by dsimp only; omega, by dsimp only; omega, hnx A' c', by dsimp only; rw [List.length_set, hnm]⟩ (by dsimp only; omega)
      · refine ⟨_, rfl, ?_⟩
        refine ok_build1 vi k rfl rfl rfl rfl rfl (el_of rfl) (ze_of rfl) rfl (sz_of rfl) rfl ?_
        intro b2
        refine ⟨by (repeat (first | exact Suf.refl | exact Suf.nil | exact Suf.app _ _ | apply Suf.cons)), ?_⟩
        refine gaOne 11 rfl ?_
        refine gl0 (by exact rfl) ?_
        rw [map_rwV_at hc.1 (by omega), hr, show sv (rwV r) = .slice r.A r.xs.length r.c from rfl]
        refine ⟨by (repeat (first | exact Suf.refl | exact Suf.nil | exact Suf.app _ _ | apply Suf.cons)), ?_⟩
        refine gaOne 14 rfl ?_
        refine ok_append 2 vi (ys := [k]) rfl rfl rfl rfl rfl rfl rfl (el_of rfl) (ze_of rfl) rfl (sz_of rfl) (by_of rfl) ⟨_, rfl⟩ (fun w hst => osl_reads (hst.at_ 0 rfl)) (fun _ => rfl) (by simp; omega) (by simp; omega) ?_
        intro A' c'
        refine ⟨by (repeat (first | exact Suf.refl | exact Suf.nil | exact Suf.app _ _ | apply Suf.cons)), ?_⟩
        (first | refine ga1 15 (by exact rfl) (by exact rfl) ?_ | refine ga2 15 (by exact rfl) (by exact rfl) ?_ | refine ga3 15 (by exact rfl) (by exact rfl) ?_ | refine ga4 15 (by exact rfl) (by exact rfl) ?_)
        refine gaOne 16 rfl ?_
        refine gt0 (by exact rfl) ?_ (hv := .there (.r (x := (A', (r.xs ++ [k]).length, c')) rfl rfl hc.1 (by omega)))
        rw [show (rows.map rwV).set (gt l k).toNat (A', (r.xs ++ [k]).length, c') = (rows.set (gt l k).toNat ⟨A', c', r.xs ++ [k]⟩).map rwV by rw [List.map_set]]
        refine ⟨by (repeat (first | exact Suf.refl | exact Suf.nil | exact Suf.app _ _ | apply Suf.cons)), ?_⟩
        refine gaDone ?_
        refine wc_give (rows := rows) (i := gt l k) ⟨A', c', r.xs ++ [k]⟩ hc.1 (by omega) ?_
        (repeat (first | refine gk1 ?_ | refine gk2 ?_ | refine gk3 ?_ | refine gk0 ?_ | refine gk4 ?_))
        refine gg ?_
        rw [show (rows.map rwV).length = (rows.set (gt l k).toNat ⟨A', c', r.xs ++ [k]⟩).length by simp]
        exact gnx (⟨k + 1, some ad, cc, rows.set (gt l k).toNat ⟨A', c', r.xs ++ [k]⟩⟩ : ClX) ⟨by dsimp only; omega, by dsimp only; omega, hnx A' c', by dsimp only; rw [List.length_set, hnm]⟩ (by dsimp only; omega)
  · obtain rfl : k = l.length := by omega
    rw [Int.toNat_natCast, List.take_of_length_le (Nat.le_refl _)] at hnm
    rw [show rows.length = (numS l).toNat by omega] at hI
    refine gg ?_
    exact grt (⟨0, AA, cc, rows⟩ : ClX) hI
end
end Go.Proofs.Ytoiiellaoikojaa
