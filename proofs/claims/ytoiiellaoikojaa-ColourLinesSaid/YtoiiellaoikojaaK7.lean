/- Walks: colours: Classes. -/
import Derived.Test.YtoiiellaoikojaaK6
set_option linter.unusedVariables false
set_option linter.unusedSimpArgs false
set_option maxHeartbeats 8000000
namespace Go.Proofs.Ytoiiellaoikojaa
open Go.RowKit
/-! ### lists of lists of our own -/
structure RW where
  A : Option Addr
  c : Nat
  xs : List Int
instance : Inhabited RW := ⟨⟨none, 0, []⟩⟩
abbrev rwV (r : RW) : SV := (r.A, r.xs.length, r.c)
abbrev rwR (r : RW) : Res := osl TI vi r.A r.c r.xs
section
variable {P : Program} {n : Nat} {w0 w : World} {D : List Nat} {Γ : Tm} {σ : List Res} {ops : Array Oper} {os : List Oper} {Q : QQ}
theorem take_at {rows : List RW} {i : Int} (h0 : 0 ≤ i) (h1 : i < rows.length) : (rows.map rwR).Perm (rwR (gt rows i) :: ((rows.take i.toNat).map rwR ++ (rows.drop (i.toNat + 1)).map rwR)) := by
  have e : rows = rows.take i.toNat ++ gt rows i :: rows.drop (i.toNat + 1) := by
    rw [gt_elem h0 (by omega)]; simp
  conv => lhs; rw [e]
  rw [List.map_append, List.map_cons]
  exact List.perm_middle
theorem set_at {rows : List RW} {i : Int} (r : RW) (h0 : 0 ≤ i) (h1 : i < rows.length) : ((rows.set i.toNat r).map rwR).Perm (rwR r :: ((rows.take i.toNat).map rwR ++ (rows.drop (i.toNat + 1)).map rwR)) := by
  rw [List.set_eq_take_append_cons_drop, if_pos (by omega), List.map_append, List.map_cons]
  exact List.perm_middle
/-- a row is taken out -/
theorem wl_take {rows : List RW} {i : Int} (h0 : 0 ≤ i) (h1 : i < rows.length) (h : PickK (bun (rows.map rwR)) σ (fun σ' => WL P n w0 D ops os Q Γ (rwR (gt rows i) :: bun ((rows.take i.toNat).map rwR ++ (rows.drop (i.toNat + 1)).map rwR) :: σ'))) : WL P n w0 D ops os Q Γ σ := by
  obtain ⟨σ', hp, h⟩ := h
  refine .mk fun a w hs hst => h.run a w hs ?_
  have h2 := bun_out (hst.perm hp)
  have h3 := h2.perm ((take_at h0 h1).symm.append_right σ')
  have h4 : St w0 D (((rows.take i.toNat).map rwR ++ (rows.drop (i.toNat + 1)).map rwR) ++ (rwR (gt rows i) :: σ')) w := h3.perm (by
    rw [List.cons_append]
    exact List.perm_middle)
  exact (bun_in h4).perm (List.Perm.swap _ _ _)
/-- a row is put back -/
theorem wc_give {cd : Code} {rows : List RW} {i : Int} (r : RW) (h0 : 0 ≤ i) (h1 : i < rows.length) (h : SubK [rwR r, bun ((rows.take i.toNat).map rwR ++ (rows.drop (i.toNat + 1)).map rwR)] σ (fun σ' => WC P n w0 D cd Q Γ (bun ((rows.set i.toNat r).map rwR) :: σ'))) : WC P n w0 D cd Q Γ σ := by
  obtain ⟨rest, hp, h⟩ := h
  refine .mk fun a w hs hst => h.run a w hs ?_
  have h2 : St w0 D (bun ((rows.take i.toNat).map rwR ++ (rows.drop (i.toNat + 1)).map rwR) :: (rwR r :: rest)) w := (hst.perm hp).perm (List.Perm.swap _ _ _)
  have h3 := bun_out h2
  refine bun_in (h3.perm ?_)
  refine (List.Perm.append_right rest (set_at r h0 h1)).trans ?_
  rw [List.cons_append]
  exact List.perm_middle.symm
theorem wl_give {rows : List RW} {i : Int} (r : RW) (h0 : 0 ≤ i) (h1 : i < rows.length) (h : SubK [rwR r, bun ((rows.take i.toNat).map rwR ++ (rows.drop (i.toNat + 1)).map rwR)] σ (fun σ' => WL P n w0 D ops os Q Γ (bun ((rows.set i.toNat r).map rwR) :: σ'))) : WL P n w0 D ops os Q Γ σ := by
  obtain ⟨rest, hp, h⟩ := h
  refine .mk fun a w hs hst => h.run a w hs ?_
  have h2 : St w0 D (bun ((rows.take i.toNat).map rwR ++ (rows.drop (i.toNat + 1)).map rwR) :: (rwR r :: rest)) w := (hst.perm hp).perm (List.Perm.swap _ _ _)
  have h3 := bun_out h2
  refine bun_in (h3.perm ?_)
  refine (List.Perm.append_right rest (set_at r h0 h1)).trans ?_
  rw [List.cons_append]
  exact List.perm_middle.symm
theorem bun_nils (m : Nat) (h : St w0 D σ w) : St w0 D (bun ((List.replicate m (default : RW)).map rwR) :: σ) w := by
  refine bun_in ?_
  induction m with
  | zero => exact h
  | succ m ih =>
    rw [List.replicate_succ, List.map_cons, List.cons_append]
    exact pk_nil ih
theorem wl_nils (m : Nat) (h : WL P n w0 D ops os Q Γ (bun ((List.replicate m (default : RW)).map rwR) :: σ)) : WL P n w0 D ops os Q Γ σ := .mk fun a w hs hst => h.run a w hs (bun_nils m hst)
theorem wl_nilrow (rows : List RW) (h : PickK (bun (rows.map rwR)) σ (fun σ' => WL P n w0 D ops os Q Γ (bun ((rows ++ [default]).map rwR) :: σ'))) : WL P n w0 D ops os Q Γ σ := by
  obtain ⟨σ', hp, h⟩ := h
  refine .mk fun a w hs hst => h.run a w hs ?_
  have h2 : St w0 D (rwR default :: (rows.map rwR ++ σ')) w := pk_nil (bun_out (hst.perm hp))
  refine bun_in (h2.perm ?_)
  rw [List.map_append, List.append_assoc]
  exact List.perm_middle
end
/-! ### the things of each colour -/
def posTo (l : List Int) (i c : Int) : List Int := (rng i.toNat).filter (fun v => gt l v == c)
theorem posTo_zero (l : List Int) (c : Int) : posTo l 0 c = [] := rfl
theorem posTo_next {l : List Int} {i : Int} (h : 0 ≤ i) (c : Int) : posTo l (i + 1) c = if gt l i = c then posTo l i c ++ [i] else posTo l i c := by
  unfold posTo rng
  rw [show (i + 1).toNat = i.toNat + 1 by omega, List.range_succ, List.map_append, List.filter_append]
  simp only [List.map_cons, List.map_nil]
  rw [show ((i.toNat : Nat) : Int) = i by omega]
  by_cases e : gt l i = c
  · rw [if_pos e, List.filter_cons_of_pos (by simpa using e), List.filter_nil]
  · rw [if_neg e, List.filter_cons_of_neg (by simpa using e), List.filter_nil, List.append_nil]
theorem posTo_len (l : List Int) {i c : Int} (h : 0 ≤ i) : ((posTo l i c).length : Int) ≤ i := by
  have := List.length_filter_le (fun v => gt l v == c) (rng i.toNat)
  unfold posTo
  have h2 : (rng i.toNat).length = i.toNat := by simp [rng]
  omega
def clMay (l : List Int) : Prop := l.length ≤ 128 ∧ ∀ i : Int, 0 ≤ i → i < l.length → 0 ≤ gt l i ∧ gt l i ≤ 65536
theorem numS_max : ∀ (l : List Int) (c : Int), c ∈ l → c + 1 ≤ numS l := by
  have key : ∀ (l : List Int) (a : Int), a ≤ l.foldl (fun n c => max n (c + 1)) a ∧ ∀ c ∈ l, c + 1 ≤ l.foldl (fun n c => max n (c + 1)) a := by
    intro l
    induction l with
    | nil => intro a; exact ⟨Int.le_refl _, fun c h => by simp at h⟩
    | cons x l ih =>
      intro a
      obtain ⟨h1, h2⟩ := ih (max a (x + 1))
      refine ⟨Int.le_trans (show a ≤ max a (x + 1) by omega) h1, fun c hc => ?_⟩
      rcases List.mem_cons.1 hc with rfl | hc
      · have : c + 1 ≤ max a (c + 1) := by omega
        exact Int.le_trans this h1
      · exact h2 c hc
  exact fun l c h => (key l 0).2 c h
/-- the rows so far -/
structure ClI (l : List Int) (m : Nat) (i : Int) (rows : List RW) : Prop where
  len : rows.length = m
  at_ : ∀ c : Int, 0 ≤ c → c < m → (gt rows c).xs = posTo l i c
theorem gt_setR {rows : List RW} {i j : Int} {r : RW} (h0 : 0 ≤ i) (h1 : i < rows.length) (hj : 0 ≤ j) : gt (rows.set i.toNat r) j = if j = i then r else gt rows j := by
  unfold gt
  simp only [List.getD_eq_getElem?_getD, List.getElem?_set]
  by_cases h : j = i
  · subst h; rw [if_pos rfl, if_pos rfl, if_pos (by omega)]; rfl
  · rw [if_neg (by omega), if_neg h]
theorem ClI.next {l : List Int} {m : Nat} {i : Int} {rows : List RW} {A : Option Addr} {c' : Nat} (h : ClI l m i rows) (i0 : 0 ≤ i) (c0 : 0 ≤ gt l i) (c1 : gt l i < m) : ClI l m (i + 1) (rows.set (gt l i).toNat ⟨A, c', (gt rows (gt l i)).xs ++ [i]⟩) := by
  have hl := h.len
  refine ⟨by rw [List.length_set]; exact hl, fun c c0' c1' => ?_⟩
  rw [gt_setR c0 (by omega) c0', posTo_next i0]
  by_cases e : c = gt l i
  · rw [if_pos e, if_pos e.symm, e, h.at_ _ c0 c1]
  · rw [if_neg e, if_neg (fun h => e h.symm)]
    exact h.at_ c c0' c1'
theorem ClI.zero (l : List Int) (m : Nat) : ClI l m 0 (List.replicate m default) := by
  refine ⟨by simp, fun c c0 c1 => ?_⟩
  rw [gt_elem c0 (by simpa using c1)]
  simp only [List.getElem_replicate]
  rfl
theorem map_rwV_at {rows : List RW} {i : Int} (h0 : 0 ≤ i) (h1 : i < rows.length) : gt (rows.map rwV) i = rwV (gt rows i) := by
  rw [gt_elem h0 (by simpa using h1), gt_elem h0 (by simpa using h1)]
  simp
structure ClX where
  k : Int
  A : Option Addr
  c : Nat
  rows : List RW
section
variable {A : Option Addr} {c : Nat} {l : List Int}
theorem classes_c (w : World) (hA : Rds vi w A c l) (hm : clMay l) :
    Calls Try.prog 25 [.slice A l.length c].toArray w (Ret [] (fun y : ClX => .tuple #[.slice y.A y.rows.length y.c, vi 0]) (fun y => [osl TIs sv y.A y.c (y.rows.map rwV), bun (y.rows.map rwR)]) (fun y => ClI l (numS l).toNat l.length y.rows) w) := by
  have oA := hA.old
  have hl := hm.1
  have hmr : ∀ d ∈ l, -1 ≤ d ∧ d < 100000 := fun d hd => by
    obtain ⟨i, i0, i1, e⟩ := mem_gt hd
    have := hm.2 i i0 i1
    omega
  have hnr := numS_rng l (m := 65537) (fun d hd => by
    obtain ⟨i, i0, i1, e⟩ := mem_gt hd
    have := hm.2 i i0 i1
    omega) (by omega)
  refine calls_wc [] [] [.tmp 2, .tmp 3] (fun y : ClX => [.slice y.A y.rows.length y.c, vi 0]) Try.func25 rfl rfl (fun _ => rfl) Try.ntmps25 rfl (Own.nil w) rfl ?_
  refine gg ?_
  refine glp (fun k : Int => 0 ≤ k ∧ k ≤ l.length) (fun k => [(0, .slice A l.length c), (12, .slice A l.length c), (13, vi l.length), (14, vi k)]) (fun _ => []) (fun k => (l.length - k).toNat) 0 ⟨by omega, by omega⟩ ?_
  rintro k ⟨hk0, hk1⟩
  by_cases hk : k < l.length
  · have hc := hm.2 k hk0 hk
    refine gg ?_
    exact gnx (k + 1) ⟨by omega, by omega⟩ (by omega)
  obtain rfl : k = l.length := by omega
  clear hk hk0 hk1
  refine gg ?_
  refine gc1 (fun w hst => number_c w (oA.now hst) hmr (by omega)) (by exact rfl) ?_
  refine gmk sv (none, 0, 0) rfl rfl rfl rfl rfl rfl rfl rfl rfl rfl rfl hnr.1 (Int.le_refl _) (by omega) (by omega) ?_
  intro ob
  refine wl_nils (numS l).toNat ?_
  refine gg ?_
  refine glp (fun s : ClX => 0 ≤ s.k ∧ s.k ≤ l.length ∧ ClI l (numS l).toNat s.k s.rows) (fun s => [(6, .slice (some ⟨ob, 0, none⟩) (numS l).toNat (numS l).toNat), (28, .slice A l.length c), (29, vi l.length), (30, vi s.k)])
    (fun s => [osl TIs sv (some ⟨ob, 0, none⟩) (numS l).toNat (s.rows.map rwV), bun (s.rows.map rwR)]) (fun s => (l.length - s.k).toNat) ⟨0, none, 0, List.replicate (numS l).toNat default⟩ ⟨by simp, by simp, ClI.zero l _⟩ ?_ (hM := by
      dsimp only
      rw [List.map_replicate]
      refine SubK.e ?_
      (repeat (first | refine gk1 ?_ | refine gk2 ?_ | refine gk3 ?_ | refine gk0 ?_ | refine gk4 ?_))
      trivial)
  rintro ⟨k, _, _, rows⟩ ⟨hk0, hk1, hI⟩
  dsimp only at hk0 hk1 hI ⊢
  have hrl := hI.len
  have hrl2 : (rows.map rwV).length = rows.length := List.length_map _
  by_cases hk : k < l.length
  · have hc := hm.2 k hk0 hk
    have hcm := numS_max l _ (gt_mem (xs := l) hk0 hk)
    refine gg ?_
    rw [map_rwV_at hc.1 (by omega)]
    have hxl := posTo_len l (c := gt l k) hk0
    rw [← hI.at_ _ hc.1 (by omega)] at hxl
    have hnx := fun A' c' => hI.next (A := A') (c' := c') hk0 hc.1 (by omega)
    refine wl_take (rows := rows) (i := gt l k) hc.1 (by omega) ?_
    (repeat (first | refine gk1 ?_ | refine gk2 ?_ | refine gk3 ?_ | refine gk0 ?_ | refine gk4 ?_))
    generalize gt rows (gt l k) = r at hxl hnx
    rw [show sv (rwV r) = .slice r.A r.xs.length r.c from rfl]
    dsimp only [rwR]
    refine gpush (by exact rfl) (fun _ => by exact rfl) ?_ (hl := by omega)
    intro _ A' c'
    refine gg ?_
    refine gt1 (by exact rfl) ?_ (hv := by first | exact .r (x := (A', (r.xs ++ [k]).length, c')) rfl rfl hc.1 (by omega) | exact .there (.r (x := (A', (r.xs ++ [k]).length, c')) rfl rfl hc.1 (by omega)) | exact .there (.there (.r (x := (A', (r.xs ++ [k]).length, c')) rfl rfl hc.1 (by omega))))
    rw [show (rows.map rwV).set (gt l k).toNat (A', (r.xs ++ [k]).length, c') = (rows.set (gt l k).toNat ⟨A', c', r.xs ++ [k]⟩).map rwV by rw [List.map_set]]
    refine wl_give (rows := rows) (i := gt l k) ⟨A', c', r.xs ++ [k]⟩ hc.1 (by omega) ?_
    (repeat (first | refine gk1 ?_ | refine gk2 ?_ | refine gk3 ?_ | refine gk0 ?_ | refine gk4 ?_))
    refine gg ?_
    exact gnx (⟨k + 1, none, 0, rows.set (gt l k).toNat ⟨A', c', r.xs ++ [k]⟩⟩ : ClX) ⟨by dsimp only; omega, by dsimp only; omega, hnx A' c'⟩ (by dsimp only; omega)
  · obtain rfl : k = l.length := by omega
    refine gg ?_
    exact grt (⟨0, some ⟨ob, 0, none⟩, (numS l).toNat, rows⟩ : ClX) hI (h1 := ⟨.t (look_to rfl (by rw [hrl])), .t rfl, trivial⟩)
end
end Go.Proofs.Ytoiiellaoikojaa
