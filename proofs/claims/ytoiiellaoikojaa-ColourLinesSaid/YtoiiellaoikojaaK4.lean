/- Walks: colours: forbid. -/
import Derived.Test.YtoiiellaoikojaaK3
set_option linter.unusedVariables false
set_option linter.unusedSimpArgs false
set_option maxHeartbeats 8000000
namespace Go.Proofs.Ytoiiellaoikojaa
open Go.RowKit
/-- what the first k beside v forbid -/
def forbTo (g : Pat) (n : Nat) (cs : List Int) (kd v k : Int) (c : Int) : Prop := ∃ j : Int, 0 ≤ j ∧ j < k ∧ 0 ≤ gt cs (gt (rowL g v) j) ∧ (gt cs (gt (rowL g v) j) = c ∨ (kd = 4 ∧ pathTo g n cs v (gt (rowL g v) j) (rowL g (gt (rowL g v) j)).length c))
section
variable {z : GyX} {n : Nat} {k : Int} {y : PA} {g : Pat} {R : List Res} {cs M : List Int} {ct v u : Int}
theorem forb_all (hm : May g) (hn : g.rows = n) (hsq : g.rows = g.width) (v0 : 0 ≤ v) (v1 : v < n) {c : Int} (c0 : 0 ≤ c) : forbTo g n cs k v (rowL g v).length c ↔ (badN (hasB g) n cs v c || (decide (k = 4) && badS (hasB g) n cs v c)) = true := by
  have rN : ∀ {a b : Int}, hasB g a b = true → 0 ≤ a ∧ a < n ∧ 0 ≤ b ∧ b < n := fun h => by
    have := (hasB_iff.1 h).in_ hm
    omega
  rw [Bool.or_eq_true, Bool.and_eq_true, decide_eq_true_iff]
  unfold badN badS
  rw [anyI_iff, anyI_iff]
  constructor
  · rintro ⟨j, j0, j1, h0, h | ⟨h4, i, i0, i1, h2, h3, h5, h6⟩⟩
    · have hb := (rowL_mem hm v0 (by omega)).2 ⟨j, j0, j1, rfl⟩
      exact .inl ⟨_, (rN hb).2.2, by rw [hb, h]; simp⟩
    · have hb := (rowL_mem hm v0 (by omega)).2 ⟨j, j0, j1, rfl⟩
      have hu := (rN hb).2.2
      have hb2 := (rowL_mem hm hu.1 (by omega)).2 ⟨i, i0, i1, rfl⟩
      have hx := (rN hb2).2.2
      refine .inr ⟨h4, _, hu, ?_⟩
      rw [Bool.and_eq_true, Bool.and_eq_true, decide_eq_true_iff, anyI_iff]
      refine ⟨⟨hb, h0⟩, _, hx, ?_⟩
      simp only [Bool.and_eq_true, Bool.or_eq_true, bne_iff_ne, beq_iff_eq]
      exact ⟨⟨hb2, h2, h5⟩, h6⟩
  · rintro (⟨u, hu, h⟩ | ⟨h4, u, hu, h⟩)
    · rw [Bool.and_eq_true, beq_iff_eq] at h
      obtain ⟨j, j0, j1, e⟩ := (rowL_mem hm v0 (by omega)).1 h.1
      exact ⟨j, j0, j1, by rw [e]; omega, .inl (by rw [e]; exact h.2)⟩
    · rw [Bool.and_eq_true, Bool.and_eq_true, decide_eq_true_iff, anyI_iff] at h
      obtain ⟨⟨h1, h2⟩, x, hx, h3⟩ := h
      simp only [Bool.and_eq_true, Bool.or_eq_true, bne_iff_ne, beq_iff_eq] at h3
      obtain ⟨j, j0, j1, e⟩ := (rowL_mem hm v0 (by omega)).1 h1
      obtain ⟨i, i0, i1, e2⟩ := (rowL_mem hm hu.1 (by omega)).1 h3.1.1
      exact ⟨j, j0, j1, by rw [e]; exact h2, .inr ⟨h4, i, i0, by rw [e]; exact i1, by rw [e, e2]; exact h3.1.2.1, by rw [e, e2]; omega, by rw [e, e2]; exact h3.1.2.2, by rw [e, e2]; exact h3.2⟩⟩
theorem forbid_c (w : World) (hm : May g) (hn : g.rows = n) (hsq : g.rows = g.width) (hcs : CsOK n cs) (hM : M.length = n + 1) (v0 : 0 ≤ v) (v1 : v < n) (hrd : RdB w ((GrI z n k y g R cs M ct).flatMap Res.fp) R y g) (hw : Own (GrI z n k y g R cs M ct) w) :
    Calls Try.prog 61 [.pointer (some ⟨z.gb, 0, none⟩), vi v].toArray w (Ret (GrI z n k y g R cs M ct) (fun _ : List Int => .tuple #[]) (fun M' => GrI z n k y g R cs M' ct) (fun M' => Mk n M ct (fun c => (badN (hasB g) n cs v c || (decide (k = 4) && badS (hasB g) n cs v c)) = true) M') w) := by
  have HG := hm.toHead
  have hn2 := HG.r1
  have hcl := hcs.len
  have hnl := nearTo_len y g (k := g.rows) HG.r0
  have hsv := rowL_small (v := v) hm v0 (by omega)
  refine calls_wc ((GrI z n k y g R cs M ct).flatMap Res.fp) (GrI z n k y g R cs M ct) [] (fun _ => []) Try.func61 rfl rfl (fun _ => rfl) Try.ntmps61 rfl hw rfl ?_
  have rowR : ∀ {a : Int}, 0 ≤ a → a < n → ∀ {w' : World} {σ : List Res}, St w ((GrI z n k y g R cs M ct).flatMap Res.fp) σ w' → HasR σ (bun R) → Rds vi w' (rowB y g a) (rowL g a).length (rowL g a) := fun a0 a1 _ _ hst hb => rowL_rd HG a0 (by omega) (hrd.now hst hb)
  have rowN : ∀ {a : Int}, 0 ≤ a → a < n → ∀ j : Int, 0 ≤ j → j < (rowL g a).length → 0 ≤ gt (rowL g a) j ∧ gt (rowL g a) j < n := fun a0 a1 j j0 j1 => by
    have hb := (rowL_mem hm a0 (by omega)).2 ⟨j, j0, j1, rfl⟩
    have := ((hasB_iff.1 hb).in_ hm).2
    omega
  dsimp only [GrI]
  refine gg ?_
  rw [nearTo_at y g v0 (by omega), rowV_eq HG v0 (by omega)]
  dsimp only [sv]
  refine glp (fun s : PtX => 0 ≤ s.k ∧ s.k ≤ (rowL g v).length ∧ Mk n M ct (forbTo g n cs k v s.k) s.M) (fun s => [(0, .pointer (some ⟨z.gb, 0, none⟩)), (1, vi v), (15, .slice (rowB y g v) (rowL g v).length (rowL g v).length), (16, vi (rowL g v).length), (17, vi s.k)])
    (fun s => GrI z n k y g R cs s.M ct) (fun s => ((rowL g v).length - s.k).toNat) ⟨0, false, M⟩ ⟨by simp, by simp, (Mk.zero hM).congr fun c _ _ => ⟨fun h => h.elim, fun ⟨j, j0, j1, _⟩ => by dsimp only at j1; omega⟩⟩ ?_
  rintro ⟨j, _, M'⟩ ⟨hj0, hj1, hMk⟩
  dsimp only at hj0 hj1 hMk ⊢
  have hMl := hMk.len
  by_cases hj : j < (rowL g v).length
  · have hx := rowN v0 v1 j hj0 hj
    have hcx := hcs.rng _ hx.1 hx.2
    refine wc_know (φ := ∃ ad, rowB y g v = some ad) (fun w hst => (rowR v0 v1 hst (by (repeat (first | exact .here | refine .there ?_)))).ad_ (by omega)) ?_
    rintro ⟨sa, hsa⟩
    rw [hsa]
    dsimp only [GrI]
    refine gg ?_
    refine wl_v rfl rfl rfl (val_load rfl rfl (ag_of rfl) (fun w hst => by rw [← hsa]; exact (rowR v0 v1 hst (by (repeat (first | exact .here | refine .there ?_)))).cell hj0 hj)) ?_
    by_cases e1 : gt cs (gt (rowL g v) j) = -1
    · have hnx : Mk n M ct (forbTo g n cs k v (j + 1)) M' := hMk.congr fun c _ _ => ⟨fun ⟨i, i0, i1, hi⟩ => ⟨i, i0, by omega, hi⟩, fun ⟨i, i0, i1, hi⟩ => by
        by_cases e : i = j
        · rw [e] at hi; have := hi.1; omega
        · exact ⟨i, i0, by omega, hi⟩⟩
      refine gg ?_
      exact gnx (⟨j + 1, false, M'⟩ : PtX) ⟨by dsimp only; omega, by dsimp only; omega, hnx⟩ (by dsimp only; omega)
    generalize hxx : gt (rowL g v) j = xx at hx hcx e1
    have hput : Mk n M ct (fun c => forbTo g n cs k v j c ∨ c = gt cs xx) (M'.set (gt cs xx).toNat ct) := hMk.put (by omega) (by omega) fun c _ _ => Iff.rfl
    have hl2 := hput.len
    refine gg ?_
    refine gwa [osl TI vi (some ⟨z.mb, 0, none⟩) (n + 1) M'] ?_
    (repeat (first | refine gk1 ?_ | refine gk2 ?_ | refine gk3 ?_ | refine gk0 ?_ | refine gk4 ?_))
    dsimp only [List.cons_append, List.nil_append]
    (first | refine ga1 0 (by exact rfl) (by exact rfl) ?_ | refine ga2 0 (by exact rfl) (by exact rfl) ?_ | refine ga3 0 (by exact rfl) (by exact rfl) ?_ | refine ga4 0 (by exact rfl) (by exact rfl) ?_)
    (first | refine ga1 1 (by exact rfl) (by exact rfl) ?_ | refine ga2 1 (by exact rfl) (by exact rfl) ?_ | refine ga3 1 (by exact rfl) (by exact rfl) ?_ | refine ga4 1 (by exact rfl) (by exact rfl) ?_)
    (first | refine ga1 2 (by exact rfl) (by exact rfl) ?_ | refine ga2 2 (by exact rfl) (by exact rfl) ?_ | refine ga3 2 (by exact rfl) (by exact rfl) ?_ | refine ga4 2 (by exact rfl) (by exact rfl) ?_)
    (first | refine ga1 3 (by exact rfl) (by exact rfl) ?_ | refine ga2 3 (by exact rfl) (by exact rfl) ?_ | refine ga3 3 (by exact rfl) (by exact rfl) ?_ | refine ga4 3 (by exact rfl) (by exact rfl) ?_)
    (first | refine ga1 4 (by exact rfl) (by exact rfl) ?_ | refine ga2 4 (by exact rfl) (by exact rfl) ?_ | refine ga3 4 (by exact rfl) (by exact rfl) ?_ | refine ga4 4 (by exact rfl) (by exact rfl) ?_)
    (first | refine ga1 5 (by exact rfl) (by exact rfl) ?_ | refine ga2 5 (by exact rfl) (by exact rfl) ?_ | refine ga3 5 (by exact rfl) (by exact rfl) ?_ | refine ga4 5 (by exact rfl) (by exact rfl) ?_)
    (first | refine ga1 6 (by exact rfl) (by exact rfl) ?_ | refine ga2 6 (by exact rfl) (by exact rfl) ?_ | refine ga3 6 (by exact rfl) (by exact rfl) ?_ | refine ga4 6 (by exact rfl) (by exact rfl) ?_)
    (first | refine ga1 7 (by exact rfl) (by exact rfl) ?_ | refine ga2 7 (by exact rfl) (by exact rfl) ?_ | refine ga3 7 (by exact rfl) (by exact rfl) ?_ | refine ga4 7 (by exact rfl) (by exact rfl) ?_)
    (first | refine ga1 8 (by exact rfl) (by exact rfl) ?_ | refine ga2 8 (by exact rfl) (by exact rfl) ?_ | refine ga3 8 (by exact rfl) (by exact rfl) ?_ | refine ga4 8 (by exact rfl) (by exact rfl) ?_)
    (first | refine ga1 9 (by exact rfl) (by exact rfl) ?_ | refine ga2 9 (by exact rfl) (by exact rfl) ?_ | refine ga3 9 (by exact rfl) (by exact rfl) ?_ | refine ga4 9 (by exact rfl) (by exact rfl) ?_)
    (first | refine ga1 10 (by exact rfl) (by exact rfl) ?_ | refine ga2 10 (by exact rfl) (by exact rfl) ?_ | refine ga3 10 (by exact rfl) (by exact rfl) ?_ | refine ga4 10 (by exact rfl) (by exact rfl) ?_)
    (first | refine ga1 11 (by exact rfl) (by exact rfl) ?_ | refine ga2 11 (by exact rfl) (by exact rfl) ?_ | refine ga3 11 (by exact rfl) (by exact rfl) ?_ | refine ga4 11 (by exact rfl) (by exact rfl) ?_)
    (first | refine ga1 12 (by exact rfl) (by exact rfl) ?_ | refine ga2 12 (by exact rfl) (by exact rfl) ?_ | refine ga3 12 (by exact rfl) (by exact rfl) ?_ | refine ga4 12 (by exact rfl) (by exact rfl) ?_)
    (first | refine ga1 13 (by exact rfl) (by exact rfl) ?_ | refine ga2 13 (by exact rfl) (by exact rfl) ?_ | refine ga3 13 (by exact rfl) (by exact rfl) ?_ | refine ga4 13 (by exact rfl) (by exact rfl) ?_)
    (first | refine ga1 14 (by exact rfl) (by exact rfl) ?_ | refine ga2 14 (by exact rfl) (by exact rfl) ?_ | refine ga3 14 (by exact rfl) (by exact rfl) ?_ | refine ga4 14 (by exact rfl) (by exact rfl) ?_)
    (first | refine ga1 15 (by exact rfl) (by exact rfl) ?_ | refine ga2 15 (by exact rfl) (by exact rfl) ?_ | refine ga3 15 (by exact rfl) (by exact rfl) ?_ | refine ga4 15 (by exact rfl) (by exact rfl) ?_)
    refine gaOne 16 rfl ?_
    refine gt0 (by exact rfl) ?_
    refine ⟨by (repeat (first | exact Suf.refl | exact Suf.nil | exact Suf.app _ _ | apply Suf.cons)), ?_⟩
    refine gaDone ?_
    refine gg ?_
    by_cases hk : k = 4
    · refine gg ?_
      refine gc3 (GrI z n k y g R cs (M'.set (gt cs xx).toNat ct) ct) (fun w hst hst1 => paths_c w hm hn hsq hcs hl2 v0 v1 hx.1 hx.2 (hrd.later hst1) hst1.own) (by exact rfl) ?_
      dsimp only [GrI]
      (repeat (first | refine gk1 ?_ | refine gk2 ?_ | refine gk3 ?_ | refine gk0 ?_ | refine gk4 ?_))
      rintro M2 hM2
      dsimp only [GrI, List.cons_append, List.nil_append]
      have hnx : Mk n M ct (forbTo g n cs k v (j + 1)) M2 := hput.trans hM2 fun c _ _ => ⟨fun ⟨i, i0, i1, h0, hi⟩ => by
        by_cases e : i = j
        · rw [e, hxx] at hi
          rcases hi with hi | hi
          · exact .inl (.inr hi.symm)
          · exact .inr hi.2
        · exact .inl (.inl ⟨i, i0, by omega, h0, hi⟩), fun h => by
        rcases h with (⟨i, i0, i1, hi⟩ | h) | h
        · exact ⟨i, i0, by omega, hi⟩
        · exact ⟨j, hj0, by omega, by rw [hxx]; omega, .inl (by rw [hxx]; exact h.symm)⟩
        · exact ⟨j, hj0, by omega, by rw [hxx]; omega, .inr ⟨hk, by rw [hxx]; exact h⟩⟩⟩
      refine gg ?_
      exact gnx (⟨j + 1, false, M2⟩ : PtX) ⟨by dsimp only; omega, by dsimp only; omega, hnx⟩ (by dsimp only; omega)
    · have hnx : Mk n M ct (forbTo g n cs k v (j + 1)) (M'.set (gt cs xx).toNat ct) := hput.congr fun c _ _ => ⟨fun h => by
        rcases h with ⟨i, i0, i1, hi⟩ | h
        · exact ⟨i, i0, by omega, hi⟩
        · exact ⟨j, hj0, by omega, by rw [hxx]; omega, .inl (by rw [hxx]; exact h.symm)⟩, fun ⟨i, i0, i1, h0, hi⟩ => by
        by_cases e : i = j
        · rw [e, hxx] at hi
          rcases hi with hi | hi
          · exact .inr hi.symm
          · exact (hk hi.1).elim
        · exact .inl ⟨i, i0, by omega, h0, hi⟩⟩
      refine gg ?_
      exact gnx (⟨j + 1, false, M'.set (gt cs xx).toNat ct⟩ : PtX) ⟨by dsimp only; omega, by dsimp only; omega, hnx⟩ (by dsimp only; omega)
  obtain rfl : j = (rowL g v).length := by omega
  dsimp only [GrI]
  refine gg ?_
  exact grt M' (hMk.congr fun c c0 _ => forb_all hm hn hsq v0 v1 c0)
end
end Go.Proofs.Ytoiiellaoikojaa
