/- Walks: colours: paths (what a star forbids). Walks: colours: forbid. Walks: colours: Greedy (but for acyclic ones). -/
import Derived.Test.YtoiiellaoikojaaKA
set_option linter.unusedVariables false
set_option linter.unusedSimpArgs false
set_option maxHeartbeats 8000000
namespace Go.Proofs.Ytoiiellaoikojaa
open Go.RowKit
abbrev TGy : TypeId := 107
/-! ### rows of a graph -/
def rowL (g : Pat) (v : Int) : List Int := sub g.cols (gt g.start v) (gt g.start (v + 1))
def rowB (y : PA) (g : Pat) (v : Int) : Option Addr := rowA y.B (gt g.start v) (gt g.start (v + 1))
section
variable {g : Pat} {y : PA} {v : Int}
theorem rowV_eq (h : Head g) (v0 : 0 ≤ v) (v1 : v < g.rows) : rowV y g v = (rowB y g v, (rowL g v).length, (rowL g v).length) := by
  have e1 := h.lo v0 (by omega)
  have e2 := h.hi (r := v + 1) (by omega) (by omega)
  have e3 := h.step v0 v1
  unfold rowV rowB rowL
  rw [sub_length g.cols e1 e3 e2]
theorem rowL_rd {w : World} (h : Head g) (v0 : 0 ≤ v) (v1 : v < g.rows) (hr : RdP w y g) : Rds vi w (rowB y g v) (rowL g v).length (rowL g v) := by
  have e1 := h.lo v0 (by omega)
  have e2 := h.hi (r := v + 1) (by omega) (by omega)
  have e3 := h.step v0 v1
  have := row_rd hr.c e1 e3 e2
  rwa [← sub_length g.cols e1 e3 e2] at this
theorem rowL_mem (hm : May g) (v0 : 0 ≤ v) (v1 : v < g.rows) {w : Int} : hasB g v w = true ↔ ∃ j : Int, 0 ≤ j ∧ j < (rowL g v).length ∧ gt (rowL g v) j = w := by
  have h := hm.toHead
  have e1 := h.lo v0 (by omega)
  have e2 := h.hi (r := v + 1) (by omega) (by omega)
  have e3 := h.step v0 v1
  have hl := sub_length g.cols e1 e3 e2
  rw [hasB_iff]
  unfold rowL
  constructor
  · rintro ⟨_, _, k, k0, k1, e⟩
    exact ⟨k - gt g.start v, by omega, by rw [hl]; omega, by rw [gt_sub e1 e3 e2 (by omega) (by rw [hl]; omega), show gt g.start v + (k - gt g.start v) = k by omega, e]⟩
  · rintro ⟨j, j0, j1, e⟩
    rw [gt_sub e1 e3 e2 j0 j1] at e
    rw [hl] at j1
    exact ⟨v0, v1, gt g.start v + j, by omega, by omega, e⟩
theorem rowL_small (hm : May g) (v0 : 0 ≤ v) (v1 : v < g.rows) : (rowL g v).length ≤ 16384 := by
  have h := hm.toHead
  have e1 := h.lo v0 (by omega)
  have e2 := h.hi (r := v + 1) (by omega) (by omega)
  have e3 := h.step v0 v1
  have := hm.small
  unfold rowL
  rw [sub_length g.cols e1 e3 e2]
  omega
end
/-! ### what is marked -/
open Classical in
noncomputable def twinTo (L cs : List Int) (u k : Int) : Bool := decide (∃ j : Int, 0 ≤ j ∧ j < k ∧ gt L j ≠ u ∧ gt cs (gt L j) = gt cs u)
open Classical in
theorem twinTo_zero (L cs : List Int) (u : Int) : twinTo L cs u 0 = false := decide_eq_false (by rintro ⟨j, h0, h1, _⟩; omega)
open Classical in
theorem twinTo_next {L cs : List Int} {u k : Int} (hk : 0 ≤ k) : twinTo L cs u (k + 1) = (twinTo L cs u k || (gt L k != u && gt cs (gt L k) == gt cs u)) := by
  rw [Bool.eq_iff_iff, Bool.or_eq_true, Bool.and_eq_true, bne_iff_ne, beq_iff_eq]
  unfold twinTo
  rw [decide_eq_true_iff, decide_eq_true_iff]
  constructor
  · rintro ⟨j, h2, h3, h4⟩
    by_cases e : j = k
    · rw [e] at h4; exact .inr h4
    · exact .inl ⟨j, h2, by omega, h4⟩
  · rintro (⟨j, h2, h3, h4⟩ | h)
    · exact ⟨j, h2, by omega, h4⟩
    · exact ⟨k, hk, by omega, h⟩
open Classical in
theorem twinTo_all {g : Pat} {n : Nat} {cs : List Int} {v u : Int} (hm : May g) (hn : g.width = n) (v0 : 0 ≤ v) (v1 : v < g.rows) : twinTo (rowL g v) cs u (rowL g v).length = twinB (hasB g) n cs v u := by
  rw [Bool.eq_iff_iff]
  unfold twinTo twinB
  rw [decide_eq_true_iff, anyI_iff]
  constructor
  · rintro ⟨j, j0, j1, h1, h2⟩
    have hb := (rowL_mem hm v0 v1).2 ⟨j, j0, j1, rfl⟩
    have hr := ((hasB_iff.1 hb).in_ hm).2
    exact ⟨gt (rowL g v) j, by omega, by rw [hb]; simp [h1, h2]⟩
  · rintro ⟨w, _, hw⟩
    simp only [Bool.and_eq_true, bne_iff_ne, beq_iff_eq] at hw
    obtain ⟨j, j0, j1, e⟩ := (rowL_mem hm v0 v1).1 hw.1
    exact ⟨j, j0, j1, by rw [e]; exact hw.2.1, by rw [e]; exact hw.2.2⟩
structure Mk (n : Nat) (M0 : List Int) (ct : Int) (S : Int → Prop) (M : List Int) : Prop where
  len : M.length = n + 1
  on : ∀ c : Int, 0 ≤ c → c ≤ n → S c → gt M c = ct
  off : ∀ c : Int, 0 ≤ c → c ≤ n → ¬ S c → gt M c = gt M0 c
theorem Mk.zero {n : Nat} {M0 : List Int} {ct : Int} (h : M0.length = n + 1) : Mk n M0 ct (fun _ => False) M0 := ⟨h, fun _ _ _ h => h.elim, fun _ _ _ _ => rfl⟩
theorem Mk.congr {n : Nat} {M0 M : List Int} {ct : Int} {S S' : Int → Prop} (h : Mk n M0 ct S M) (e : ∀ c : Int, 0 ≤ c → c ≤ n → (S c ↔ S' c)) : Mk n M0 ct S' M := ⟨h.len, fun c h0 h1 hs => h.on c h0 h1 ((e c h0 h1).2 hs), fun c h0 h1 hs => h.off c h0 h1 (fun h => hs ((e c h0 h1).1 h))⟩
theorem Mk.put {n : Nat} {M0 M : List Int} {ct a : Int} {S S' : Int → Prop} (h : Mk n M0 ct S M) (a0 : 0 ≤ a) (a1 : a ≤ n) (e : ∀ c : Int, 0 ≤ c → c ≤ n → (S' c ↔ S c ∨ c = a)) : Mk n M0 ct S' (M.set a.toNat ct) := by
  have hl := h.len
  refine ⟨by rw [List.length_set]; exact hl, fun c h0 h1 hs => ?_, fun c h0 h1 hs => ?_⟩
  · rw [gt_setI a0 (by omega) h0]
    by_cases ec : c = a
    · rw [if_pos ec]
    · rw [if_neg ec]
      exact h.on c h0 h1 (((e c h0 h1).1 hs).resolve_right ec)
  · have hn : ¬ (S c ∨ c = a) := fun h => hs ((e c h0 h1).2 h)
    rw [gt_setI a0 (by omega) h0, if_neg (fun h => hn (.inr h))]
    exact h.off c h0 h1 (fun h => hn (.inl h))
theorem Mk.trans {n : Nat} {M0 M M' : List Int} {ct : Int} {S T U : Int → Prop} (h : Mk n M0 ct S M) (h2 : Mk n M ct T M') (e : ∀ c : Int, 0 ≤ c → c ≤ n → (U c ↔ S c ∨ T c)) : Mk n M0 ct U M' := by
  refine ⟨h2.len, fun c h0 h1 hu => ?_, fun c h0 h1 hu => ?_⟩
  · by_cases ht : T c
    · exact h2.on c h0 h1 ht
    · rw [h2.off c h0 h1 ht]
      exact h.on c h0 h1 (((e c h0 h1).1 hu).resolve_right ht)
  · have hn : ¬ (S c ∨ T c) := fun h => hu ((e c h0 h1).2 h)
    rw [h2.off c h0 h1 (fun h => hn (.inr h)), h.off c h0 h1 (fun h => hn (.inl h))]
/-- the greedy object's pieces -/
structure GyX where
  gb : Nat
  cb : Nat
  mb : Nat
  tb : Nat
  NA : Option Addr
  nc : Nat
abbrev GrI (z : GyX) (n : Nat) (k : Int) (y : PA) (g : Pat) (R : List Res) (cs M : List Int) (ct : Int) : List Res :=
  [blk z.gb [.pointer (some ⟨z.tb, 0, none⟩), .slice (some ⟨z.cb, 0, none⟩) n n, .slice (some ⟨z.mb, 0, none⟩) (n + 1) (n + 1), vi ct] TGy, osl TI vi (some ⟨z.cb, 0, none⟩) n cs, osl TI vi (some ⟨z.mb, 0, none⟩) (n + 1) M, blk z.tb (thC g.rows z.NA (nearTo y g g.rows).length z.nc k) TTh, osl TIs sv z.NA z.nc (nearTo y g g.rows), bun R]
structure CsOK (n : Nat) (cs : List Int) : Prop where
  len : cs.length = n
  rng : ∀ u : Int, 0 ≤ u → u < n → -1 ≤ gt cs u ∧ gt cs u < n
/-- colours that paths from v by u forbid, of the first k beside u -/
def pathTo (g : Pat) (n : Nat) (cs : List Int) (v u k : Int) (c : Int) : Prop := ∃ j : Int, 0 ≤ j ∧ j < k ∧ gt (rowL g u) j ≠ v ∧ 0 ≤ gt cs (gt (rowL g u) j) ∧ gt cs (gt (rowL g u) j) = c ∧ (twinB (hasB g) n cs v u = true ∨ twinB (hasB g) n cs (gt (rowL g u) j) u = true)
structure PtX where
  k : Int
  b : Bool
  M : List Int
section
variable {z : GyX} {n : Nat} {k : Int} {y : PA} {g : Pat} {R : List Res} {cs M : List Int} {ct v u : Int}
theorem paths_c (w : World) (hm : May g) (hn : g.rows = n) (hsq : g.rows = g.width) (hcs : CsOK n cs) (hM : M.length = n + 1) (v0 : 0 ≤ v) (v1 : v < n) (u0 : 0 ≤ u) (u1 : u < n) (hrd : RdB w ((GrI z n k y g R cs M ct).flatMap Res.fp) R y g) (hw : Own (GrI z n k y g R cs M ct) w) :
    Calls Try.prog 96 [.pointer (some ⟨z.gb, 0, none⟩), vi v, vi u].toArray w (Ret (GrI z n k y g R cs M ct) (fun _ : List Int => .tuple #[]) (fun M' => GrI z n k y g R cs M' ct) (fun M' => Mk n M ct (pathTo g n cs v u (rowL g u).length) M') w) := by
  have HG := hm.toHead
  have hn2 := HG.r1
  have hcl := hcs.len
  have hnl := nearTo_len y g (k := g.rows) HG.r0
  have hbv := hcs.rng v v0 v1
  have hsv := rowL_small (v := v) hm v0 (by omega)
  have hsu := rowL_small (v := u) hm u0 (by omega)
  have hbu := hcs.rng u u0 u1
  refine calls_wc ((GrI z n k y g R cs M ct).flatMap Res.fp) (GrI z n k y g R cs M ct) [] (fun _ => []) Try.func96 rfl rfl (fun _ => rfl) Try.ntmps96 rfl hw rfl ?_
  have rowR : ∀ {a : Int}, 0 ≤ a → a < n → ∀ {w' : World} {σ : List Res}, St w ((GrI z n k y g R cs M ct).flatMap Res.fp) σ w' → HasR σ (bun R) → Rds vi w' (rowB y g a) (rowL g a).length (rowL g a) := fun a0 a1 _ _ hst hb => rowL_rd HG a0 (by omega) (hrd.now hst hb)
  have rowN : ∀ {a : Int}, 0 ≤ a → a < n → ∀ j : Int, 0 ≤ j → j < (rowL g a).length → 0 ≤ gt (rowL g a) j ∧ gt (rowL g a) j < n := fun a0 a1 j j0 j1 => by
    have hb := (rowL_mem hm a0 (by omega)).2 ⟨j, j0, j1, rfl⟩
    have := ((hasB_iff.1 hb).in_ hm).2
    omega
  dsimp only [GrI]
  refine gg ?_
  rw [nearTo_at y g v0 (by omega), rowV_eq HG v0 (by omega)]
  dsimp only [sv]
  refine glp (fun s : PtX => 0 ≤ s.k ∧ s.k ≤ (rowL g v).length ∧ s.b = twinTo (rowL g v) cs u s.k) (fun s => [(0, .pointer (some ⟨z.gb, 0, none⟩)), (1, vi v), (2, vi u), (6, .bool s.b), (23, .slice (rowB y g v) (rowL g v).length (rowL g v).length), (24, vi (rowL g v).length), (25, vi s.k)])
    (fun s => GrI z n k y g R cs M ct) (fun s => ((rowL g v).length - s.k).toNat) ⟨0, false, []⟩ ⟨by simp, by simp, (twinTo_zero _ _ _).symm⟩ ?_
  rintro ⟨j, b, _⟩ ⟨hj0, hj1, hb⟩
  dsimp only at hj0 hj1 hb ⊢
  by_cases hj : j < (rowL g v).length
  · have hx := rowN v0 v1 j hj0 hj
    have hnx := twinTo_next (L := rowL g v) (cs := cs) (u := u) hj0
    have hcx := hcs.rng _ hx.1 hx.2
    refine wc_know (φ := ∃ ad, rowB y g v = some ad) (fun w hst => (rowR v0 v1 hst (by (repeat (first | exact .here | refine .there ?_)))).ad_ (by omega)) ?_
    rintro ⟨sa, hsa⟩
    rw [hsa]
    dsimp only [GrI]
    refine gg ?_
    refine wl_v rfl rfl rfl (val_load rfl rfl (ag_of rfl) (fun w hst => by rw [← hsa]; exact (rowR v0 v1 hst (by (repeat (first | exact .here | refine .there ?_)))).cell hj0 hj)) ?_
    cases b with
    | true =>
      rw [← hb, Bool.true_or] at hnx
      refine gg ?_
      refine wc_quiet mixed (by kernel_rfl) ?_
      refine gg ?_
      exact gnx (⟨j + 1, true, []⟩ : PtX) ⟨by dsimp only; omega, by dsimp only; omega, hnx.symm⟩ (by dsimp only; omega)
    | false =>
      rw [← hb, Bool.false_or] at hnx
      by_cases e1 : gt (rowL g v) j = u
      · rw [show (gt (rowL g v) j != u) = false by simp [e1], Bool.false_and] at hnx
        refine gg ?_
        refine wc_quiet mixed (by kernel_rfl) ?_
        refine gg ?_
        exact gnx (⟨j + 1, false, []⟩ : PtX) ⟨by dsimp only; omega, by dsimp only; omega, hnx.symm⟩ (by dsimp only; omega)
      · by_cases e2 : gt cs (gt (rowL g v) j) = gt cs u
        · rw [show (gt (rowL g v) j != u) = true by simp [e1], e2, beq_self_eq_true, Bool.true_and] at hnx
          refine gg ?_
          refine wc_quiet mixed (by kernel_rfl) ?_
          refine gg ?_
          exact gnx (⟨j + 1, true, []⟩ : PtX) ⟨by dsimp only; omega, by dsimp only; omega, hnx.symm⟩ (by dsimp only; omega)
        · rw [show (gt cs (gt (rowL g v) j) == gt cs u) = false by simp [e2], Bool.and_false] at hnx
          refine gg ?_
          refine wc_quiet mixed (by kernel_rfl) ?_
          refine gg ?_
          exact gnx (⟨j + 1, false, []⟩ : PtX) ⟨by dsimp only; omega, by dsimp only; omega, hnx.symm⟩ (by dsimp only; omega)
  obtain rfl : j = (rowL g v).length := by omega
  have htw : b = twinB (hasB g) n cs v u := by rw [hb, twinTo_all (n := n) hm (by omega) v0 (by omega)]
  clear hb hj hj0 hj1
  dsimp only [GrI]
  refine gg ?_
  rw [nearTo_at y g u0 (by omega), rowV_eq HG u0 (by omega)]
  dsimp only [sv]
  refine glp (fun s : PtX => 0 ≤ s.k ∧ s.k ≤ (rowL g u).length ∧ Mk n M ct (pathTo g n cs v u s.k) s.M) (fun s => [(0, .pointer (some ⟨z.gb, 0, none⟩)), (1, vi v), (2, vi u), (6, .bool b), (62, .slice (rowB y g u) (rowL g u).length (rowL g u).length), (63, vi (rowL g u).length), (64, vi s.k)])
    (fun s => GrI z n k y g R cs s.M ct) (fun s => ((rowL g u).length - s.k).toNat) ⟨0, false, M⟩ ⟨by simp, by simp, (Mk.zero hM).congr fun c _ _ => ⟨fun h => h.elim, fun ⟨j, j0, j1, _⟩ => by dsimp only at j1; omega⟩⟩ ?_
  rintro ⟨j, _, M'⟩ ⟨hj0, hj1, hMk⟩
  dsimp only at hj0 hj1 hMk ⊢
  have hMl := hMk.len
  by_cases hj : j < (rowL g u).length
  · have hx := rowN u0 u1 j hj0 hj
    have hcx := hcs.rng _ hx.1 hx.2
    have skip : (gt (rowL g u) j = v ∨ gt cs (gt (rowL g u) j) = -1 ∨ ¬ (b = true ∨ twinB (hasB g) n cs (gt (rowL g u) j) u = true)) → Mk n M ct (pathTo g n cs v u (j + 1)) M' := fun h => hMk.congr fun c _ _ => ⟨fun ⟨i, i0, i1, hi⟩ => ⟨i, i0, by omega, hi⟩, fun ⟨i, i0, i1, hi⟩ => by
      by_cases e : i = j
      · exfalso
        rw [e] at hi
        rcases h with h | h | h
        · exact hi.1 h
        · have := hi.2.1; omega
        · exact h (by rw [htw]; exact hi.2.2.2)
      · exact ⟨i, i0, by omega, hi⟩⟩
    refine wc_know (φ := ∃ ad, rowB y g u = some ad) (fun w hst => (rowR u0 u1 hst (by (repeat (first | exact .here | refine .there ?_)))).ad_ (by omega)) ?_
    rintro ⟨sa, hsa⟩
    rw [hsa]
    dsimp only [GrI]
    refine gg ?_
    refine wl_v rfl rfl rfl (val_load rfl rfl (ag_of rfl) (fun w hst => by rw [← hsa]; exact (rowR u0 u1 hst (by (repeat (first | exact .here | refine .there ?_)))).cell hj0 hj)) ?_
    by_cases e1 : gt (rowL g u) j = v
    · refine gg ?_
      exact gnx (⟨j + 1, false, M'⟩ : PtX) ⟨by dsimp only; omega, by dsimp only; omega, skip (.inl e1)⟩ (by dsimp only; omega)
    by_cases e2 : gt cs (gt (rowL g u) j) = -1
    · refine gg ?_
      exact gnx (⟨j + 1, false, M'⟩ : PtX) ⟨by dsimp only; omega, by dsimp only; omega, skip (.inr (.inl e2))⟩ (by dsimp only; omega)
    refine gg ?_
    rw [nearTo_at y g hx.1 (by omega), rowV_eq HG hx.1 (by omega)]
    dsimp only [sv]
    generalize hxx : gt (rowL g u) j = xx at hx hcx skip e1 e2
    have hsx := rowL_small (v := xx) hm hx.1 (by omega)
    refine glp (fun s : PtX => 0 ≤ s.k ∧ s.k ≤ (rowL g xx).length ∧ s.b = (b || twinTo (rowL g xx) cs u s.k)) (fun s => [(0, .pointer (some ⟨z.gb, 0, none⟩)), (1, vi v), (2, vi u), (6, .bool b), (10, vi xx), (11, .bool s.b), (62, .slice (some sa) (rowL g u).length (rowL g u).length), (63, vi (rowL g u).length), (64, vi j), (91, .slice (rowB y g xx) (rowL g xx).length (rowL g xx).length), (92, vi (rowL g xx).length), (93, vi s.k)])
      (fun s => GrI z n k y g R cs M' ct) (fun s => ((rowL g xx).length - s.k).toNat) ⟨0, b, []⟩ ⟨by simp, by simp, by dsimp only; rw [twinTo_zero, Bool.or_false]⟩ ?_
    rintro ⟨i, d, _⟩ ⟨hi0, hi1, hd⟩
    dsimp only at hi0 hi1 hd ⊢
    by_cases hi : i < (rowL g xx).length
    · have hy := rowN hx.1 hx.2 i hi0 hi
      have hnx := twinTo_next (L := rowL g xx) (cs := cs) (u := u) hi0
      have hcy := hcs.rng _ hy.1 hy.2
      refine wc_know (φ := ∃ ad, rowB y g xx = some ad) (fun w hst => (rowR hx.1 hx.2 hst (by (repeat (first | exact .here | refine .there ?_)))).ad_ (by omega)) ?_
      rintro ⟨sb, hsb⟩
      rw [hsb]
      dsimp only [GrI]
      refine gg ?_
      refine wl_v rfl rfl rfl (val_load rfl rfl (ag_of rfl) (fun w hst => by rw [← hsb]; exact (rowR hx.1 hx.2 hst (by (repeat (first | exact .here | refine .there ?_)))).cell hi0 hi)) ?_
      cases d with
      | true =>
        have hd2 : true = (b || twinTo (rowL g xx) cs u (i + 1)) := by rw [hnx, ← Bool.or_assoc, ← hd, Bool.true_or]
        refine gg ?_
        refine wc_quiet mixed (by kernel_rfl) ?_
        refine gg ?_
        exact gnx (⟨i + 1, true, []⟩ : PtX) ⟨by dsimp only; omega, by dsimp only; omega, hd2⟩ (by dsimp only; omega)
      | false =>
        have hd2 : ∀ q : Bool, (gt (rowL g xx) i != u && gt cs (gt (rowL g xx) i) == gt cs u) = q → q = (b || twinTo (rowL g xx) cs u (i + 1)) := fun q hq => by rw [hnx, ← Bool.or_assoc, ← hd, Bool.false_or, hq]
        by_cases e3 : gt (rowL g xx) i = u
        · refine gg ?_
          refine wc_quiet mixed (by kernel_rfl) ?_
          refine gg ?_
          exact gnx (⟨i + 1, false, []⟩ : PtX) ⟨by dsimp only; omega, by dsimp only; omega, hd2 false (by simp [e3])⟩ (by dsimp only; omega)
        · by_cases e4 : gt cs (gt (rowL g xx) i) = gt cs u
          · refine gg ?_
            refine wc_quiet mixed (by kernel_rfl) ?_
            refine gg ?_
            exact gnx (⟨i + 1, true, []⟩ : PtX) ⟨by dsimp only; omega, by dsimp only; omega, hd2 true (by simp [e3, e4])⟩ (by dsimp only; omega)
          · refine gg ?_
            refine wc_quiet mixed (by kernel_rfl) ?_
            refine gg ?_
            exact gnx (⟨i + 1, false, []⟩ : PtX) ⟨by dsimp only; omega, by dsimp only; omega, hd2 false (by simp [e3, e4])⟩ (by dsimp only; omega)
    obtain rfl : i = (rowL g xx).length := by omega
    rw [twinTo_all (n := n) hm (by omega) hx.1 (by omega)] at hd
    dsimp only [GrI]
    cases d with
    | false =>
      have hnb : ¬ (b = true ∨ twinB (hasB g) n cs xx u = true) := fun h => by
        rcases h with h | h <;> rw [h] at hd <;> simp at hd
      refine gg ?_
      exact gnx (⟨j + 1, false, M'⟩ : PtX) ⟨by dsimp only; omega, by dsimp only; omega, skip (.inr (.inr hnb))⟩ (by dsimp only; omega)
    | true =>
      have hyb : b = true ∨ twinB (hasB g) n cs xx u = true := by
        rcases Bool.or_eq_true_iff.1 hd.symm with h | h
        · exact .inl h
        · exact .inr h
      have hput : Mk n M ct (pathTo g n cs v u (j + 1)) (M'.set (gt cs xx).toNat ct) := hMk.put (by omega) (by omega) fun c _ _ => ⟨fun ⟨i, i0, i1, hi⟩ => by
        by_cases e : i = j
        · rw [e, hxx] at hi; exact .inr hi.2.2.1.symm
        · exact .inl ⟨i, i0, by omega, hi⟩, fun h => by
        rcases h with ⟨i, i0, i1, hi⟩ | h
        · exact ⟨i, i0, by omega, hi⟩
        · exact ⟨j, hj0, by omega, by rw [hxx]; exact ⟨e1, by omega, h.symm, by rw [← htw]; exact hyb⟩⟩⟩
      refine gg ?_
      refine gwa [osl TI vi (some ⟨z.mb, 0, none⟩) (n + 1) M'] ?_
      (repeat (first | refine gk1 ?_ | refine gk2 ?_ | refine gk3 ?_ | refine gk0 ?_ | refine gk4 ?_))
      dsimp only [List.cons_append, List.nil_append]
      (first | refine ga1 0 (by exact rfl) (by exact rfl) ?_ | refine ga2 0 (by exact rfl) (by exact rfl) ?_ | refine ga3 0 (by exact rfl) (by exact rfl) ?_ | refine ga4 0 (by exact rfl) (by exact rfl) ?_)
      (first | refine ga1 1 (by exact rfl) (by exact rfl) ?_ | refine ga2 1 (by exact rfl) (by exact rfl) ?_ | refine ga3 1 (by exact rfl) (by exact rfl) ?_ | refine ga4 1 (by exact rfl) (by exact rfl) ?_)
      (first | refine ga1 2 (by exact rfl) (by exact rfl) ?_ | refine ga2 2 (by exact rfl) (by exact rfl) ?_ | refine ga3 2 (by exact rfl) (by exact rfl) ?_ | refine ga4 2 (by exact rfl) (by exact rfl) ?_)
      (first | refine ga1 3 (by exact rfl) (by exact rfl) ?_ | refine ga2 3 (by exact rfl) (by exact rfl) ?_ | refine ga3 3 (by exact rfl) (by exact rfl) ?_ | refine ga4 3 (by exact rfl) (by exact rfl) ?_)
      (first | refine ga1 4 (by exact rfl) (by exact rfl) ?_ | refine ga2 4 (by exact rfl) (by exact rfl) ?_ | refine ga3 4 (by exact rfl) (by exact rfl) ?_ | refine ga4 4 (by exact rfl) (by exact rfl) ?_)
      (first | refine ga1 5 (by exact rfl) (by exact rfl) ?_ | refine ga2 5 (by exact rfl) (by exact rfl) ?_ | refine ga3 5 (by exact rfl) (by exact rfl) ?_ | refine ga4 5 (by exact rfl) (by exact rfl) ?_)
      (first | refine ga1 6 (by exact rfl) (by exact rfl) ?_ | refine ga2 6 (by exact rfl) (by exact rfl) ?_ | refine ga3 6 (by exact rfl) (by exact rfl) ?_ | refine ga4 6 (by exact rfl) (by exact rfl) ?_)
      (first | refine ga1 7 (by exact rfl) (by exact rfl) ?_ | refine ga2 7 (by exact rfl) (by exact rfl) ?_ | refine ga3 7 (by exact rfl) (by exact rfl) ?_ | refine ga4 7 (by exact rfl) (by exact rfl) ?_)
      (first | refine ga1 8 (by exact rfl) (by exact rfl) ?_ | refine ga2 8 (by exact rfl) (by exact rfl) ?_ | refine ga3 8 (by exact rfl) (by exact rfl) ?_ | refine ga4 8 (by exact rfl) (by exact rfl) ?_)
      (first | refine ga1 9 (by exact rfl) (by exact rfl) ?_ | refine ga2 9 (by exact rfl) (by exact rfl) ?_ | refine ga3 9 (by exact rfl) (by exact rfl) ?_ | refine ga4 9 (by exact rfl) (by exact rfl) ?_)
      (first | refine ga1 10 (by exact rfl) (by exact rfl) ?_ | refine ga2 10 (by exact rfl) (by exact rfl) ?_ | refine ga3 10 (by exact rfl) (by exact rfl) ?_ | refine ga4 10 (by exact rfl) (by exact rfl) ?_)
      (first | refine ga1 11 (by exact rfl) (by exact rfl) ?_ | refine ga2 11 (by exact rfl) (by exact rfl) ?_ | refine ga3 11 (by exact rfl) (by exact rfl) ?_ | refine ga4 11 (by exact rfl) (by exact rfl) ?_)
      (first | refine ga1 12 (by exact rfl) (by exact rfl) ?_ | refine ga2 12 (by exact rfl) (by exact rfl) ?_ | refine ga3 12 (by exact rfl) (by exact rfl) ?_ | refine ga4 12 (by exact rfl) (by exact rfl) ?_)
      (first | refine ga1 13 (by exact rfl) (by exact rfl) ?_ | refine ga2 13 (by exact rfl) (by exact rfl) ?_ | refine ga3 13 (by exact rfl) (by exact rfl) ?_ | refine ga4 13 (by exact rfl) (by exact rfl) ?_)
      (first | refine ga1 14 (by exact rfl) (by exact rfl) ?_ | refine ga2 14 (by exact rfl) (by exact rfl) ?_ | refine ga3 14 (by exact rfl) (by exact rfl) ?_ | refine ga4 14 (by exact rfl) (by exact rfl) ?_)
      (first | refine ga1 15 (by exact rfl) (by exact rfl) ?_ | refine ga2 15 (by exact rfl) (by exact rfl) ?_ | refine ga3 15 (by exact rfl) (by exact rfl) ?_ | refine ga4 15 (by exact rfl) (by exact rfl) ?_)
      refine gaOne 16 rfl ?_
      refine gt0 (by exact rfl) ?_
      refine ⟨by (repeat (first | exact Suf.refl | exact Suf.nil | exact Suf.app _ _ | apply Suf.cons)), ?_⟩
      refine gaDone ?_
      refine gg ?_
      exact gnx (⟨j + 1, false, M'.set (gt cs xx).toNat ct⟩ : PtX) ⟨by dsimp only; omega, by dsimp only; omega, hput⟩ (by dsimp only; omega)
  obtain rfl : j = (rowL g u).length := by omega
  dsimp only [GrI]
  refine gg ?_
  exact grt M' hMk
end
/-- what the first k beside v forbid -/
def forbTo (g : Pat) (n : Nat) (cs : List Int) (kd v k : Int) (c : Int) : Prop := ∃ j : Int, 0 ≤ j ∧ j < k ∧ 0 ≤ gt cs (gt (rowL g v) j) ∧ (gt cs (gt (rowL g v) j) = c ∨ (kd = 4 ∧ pathTo g n cs v (gt (rowL g v) j) (rowL g (gt (rowL g v) j)).length c))
section
variable {z : GyX} {n : Nat} {k : Int} {y : PA} {g : Pat} {R : List Res} {cs M : List Int} {ct v u : Int}
theorem forb_all (hm : May g) (hn : g.rows = n) (hsq : g.rows = g.width) (v0 : 0 ≤ v) (v1 : v < n) {c : Int} (c0 : 0 ≤ c) : forbTo g n cs k v (rowL g v).length c ↔ (badN (hasB g) n cs v c || (decide (k = 4) && badS (hasB g) n cs v c)) = true := by
  have rN : ∀ {a b : Int}, hasB g a b = true → 0 ≤ a ∧ a < n ∧ 0 ≤ b ∧ b < n := fun h => by
    have := (hasB_iff.1 h).in_ hm
    omega
  rw [Bool.or_eq_true, Bool.and_eq_true, decide_eq_true_iff]
  unfold badN badS
  rw [anyI_iff, anyI_iff]
  constructor
  · rintro ⟨j, j0, j1, h0, h | ⟨h4, i, i0, i1, h2, h3, h5, h6⟩⟩
    · have hb := (rowL_mem hm v0 (by omega)).2 ⟨j, j0, j1, rfl⟩
      exact .inl ⟨_, (rN hb).2.2, by rw [hb, h]; simp⟩
    · have hb := (rowL_mem hm v0 (by omega)).2 ⟨j, j0, j1, rfl⟩
      have hu := (rN hb).2.2
      have hb2 := (rowL_mem hm hu.1 (by omega)).2 ⟨i, i0, i1, rfl⟩
      have hx := (rN hb2).2.2
      refine .inr ⟨h4, _, hu, ?_⟩
      rw [Bool.and_eq_true, Bool.and_eq_true, decide_eq_true_iff, anyI_iff]
      refine ⟨⟨hb, h0⟩, _, hx, ?_⟩
      simp only [Bool.and_eq_true, Bool.or_eq_true, bne_iff_ne, beq_iff_eq]
      exact ⟨⟨hb2, h2, h5⟩, h6⟩
  · rintro (⟨u, hu, h⟩ | ⟨h4, u, hu, h⟩)
    · rw [Bool.and_eq_true, beq_iff_eq] at h
      obtain ⟨j, j0, j1, e⟩ := (rowL_mem hm v0 (by omega)).1 h.1
      exact ⟨j, j0, j1, by rw [e]; omega, .inl (by rw [e]; exact h.2)⟩
    · rw [Bool.and_eq_true, Bool.and_eq_true, decide_eq_true_iff, anyI_iff] at h
      obtain ⟨⟨h1, h2⟩, x, hx, h3⟩ := h
      simp only [Bool.and_eq_true, Bool.or_eq_true, bne_iff_ne, beq_iff_eq] at h3
      obtain ⟨j, j0, j1, e⟩ := (rowL_mem hm v0 (by omega)).1 h1
      obtain ⟨i, i0, i1, e2⟩ := (rowL_mem hm hu.1 (by omega)).1 h3.1.1
      exact ⟨j, j0, j1, by rw [e]; exact h2, .inr ⟨h4, i, i0, by rw [e]; exact i1, by rw [e, e2]; exact h3.1.2.1, by rw [e, e2]; omega, by rw [e, e2]; exact h3.1.2.2, by rw [e, e2]; exact h3.2⟩⟩
theorem forbid_c (w : World) (hm : May g) (hn : g.rows = n) (hsq : g.rows = g.width) (hcs : CsOK n cs) (hM : M.length = n + 1) (v0 : 0 ≤ v) (v1 : v < n) (hrd : RdB w ((GrI z n k y g R cs M ct).flatMap Res.fp) R y g) (hw : Own (GrI z n k y g R cs M ct) w) :
    Calls Try.prog 61 [.pointer (some ⟨z.gb, 0, none⟩), vi v].toArray w (Ret (GrI z n k y g R cs M ct) (fun _ : List Int => .tuple #[]) (fun M' => GrI z n k y g R cs M' ct) (fun M' => Mk n M ct (fun c => (badN (hasB g) n cs v c || (decide (k = 4) && badS (hasB g) n cs v c)) = true) M') w) := by
  have HG := hm.toHead
  have hn2 := HG.r1
  have hcl := hcs.len
  have hnl := nearTo_len y g (k := g.rows) HG.r0
  have hsv := rowL_small (v := v) hm v0 (by omega)
  refine calls_wc ((GrI z n k y g R cs M ct).flatMap Res.fp) (GrI z n k y g R cs M ct) [] (fun _ => []) Try.func61 rfl rfl (fun _ => rfl) Try.ntmps61 rfl hw rfl ?_
  have rowR : ∀ {a : Int}, 0 ≤ a → a < n → ∀ {w' : World} {σ : List Res}, St w ((GrI z n k y g R cs M ct).flatMap Res.fp) σ w' → HasR σ (bun R) → Rds vi w' (rowB y g a) (rowL g a).length (rowL g a) := fun a0 a1 _ _ hst hb => rowL_rd HG a0 (by omega) (hrd.now hst hb)
  have rowN : ∀ {a : Int}, 0 ≤ a → a < n → ∀ j : Int, 0 ≤ j → j < (rowL g a).length → 0 ≤ gt (rowL g a) j ∧ gt (rowL g a) j < n := fun a0 a1 j j0 j1 => by
    have hb := (rowL_mem hm a0 (by omega)).2 ⟨j, j0, j1, rfl⟩
    have := ((hasB_iff.1 hb).in_ hm).2
    omega
  dsimp only [GrI]
  refine gg ?_
  rw [nearTo_at y g v0 (by omega), rowV_eq HG v0 (by omega)]
  dsimp only [sv]
  refine glp (fun s : PtX => 0 ≤ s.k ∧ s.k ≤ (rowL g v).length ∧ Mk n M ct (forbTo g n cs k v s.k) s.M) (fun s => [(0, .pointer (some ⟨z.gb, 0, none⟩)), (1, vi v), (15, .slice (rowB y g v) (rowL g v).length (rowL g v).length), (16, vi (rowL g v).length), (17, vi s.k)])
    (fun s => GrI z n k y g R cs s.M ct) (fun s => ((rowL g v).length - s.k).toNat) ⟨0, false, M⟩ ⟨by simp, by simp, (Mk.zero hM).congr fun c _ _ => ⟨fun h => h.elim, fun ⟨j, j0, j1, _⟩ => by dsimp only at j1; omega⟩⟩ ?_
  rintro ⟨j, _, M'⟩ ⟨hj0, hj1, hMk⟩
  dsimp only at hj0 hj1 hMk ⊢
  have hMl := hMk.len
  by_cases hj : j < (rowL g v).length
  · have hx := rowN v0 v1 j hj0 hj
    have hcx := hcs.rng _ hx.1 hx.2
    refine wc_know (φ := ∃ ad, rowB y g v = some ad) (fun w hst => (rowR v0 v1 hst (by (repeat (first | exact .here | refine .there ?_)))).ad_ (by omega)) ?_
    rintro ⟨sa, hsa⟩
    rw [hsa]
    dsimp only [GrI]
    refine gg ?_
    refine wl_v rfl rfl rfl (val_load rfl rfl (ag_of rfl) (fun w hst => by rw [← hsa]; exact (rowR v0 v1 hst (by (repeat (first | exact .here | refine .there ?_)))).cell hj0 hj)) ?_
    by_cases e1 : gt cs (gt (rowL g v) j) = -1
    · have hnx : Mk n M ct (forbTo g n cs k v (j + 1)) M' := hMk.congr fun c _ _ => ⟨fun ⟨i, i0, i1, hi⟩ => ⟨i, i0, by omega, hi⟩, fun ⟨i, i0, i1, hi⟩ => by
        by_cases e : i = j
        · rw [e] at hi; have := hi.1; omega
        · exact ⟨i, i0, by omega, hi⟩⟩
      refine gg ?_
      exact gnx (⟨j + 1, false, M'⟩ : PtX) ⟨by dsimp only; omega, by dsimp only; omega, hnx⟩ (by dsimp only; omega)
    generalize hxx : gt (rowL g v) j = xx at hx hcx e1
    have hput : Mk n M ct (fun c => forbTo g n cs k v j c ∨ c = gt cs xx) (M'.set (gt cs xx).toNat ct) := hMk.put (by omega) (by omega) fun c _ _ => Iff.rfl
    have hl2 := hput.len
    refine gg ?_
    refine gwa [osl TI vi (some ⟨z.mb, 0, none⟩) (n + 1) M'] ?_
    (repeat (first | refine gk1 ?_ | refine gk2 ?_ | refine gk3 ?_ | refine gk0 ?_ | refine gk4 ?_))
    dsimp only [List.cons_append, List.nil_append]
    (first | refine ga1 0 (by exact rfl) (by exact rfl) ?_ | refine ga2 0 (by exact rfl) (by exact rfl) ?_ | refine ga3 0 (by exact rfl) (by exact rfl) ?_ | refine ga4 0 (by exact rfl) (by exact rfl) ?_)
    (first | refine ga1 1 (by exact rfl) (by exact rfl) ?_ | refine ga2 1 (by exact rfl) (by exact rfl) ?_ | refine ga3 1 (by exact rfl) (by exact rfl) ?_ | refine ga4 1 (by exact rfl) (by exact rfl) ?_)
    (first | refine ga1 2 (by exact rfl) (by exact rfl) ?_ | refine ga2 2 (by exact rfl) (by exact rfl) ?_ | refine ga3 2 (by exact rfl) (by exact rfl) ?_ | refine ga4 2 (by exact rfl) (by exact rfl) ?_)
    (first | refine ga1 3 (by exact rfl) (by exact rfl) ?_ | refine ga2 3 (by exact rfl) (by exact rfl) ?_ | refine ga3 3 (by exact rfl) (by exact rfl) ?_ | refine ga4 3 (by exact rfl) (by exact rfl) ?_)
    (first | refine ga1 4 (by exact rfl) (by exact rfl) ?_ | refine ga2 4 (by exact rfl) (by exact rfl) ?_ | refine ga3 4 (by exact rfl) (by exact rfl) ?_ | refine ga4 4 (by exact rfl) (by exact rfl) ?_)
    (first | refine ga1 5 (by exact rfl) (by exact rfl) ?_ | refine ga2 5 (by exact rfl) (by exact rfl) ?_ | refine ga3 5 (by exact rfl) (by exact rfl) ?_ | refine ga4 5 (by exact rfl) (by exact rfl) ?_)
    (first | refine ga1 6 (by exact rfl) (by exact rfl) ?_ | refine ga2 6 (by exact rfl) (by exact rfl) ?_ | refine ga3 6 (by exact rfl) (by exact rfl) ?_ | refine ga4 6 (by exact rfl) (by exact rfl) ?_)
    (first | refine ga1 7 (by exact rfl) (by exact rfl) ?_ | refine ga2 7 (by exact rfl) (by exact rfl) ?_ | refine ga3 7 (by exact rfl) (by exact rfl) ?_ | refine ga4 7 (by exact rfl) (by exact rfl) ?_)
    (first | refine ga1 8 (by exact rfl) (by exact rfl) ?_ | refine ga2 8 (by exact rfl) (by exact rfl) ?_ | refine ga3 8 (by exact rfl) (by exact rfl) ?_ | refine ga4 8 (by exact rfl) (by exact rfl) ?_)
    (first | refine ga1 9 (by exact rfl) (by exact rfl) ?_ | refine ga2 9 (by exact rfl) (by exact rfl) ?_ | refine ga3 9 (by exact rfl) (by exact rfl) ?_ | refine ga4 9 (by exact rfl) (by exact rfl) ?_)
    (first | refine ga1 10 (by exact rfl) (by exact rfl) ?_ | refine ga2 10 (by exact rfl) (by exact rfl) ?_ | refine ga3 10 (by exact rfl) (by exact rfl) ?_ | refine ga4 10 (by exact rfl) (by exact rfl) ?_)
    (first | refine ga1 11 (by exact rfl) (by exact rfl) ?_ | refine ga2 11 (by exact rfl) (by exact rfl) ?_ | refine ga3 11 (by exact rfl) (by exact rfl) ?_ | refine ga4 11 (by exact rfl) (by exact rfl) ?_)
    (first | refine ga1 12 (by exact rfl) (by exact rfl) ?_ | refine ga2 12 (by exact rfl) (by exact rfl) ?_ | refine ga3 12 (by exact rfl) (by exact rfl) ?_ | refine ga4 12 (by exact rfl) (by exact rfl) ?_)
    (first | refine ga1 13 (by exact rfl) (by exact rfl) ?_ | refine ga2 13 (by exact rfl) (by exact rfl) ?_ | refine ga3 13 (by exact rfl) (by exact rfl) ?_ | refine ga4 13 (by exact rfl) (by exact rfl) ?_)
    (first | refine ga1 14 (by exact rfl) (by exact rfl) ?_ | refine ga2 14 (by exact rfl) (by exact rfl) ?_ | refine ga3 14 (by exact rfl) (by exact rfl) ?_ | refine ga4 14 (by exact rfl) (by exact rfl) ?_)
    (first | refine ga1 15 (by exact rfl) (by exact rfl) ?_ | refine ga2 15 (by exact rfl) (by exact rfl) ?_ | refine ga3 15 (by exact rfl) (by exact rfl) ?_ | refine ga4 15 (by exact rfl) (by exact rfl) ?_)
    refine gaOne 16 rfl ?_
    refine gt0 (by exact rfl) ?_
    refine ⟨by (repeat (first | exact Suf.refl | exact Suf.nil | exact Suf.app _ _ | apply Suf.cons)), ?_⟩
    refine gaDone ?_
    refine gg ?_
    by_cases hk : k = 4
    · refine gg ?_
      refine gc3 (GrI z n k y g R cs (M'.set (gt cs xx).toNat ct) ct) (fun w hst hst1 => paths_c w hm hn hsq hcs hl2 v0 v1 hx.1 hx.2 (hrd.later hst1) hst1.own) (by exact rfl) ?_
      dsimp only [GrI]
      (repeat (first | refine gk1 ?_ | refine gk2 ?_ | refine gk3 ?_ | refine gk0 ?_ | refine gk4 ?_))
      rintro M2 hM2
      dsimp only [GrI, List.cons_append, List.nil_append]
      have hnx : Mk n M ct (forbTo g n cs k v (j + 1)) M2 := hput.trans hM2 fun c _ _ => ⟨fun ⟨i, i0, i1, h0, hi⟩ => by
        by_cases e : i = j
        · rw [e, hxx] at hi
          rcases hi with hi | hi
          · exact .inl (.inr hi.symm)
          · exact .inr hi.2
        · exact .inl (.inl ⟨i, i0, by omega, h0, hi⟩), fun h => by
        rcases h with (⟨i, i0, i1, hi⟩ | h) | h
        · exact ⟨i, i0, by omega, hi⟩
        · exact ⟨j, hj0, by omega, by rw [hxx]; omega, .inl (by rw [hxx]; exact h.symm)⟩
        · exact ⟨j, hj0, by omega, by rw [hxx]; omega, .inr ⟨hk, by rw [hxx]; exact h⟩⟩⟩
      refine gg ?_
      exact gnx (⟨j + 1, false, M2⟩ : PtX) ⟨by dsimp only; omega, by dsimp only; omega, hnx⟩ (by dsimp only; omega)
    · have hnx : Mk n M ct (forbTo g n cs k v (j + 1)) (M'.set (gt cs xx).toNat ct) := hput.congr fun c _ _ => ⟨fun h => by
        rcases h with ⟨i, i0, i1, hi⟩ | h
        · exact ⟨i, i0, by omega, hi⟩
        · exact ⟨j, hj0, by omega, by rw [hxx]; omega, .inl (by rw [hxx]; exact h.symm)⟩, fun ⟨i, i0, i1, h0, hi⟩ => by
        by_cases e : i = j
        · rw [e, hxx] at hi
          rcases hi with hi | hi
          · exact .inr hi.symm
          · exact (hk hi.1).elim
        · exact .inl ⟨i, i0, by omega, h0, hi⟩⟩
      refine gg ?_
      exact gnx (⟨j + 1, false, M'.set (gt cs xx).toNat ct⟩ : PtX) ⟨by dsimp only; omega, by dsimp only; omega, hnx⟩ (by dsimp only; omega)
  obtain rfl : j = (rowL g v).length := by omega
  dsimp only [GrI]
  refine gg ?_
  exact grt M' (hMk.congr fun c c0 _ => forb_all hm hn hsq v0 v1 c0)
end
/-- what is coloured lies in memory, with what it rests on -/
abbrev ThR (R : TX → List Res) (yf : TX → PA) (k : Int) (g : Pat) (t : TX) : List Res := [blk t.tb (thC g.rows t.A (nearTo (yf t) g g.rows).length t.c k) TTh, osl TIs sv t.A t.c (nearTo (yf t) g g.rows), bun (R t)]
structure GrX where
  k : Int
  cs : List Int
  M : List Int
theorem badB_not5 {k : Int} (hk : k ≠ 5) (g : Int → Int → Bool) (n : Nat) (cs : List Int) (v c : Int) : badB k g n cs v c = (badN g n cs v c || (decide (k = 4) && badS g n cs v c)) := by
  unfold badB
  rw [decide_eq_false hk, Bool.false_and, Bool.or_false]
section
variable {p g : Pat} {x : PA} {k : Int} {A : Option Addr} {c n : Nat} {l : List Int} {R : TX → List Res} {yf : TX → PA}
noncomputable def greedyS (k : Int) (g : Int → Int → Bool) (n : Nat) (l : List Int) : List Int := greedyL (badB k g n) n l (List.replicate n (-1))
theorem greedy_ok (w : World) (hk : k ≠ 5) (hm : May g) (hn : g.rows = n) (hsq : g.rows = g.width) (hev : Ev (hasB g)) (hirr : ∀ u, hasB g u u = false) (hl : Rds vi w A c l) (ho : IsOrd l n)
    (hord : ∀ w', Only [] w w' → Calls Try.prog 60 [vi k, pvl x p, .slice A l.length c].toArray w' (Ret [] (fun t : TX => .tuple #[.pointer (some ⟨t.tb, 0, none⟩), vi 0]) (ThR R yf k g) (fun _ => True) w')) (hrd : ∀ t, RdB w [] (R t) (yf t) g) :
    Calls Try.prog 21 [vi k, pvl x p, .slice A l.length c].toArray w (Ret [] (fun y : RX => .tuple #[.slice y.A y.xs.length y.c, vi (numS y.xs), vi 0]) (fun y => [osl TI vi y.A y.c y.xs]) (fun y => y.xs = greedyS k (hasB g) n l) w) := by
  have HG := hm.toHead
  have hn2 := HG.r1
  have hn0 := HG.r0
  have oL := hl.old
  have hll := ho.len
  have hon : On n (hasB g) := by rw [← hn]; exact hasB_on hm hsq
  unfold pvl patV at *
  refine calls_wc [] [] [.tmp 6, .tmp 7, .tmp 8] (fun y : RX => [.slice y.A y.xs.length y.c, vi (numS y.xs), vi 0]) Try.func21 rfl rfl (fun _ => rfl) Try.ntmps21 rfl (Own.nil w) rfl ?_
  refine gg ?_
  refine wl_op (ok_box rfl rfl rfl rfl rfl ?_); intro bp
  refine gg ?_
  refine gc3 [] (fun w hst hst1 => hord w hst1.only) (by exact rfl) ?_
  (repeat (first | refine gk1 ?_ | refine gk2 ?_ | refine gk3 ?_ | refine gk0 ?_ | refine gk4 ?_))
  rintro ⟨tb, NA, nc, y⟩ _
  dsimp only [List.cons_append, List.nil_append]
  generalize hRy : R ⟨tb, NA, nc, y⟩ = RR
  have hrd' := hrd ⟨tb, NA, nc, y⟩
  rw [hRy] at hrd'
  generalize yf ⟨tb, NA, nc, y⟩ = yy at hrd'
  have hnl := nearTo_len yy g (k := g.rows) hn0
  refine gg ?_
  refine wc_meetK (fun _ : GyX => True) (fun z => [(0, vi k), (2, .slice A l.length c), (11, .pointer (some ⟨z.gb, 0, none⟩))]) (fun z => GrI z n k yy g RR (List.replicate n 0) (List.replicate (n + 1) 0) 0) ?_ ?_
  · refine gwa [] ?_
    (repeat (first | refine gk1 ?_ | refine gk2 ?_ | refine gk3 ?_ | refine gk0 ?_ | refine gk4 ?_))
    dsimp only [List.cons_append, List.nil_append]
    (first | refine ga1 0 (by exact rfl) (by exact rfl) ?_ | refine ga2 0 (by exact rfl) (by exact rfl) ?_ | refine ga3 0 (by exact rfl) (by exact rfl) ?_ | refine ga4 0 (by exact rfl) (by exact rfl) ?_)
    (first | refine ga1 1 (by exact rfl) (by exact rfl) ?_ | refine ga2 1 (by exact rfl) (by exact rfl) ?_ | refine ga3 1 (by exact rfl) (by exact rfl) ?_ | refine ga4 1 (by exact rfl) (by exact rfl) ?_)
    (first | refine ga1 2 (by exact rfl) (by exact rfl) ?_ | refine ga2 2 (by exact rfl) (by exact rfl) ?_ | refine ga3 2 (by exact rfl) (by exact rfl) ?_ | refine ga4 2 (by exact rfl) (by exact rfl) ?_)
    (first | refine ga1 3 (by exact rfl) (by exact rfl) ?_ | refine ga2 3 (by exact rfl) (by exact rfl) ?_ | refine ga3 3 (by exact rfl) (by exact rfl) ?_ | refine ga4 3 (by exact rfl) (by exact rfl) ?_)
    (first | refine ga1 4 (by exact rfl) (by exact rfl) ?_ | refine ga2 4 (by exact rfl) (by exact rfl) ?_ | refine ga3 4 (by exact rfl) (by exact rfl) ?_ | refine ga4 4 (by exact rfl) (by exact rfl) ?_)
    (first | refine ga1 6 (by exact rfl) (by exact rfl) ?_ | refine ga2 6 (by exact rfl) (by exact rfl) ?_ | refine ga3 6 (by exact rfl) (by exact rfl) ?_ | refine ga4 6 (by exact rfl) (by exact rfl) ?_)
    (first | refine ga1 7 (by exact rfl) (by exact rfl) ?_ | refine ga2 7 (by exact rfl) (by exact rfl) ?_ | refine ga3 7 (by exact rfl) (by exact rfl) ?_ | refine ga4 7 (by exact rfl) (by exact rfl) ?_)
    (first | refine ga1 8 (by exact rfl) (by exact rfl) ?_ | refine ga2 8 (by exact rfl) (by exact rfl) ?_ | refine ga3 8 (by exact rfl) (by exact rfl) ?_ | refine ga4 8 (by exact rfl) (by exact rfl) ?_)
    (first | refine ga1 9 (by exact rfl) (by exact rfl) ?_ | refine ga2 9 (by exact rfl) (by exact rfl) ?_ | refine ga3 9 (by exact rfl) (by exact rfl) ?_ | refine ga4 9 (by exact rfl) (by exact rfl) ?_)
    (first | refine ga1 10 (by exact rfl) (by exact rfl) ?_ | refine ga2 10 (by exact rfl) (by exact rfl) ?_ | refine ga3 10 (by exact rfl) (by exact rfl) ?_ | refine ga4 10 (by exact rfl) (by exact rfl) ?_)
    refine gaAll [5, 11] ?_
    intro j hj
    simp only [List.mem_cons, List.not_mem_nil, or_false] at hj
    rcases hj with rfl | rfl
    · refine ⟨_, rfl, ?_⟩
      refine gmk0 vi 0 rfl rfl rfl rfl rfl rfl rfl rfl rfl rfl rfl (by omega) (Int.le_refl _) (by omega) (by omega) ?_
      intro cb
      rw [show g.rows.toNat = n by omega]
      refine ⟨by (repeat (first | exact Suf.refl | exact Suf.nil | exact Suf.app _ _ | apply Suf.cons)), ?_⟩
      refine gaOne 11 rfl ?_
      refine gmk0 vi 0 rfl rfl rfl rfl rfl rfl rfl rfl rfl rfl rfl (by omega) (Int.le_refl _) (by omega) (by omega) ?_
      intro mb
      rw [show (g.rows + 1).toNat = n + 1 by omega]
      refine ⟨by (repeat (first | exact Suf.refl | exact Suf.nil | exact Suf.app _ _ | apply Suf.cons)), ?_⟩
      refine wa_v 12 [_, _] rfl (by kernel_rfl) rfl rfl rfl rfl (val_build (ps := [(0, .pointer (some ⟨tb, 0, none⟩)), (1, .slice (some ⟨cb, 0, none⟩) n n), (2, .slice (some ⟨mb, 0, none⟩) (n + 1) (n + 1))]) (cells := [.pointer (some ⟨tb, 0, none⟩), .slice (some ⟨cb, 0, none⟩) n n, .slice (some ⟨mb, 0, none⟩) (n + 1) (n + 1), vi 0]) rfl rfl (by kernel_rfl)) ?_
      refine gaOne 13 rfl ?_
      refine ok_box rfl rfl rfl rfl rfl ?_
      intro gb
      refine ⟨by (repeat (first | exact Suf.refl | exact Suf.nil | exact Suf.app _ _ | apply Suf.cons)), ?_⟩
      (first | refine ga1 14 (by exact rfl) (by exact rfl) ?_ | refine ga2 14 (by exact rfl) (by exact rfl) ?_ | refine ga3 14 (by exact rfl) (by exact rfl) ?_ | refine ga4 14 (by exact rfl) (by exact rfl) ?_)
      refine gaDone ?_
      exact ⟨(⟨gb, cb, mb, tb, NA, nc⟩ : GyX), trivial, .cons rfl (.cons rfl (.cons rfl .nil)), by refine SubK.e ?_; (repeat (first | refine gk1 ?_ | refine gk2 ?_ | refine gk3 ?_ | refine gk0 ?_ | refine gk4 ?_)); trivial⟩
    · refine ⟨_, rfl, ?_⟩
      refine gmk0 vi 0 rfl rfl rfl rfl rfl rfl rfl rfl rfl rfl rfl (by omega) (Int.le_refl _) (by omega) (by omega) ?_
      intro mb
      rw [show (g.rows + 1).toNat = n + 1 by omega]
      refine ⟨by (repeat (first | exact Suf.refl | exact Suf.nil | exact Suf.app _ _ | apply Suf.cons)), ?_⟩
      refine gaOne 5 rfl ?_
      refine gmk0 vi 0 rfl rfl rfl rfl rfl rfl rfl rfl rfl rfl rfl (by omega) (Int.le_refl _) (by omega) (by omega) ?_
      intro cb
      rw [show g.rows.toNat = n by omega]
      refine ⟨by (repeat (first | exact Suf.refl | exact Suf.nil | exact Suf.app _ _ | apply Suf.cons)), ?_⟩
      refine wa_v 12 [_, _] rfl (by kernel_rfl) rfl rfl rfl rfl (val_build (ps := [(0, .pointer (some ⟨tb, 0, none⟩)), (1, .slice (some ⟨cb, 0, none⟩) n n), (2, .slice (some ⟨mb, 0, none⟩) (n + 1) (n + 1))]) (cells := [.pointer (some ⟨tb, 0, none⟩), .slice (some ⟨cb, 0, none⟩) n n, .slice (some ⟨mb, 0, none⟩) (n + 1) (n + 1), vi 0]) rfl rfl (by kernel_rfl)) ?_
      refine gaOne 13 rfl ?_
      refine ok_box rfl rfl rfl rfl rfl ?_
      intro gb
      refine ⟨by (repeat (first | exact Suf.refl | exact Suf.nil | exact Suf.app _ _ | apply Suf.cons)), ?_⟩
      (first | refine ga1 14 (by exact rfl) (by exact rfl) ?_ | refine ga2 14 (by exact rfl) (by exact rfl) ?_ | refine ga3 14 (by exact rfl) (by exact rfl) ?_ | refine ga4 14 (by exact rfl) (by exact rfl) ?_)
      refine gaDone ?_
      exact ⟨(⟨gb, cb, mb, tb, NA, nc⟩ : GyX), trivial, .cons rfl (.cons rfl (.cons rfl .nil)), by refine SubK.e ?_; (repeat (first | refine gk1 ?_ | refine gk2 ?_ | refine gk3 ?_ | refine gk0 ?_ | refine gk4 ?_)); trivial⟩
  rintro z _
  dsimp only [GrI]
  refine gg ?_
  refine glp (fun s : GrX => 0 ≤ s.k ∧ s.k ≤ n ∧ s.cs.length = n ∧ ∀ i, 0 ≤ i → i < s.k → gt s.cs i = -1) (fun s => [(0, vi k), (2, .slice A l.length c), (11, .pointer (some ⟨z.gb, 0, none⟩)), (44, vi n), (45, vi s.k)])
    (fun s => GrI z n k yy g RR s.cs (List.replicate (n + 1) 0) 0) (fun s => (n - s.k).toNat) ⟨0, List.replicate n 0, []⟩ ⟨by simp, by simp, by simp, fun i i0 i1 => by dsimp only at i1; omega⟩ ?_
  rintro ⟨j, cs, _⟩ ⟨hj0, hj1, hcl, hneg⟩
  dsimp only at hj0 hj1 hcl hneg ⊢
  by_cases hj : j < n
  · dsimp only [GrI]
    refine gg ?_
    exact gnx (⟨j + 1, cs.set j.toNat (-1), []⟩ : GrX) ⟨by dsimp only; omega, by dsimp only; omega, by dsimp only; rw [List.length_set]; exact hcl, fun i i0 i1 => by
      dsimp only at i1 ⊢
      rw [gt_setI hj0 (by omega) i0]
      by_cases e : i = j
      · rw [if_pos e]
      · rw [if_neg e]; exact hneg i i0 (by omega)⟩ (by dsimp only; omega)
  obtain rfl : j = n := by omega
  obtain rfl : cs = List.replicate n (-1) := ext_gt (by simpa using hcl) fun i i0 i1 => by
    rw [hneg i i0 (by omega), gt_elem i0 (by simp; omega)]; simp
  clear hneg hj0 hj1 hcl hj
  dsimp only [GrI]
  refine gg ?_
  refine glp (fun s : GrX => 0 ≤ s.k ∧ s.k ≤ n ∧ s.cs = greedyS k (hasB g) n (l.take s.k.toNat) ∧ GI (hasB g) n (l.take s.k.toNat) s.cs ∧ s.M.length = n + 1 ∧ ∀ i : Int, 0 ≤ i → i ≤ n → gt s.M i ≤ s.k) (fun s => [(0, vi k), (11, .pointer (some ⟨z.gb, 0, none⟩)), (55, .slice A l.length c), (56, vi l.length), (57, vi s.k)])
    (fun s => GrI z n k yy g RR s.cs s.M s.k) (fun s => (n - s.k).toNat) ⟨0, List.replicate n (-1), List.replicate (n + 1) 0⟩ ⟨by simp, by simp, rfl, GI.zero hon, by simp, fun i i0 i1 => by dsimp only; rw [gt_elem i0 (by simp; omega)]; simp⟩ ?_
  rintro ⟨j, cs, M⟩ ⟨hj0, hj1, hcs, hGI, hMl, hMb⟩
  dsimp only at hj0 hj1 hcs hGI hMl hMb ⊢
  have hcl := hGI.len
  have hCs : CsOK n cs := ⟨hcl, fun u u0 u1 => by
    by_cases hu : u ∈ l.take j.toNat
    · have := hGI.on u u0 u1 hu; omega
    · have := hGI.off u u0 u1 hu; omega⟩
  by_cases hj : j < n
  · have hv := ho.rng j hj0 hj
    have htk : (l.take j.toNat).length = j.toNat := by rw [List.length_take]; omega
    have hnin : gt l j ∉ l.take j.toNat := fun hmem => by
      obtain ⟨i, i0, i1, e⟩ := mem_gt hmem
      rw [htk] at i1
      have e2 : gt (l.take j.toNat) i = gt l i := by
        rw [gt_elem i0 (by rw [htk]; exact i1), gt_elem i0 (by omega)]
        simp
      rw [e2] at e
      have := ho.inj i j i0 (by omega) hj0 hj e
      omega
    have hnext : l.take (j + 1).toNat = l.take j.toNat ++ [gt l j] := by
      rw [show (j + 1).toNat = j.toNat + 1 by omega, List.take_add_one, List.getElem?_eq_getElem (by omega), gt_elem hj0 (by omega)]
      rfl
    obtain ⟨c0, c00, c01, hfr⟩ := hGI.fresh hon
    rw [htk] at c01
    have hfr := hfr k (gt l j)
    dsimp only [GrI]
    refine gg ?_
    generalize hvv : gt l j = v at hv hnin hnext hfr
    refine gc3 (GrI z n k yy g RR cs M (j + 1)) (fun w hst hst1 => forbid_c w hm hn hsq hCs hMl hv.1 hv.2 ((hrd'.later hst1)) hst1.own) (by exact rfl) ?_
    dsimp only [GrI]
    (repeat (first | refine gk1 ?_ | refine gk2 ?_ | refine gk3 ?_ | refine gk0 ?_ | refine gk4 ?_))
    rintro M' hMk
    dsimp only [GrI, List.cons_append, List.nil_append]
    have hM'l := hMk.len
    have hmark : ∀ d : Int, 0 ≤ d → d ≤ n → (gt M' d = j + 1 ↔ badB k (hasB g) n cs v d = true) := fun d d0 d1 => by
      rw [badB_not5 hk]
      constructor
      · intro h
        apply Classical.byContradiction
        intro hb
        have := hMk.off d d0 d1 hb
        have := hMb d d0 d1
        omega
      · intro h
        exact hMk.on d d0 d1 h
    have hM'b : ∀ i : Int, 0 ≤ i → i ≤ n → gt M' i ≤ j + 1 := fun i i0 i1 => by
      by_cases hb : (badN (hasB g) n cs v i || (decide (k = 4) && badS (hasB g) n cs v i)) = true
      · rw [hMk.on i i0 i1 hb]; omega
      · rw [hMk.off i i0 i1 hb]; have := hMb i i0 i1; omega
    refine gg ?_
    refine glp (fun d : Int => 0 ≤ d ∧ d ≤ c0 ∧ ∀ e : Int, 0 ≤ e → e < d → badB k (hasB g) n cs v e = true) (fun d => [(0, vi k), (11, .pointer (some ⟨z.gb, 0, none⟩)), (14, vi v), (15, vi d), (55, .slice A l.length c), (56, vi l.length), (57, vi j)])
      (fun d => GrI z n k yy g RR cs M' (j + 1)) (fun d => (c0 - d).toNat) 0 ⟨by omega, by omega, fun e e0 e1 => by omega⟩ ?_
    rintro d ⟨hd0, hd1, hdb⟩
    dsimp only [GrI]
    have hmd := hmark d hd0 (by omega)
    cases hbd : badB k (hasB g) n cs v d with
    | true =>
      have hne : d ≠ c0 := fun e => by rw [e, hfr] at hbd; cases hbd
      have hmd' := hmd.2 hbd
      refine gg ?_
      refine wc_quiet mixed (by kernel_rfl) ?_
      refine gg ?_
      exact gnx (d + 1) ⟨by omega, by omega, fun e e0 e1 => by
        by_cases h : e = d
        · rw [h]; exact hbd
        · exact hdb e e0 (by omega)⟩ (by omega)
    | false =>
      have hmd' : gt M' d ≠ j + 1 := fun h => by rw [hmd.1 h] at hbd; cases hbd
      have hlc : leastC (badB k (hasB g) n cs v) (n + 1) 0 = d := leastC_eq c00 (by omega) hfr hd0 hbd hdb
      have hbN : badN (hasB g) n cs v d = false := by
        rw [badB_not5 hk] at hbd
        exact (Bool.or_eq_false_iff.1 hbd).1
      have hGI2 := hGI.next hon hev hirr hv.1 hv.2 hnin (by rw [htk]; omega) hd0 (by omega) hbN
      have hcs2 : cs.set v.toNat d = greedyS k (hasB g) n (l.take (j + 1).toNat) := by
        rw [hnext]
        unfold greedyS
        rw [greedyL_snoc]
        unfold greedyS at hcs
        rw [← hcs, hlc]
      refine gg ?_
      refine wc_quiet mixed (by kernel_rfl) ?_
      refine gg ?_
      exact gnx (⟨j + 1, cs.set v.toNat d, M'⟩ : GrX) ⟨by dsimp only; omega, by dsimp only; omega, hcs2, by dsimp only; rw [hnext]; exact hGI2, hM'l, hM'b⟩ (by dsimp only; omega)
  obtain rfl : j = n := by omega
  rw [Int.toNat_natCast, List.take_of_length_le (by omega)] at hcs hGI
  have hmr : ∀ e ∈ cs, -1 ≤ e ∧ e < 100000 := fun e he => by
    obtain ⟨i, i0, i1, h⟩ := mem_gt he
    have := hCs.rng i i0 (by omega)
    omega
  have hnum : ∀ w, Rds vi w (some ⟨z.cb, 0, none⟩) n cs → Calls Try.prog 63 [.slice (some ⟨z.cb, 0, none⟩) n n].toArray w (one (vi (numS cs)) w) := fun w h => by
    have := number_c w h hmr (by omega)
    rwa [hcl] at this
  dsimp only [GrI]
  refine gg ?_
  refine wc_quiet mixed (by kernel_rfl) ?_
  refine gg ?_
  refine gc2 (fun w hst => hnum w (grd hst)) (by exact rfl) ?_
  refine gg ?_
  exact grt (⟨some ⟨z.cb, 0, none⟩, n, cs⟩ : RX) hcs (h1 := ⟨.t (look_to rfl (by rw [hcl])), .t rfl, .t rfl, trivial⟩)
end
end Go.Proofs.Ytoiiellaoikojaa
