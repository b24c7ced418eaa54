/- Walks: the law ColourClasses. -/
import Derived.Test.YtoiiellaoikojaaK8
set_option linter.unusedVariables false
set_option linter.unusedSimpArgs false
set_option maxHeartbeats 8000000
namespace Go.Proofs.Ytoiiellaoikojaa
open Go.RowKit
section
variable {A : Option Addr} {c g : Nat} {l : List Int}
theorem gints_c (s : GS) (w : World) (hA : RdO vi w ((Giv g s).flatMap Res.fp) A c l) (hl : l.length ≤ 17592186043904) (he : s.es.length ≤ 1000) (hw : Own (Giv g s) w) :
    Calls Try.prog 22 [.pointer (some ⟨g, 0, none⟩), .slice A l.length c].toArray w (Ret [bun (Giv g s)] (fun y : GS × GE => .slice y.2.A l.length y.2.c) (fun y => [bun (Giv g y.1)]) (fun y => y.1.es = s.es ++ [y.2] ∧ y.2.xs = l ++ gMarks) w) :=
  (ints_c s w hA hl he hw).mono fun e w' h => h.bun
/-- a given list reads so -/
theorem grdI {w0 w : World} {D : List Nat} {σ : List Res} {s : GS} {e : GE} (hst : St w0 D σ w) (h1 : e ∈ s.es) (x1 : e.xs = l ++ gMarks) (h : HasR σ (bun (Giv g s)) := by (repeat (first | exact .here | refine .there ?_)) <;> fail) : Rds vi w e.A e.c l := by
  have q1 := grB hst (Giv.mem (g := g) h1).1 h
  rw [x1] at q1
  exact (osl_reads q1).pre
theorem grdW {w0 w : World} {D : List Nat} {σ : List Res} {rows : List RW} {k : Int} (hst : St w0 D σ w) (k0 : 0 ≤ k) (k1 : k < rows.length) (h : HasR σ (bun (rows.map rwR)) := by (repeat (first | exact .here | refine .there ?_)) <;> fail) : Rds vi w (gt rows k).A (gt rows k).c (gt rows k).xs :=
  osl_reads (grB (r := rwR (gt rows k)) hst (List.mem_map.2 ⟨_, gt_mem k0 k1, rfl⟩) h)
theorem lawColourClasses_c (w : World) (hA : Rds vi w A c l) (hl : l.length ≤ 17592186043904) :
    Calls Try.prog 5 [.slice A l.length c].toArray w (one (.bool true) w) := by
  have oA := hA.old
  refine calls_wc [] [] [.tmp 2] (fun _ => [.bool true]) Try.func5 rfl rfl (fun _ => rfl) Try.ntmps5 rfl (Own.nil w) rfl ?_
  refine gnil ?_
  refine gg ?_
  refine wl_none TIs sv ?_
  refine wl_none TIs sv ?_
  refine wl_op (ok_alloc rfl rfl rfl rfl (ze_of rfl) ?_); intro g
  refine wl_giv (g := g) ?_
  (repeat (first | refine gk1 ?_ | refine gk2 ?_ | refine gk3 ?_ | refine gk0 ?_ | refine gk4 ?_))
  refine gg ?_
  refine gc3 [bun (Giv g ⟨none, 0, none, 0, []⟩)] (fun w hst hst1 => gints_c ⟨none, 0, none, 0, []⟩ w (oA.later (bun_out1 hst1)) hl (by simp) (bun_out1 hst1).own) (by exact rfl) ?_
  (repeat (first | refine gk1 ?_ | refine gk2 ?_ | refine gk3 ?_ | refine gk0 ?_ | refine gk4 ?_))
  rintro ⟨z, e⟩ ⟨h1, h2⟩
  dsimp only [List.cons_append, List.nil_append] at h1 h2 ⊢
  have me : e ∈ z.es := by rw [h1]; simp
  by_cases hm : clMay l
  · refine gc3 [] (fun w hst hst1 => classes_c (l := l) w (grdI hst me h2) hm) (by exact rfl) ?_
    (repeat (first | refine gk1 ?_ | refine gk2 ?_ | refine gk3 ?_ | refine gk0 ?_ | refine gk4 ?_))
    rintro ⟨_, A1, c1, r1⟩ hI1
    dsimp only [List.cons_append, List.nil_append] at hI1 ⊢
    refine gg ?_
    refine gc3 [] (fun w hst hst1 => refClasses_c (l := l) w (oA.now hst) hm) (by exact rfl) ?_
    (repeat (first | refine gk1 ?_ | refine gk2 ?_ | refine gk3 ?_ | refine gk0 ?_ | refine gk4 ?_))
    rintro ⟨_, A2, c2, r2⟩ hI2
    dsimp only [List.cons_append, List.nil_append] at hI2 ⊢
    have l1 := hI1.len
    have l2 := hI2.len
    have m1 : (r1.map rwV).length = r1.length := List.length_map _
    have m2 : (r2.map rwV).length = r2.length := List.length_map _
    have hnr := numS_rng l (m := 65537) (fun d hd => by
      obtain ⟨i, i0, i1, e⟩ := mem_gt hd
      have := hm.2 i i0 i1
      omega) (by omega)
    refine gg ?_
    refine gc1 (fun w hst => num_c _ w) (by exact rfl) ?_
    refine gg ?_
    refine gc3 [bun (Giv g z)] (fun w hst hst1 => gintact_c z w (by rw [h1]; simp) (bun_out1 hst1).own) (by exact rfl) ?_
    (repeat (first | refine gk1 ?_ | refine gk2 ?_ | refine gk3 ?_ | refine gk0 ?_ | refine gk4 ?_))
    rintro _ _
    dsimp only [List.cons_append, List.nil_append]
    refine gg ?_
    refine gc1 (fun w hst => alive_c w) (by exact rfl) ?_
    refine gg ?_
    refine glp (fun k : Int => 0 ≤ k ∧ k ≤ r2.length) (fun k => [(4, .slice A1 r1.length c1), (6, .slice A2 r2.length c2), (8, vi k)])
      (fun k => [osl TIs sv A1 c1 (r1.map rwV), bun (r1.map rwR), osl TIs sv A2 c2 (r2.map rwV), bun (r2.map rwR)]) (fun k => (r2.length - k).toNat) 0 ⟨by omega, by omega⟩ ?_
    rintro k ⟨hk0, hk1⟩
    by_cases hk : k < r2.length
    · have e1 := hI1.at_ k hk0 (by omega)
      have e2 := hI2.at_ k hk0 (by omega)
      refine gg ?_
      refine wc_quiet mixed (by kernel_rfl) ?_
      refine gg ?_
      refine gc2 (fun w hst => (by
        rw [map_rwV_at hk0 (by omega), map_rwV_at hk0 (by omega)]
        exact sameInts_c (xs := (gt r1 k).xs) (ys := (gt r2 k).xs) w (grdW hst hk0 (by omega)) (grdW hst hk0 (by omega)) true (by rw [e1, e2]; simp) : Calls Try.prog 24 [sv (gt (r1.map rwV) k), sv (gt (r2.map rwV) k)].toArray w (one (.bool true) w))) (by exact rfl) ?_
      refine gg ?_
      exact gnx (k + 1) ⟨by omega, by omega⟩ (by omega)
    · refine gg ?_
      exact grt () trivial
  · refine gc1 (fun w hst => classesE_c (l := l) w (grdI hst me h2) hm) (by exact rfl) ?_
    refine gg ?_
    refine gc1 (fun w hst => refClassesE_c (l := l) w (oA.now hst) hm) (by exact rfl) ?_
    refine gg ?_
    refine gc1 (fun w hst => num_c _ w) (by exact rfl) ?_
    refine gg ?_
    refine gc3 [bun (Giv g z)] (fun w hst hst1 => gintact_c z w (by rw [h1]; simp) (bun_out1 hst1).own) (by exact rfl) ?_
    (repeat (first | refine gk1 ?_ | refine gk2 ?_ | refine gk3 ?_ | refine gk0 ?_ | refine gk4 ?_))
    rintro _ _
    dsimp only [List.cons_append, List.nil_append]
    refine gg ?_
    refine gc1 (fun w hst => alive_c w) (by exact rfl) ?_
    refine gg ?_
    refine glp (fun k : Int => k = 0) (fun k => [(4, .slice none 0 0), (6, .slice none 0 0), (8, vi k)]) (fun k => []) (fun k => 0) 0 rfl ?_
    rintro k rfl
    refine gg ?_
    exact grt () trivial
end
end Go.Proofs.Ytoiiellaoikojaa
