/- Walks: the reference: Has, Places. -/
import Derived.Test.YtoiiellaoikojaaTD
set_option linter.unusedVariables false
set_option linter.unusedSimpArgs false
set_option maxHeartbeats 8000000
namespace Go.Proofs.Ytoiiellaoikojaa
open Go.RowKit
section
variable {p : Pat} {A B : Option Addr} {c d : Nat}
theorem refPlaces_f (w : World) (hA : Rds vi w A c p.start) (hB : Rds vi w B d p.cols) (hm : ¬ May p) :
    Calls Try.prog 82 [patV p A c B d].toArray w (one (.tuple #[.slice none 0 0, .slice none 0 0, .int .i64 180]) w) := by
  have oA := hA.old
  have oB := hB.old
  unfold patV
  refine calls_wc [] [] [.tmp 2, .tmp 3, .tmp 4] (fun _ => [.slice none 0 0, .slice none 0 0, .int .i64 180]) Try.func82 rfl rfl (fun _ => rfl) Try.ntmps82 rfl (Own.nil w) rfl ?_
  refine gg ?_
  refine wl_op (ok_box rfl rfl rfl rfl rfl ?_); intro bp
  refine gg ?_
  refine gc1 (fun w hst => refMay_c (oA.now hst) (oB.now hst) false (by simp [hm])) (by exact rfl) ?_
  refine gg ?_
  exact ⟨(), _, .cons (rv_tmp rfl) (.cons (rv_tmp rfl) (.cons (rv_tmp rfl) .nil)), trivial, List.Perm.refl _⟩
theorem refPlaces_t (w : World) (hA : Rds vi w A c p.start) (hB : Rds vi w B d p.cols) (hm : May p) :
    Calls Try.prog 82 [patV p A c B d].toArray w (Ret [] (fun x : PX => .tuple #[.slice x.A x.rs.length x.c, .slice x.B x.cs.length x.d, vi 0]) (fun x => [osl TI vi x.A x.c x.rs, osl TI vi x.B x.d x.cs]) (fun x => PlR p p.cols.length x.rs ∧ x.cs = p.cols) w) := by
  have oA := hA.old
  have oB := hB.old
  have lA := hA.len
  have hl := hm.small
  have HD := hm.toHead
  obtain ⟨h1, h2, h3, h4, h5, h6, h7, h8⟩ := hm.toHead
  unfold patV
  refine calls_wc [] [] [.tmp 2, .tmp 3, .tmp 4] (fun x : PX => [.slice x.A x.rs.length x.c, .slice x.B x.cs.length x.d, vi 0]) Try.func82 rfl rfl (fun _ => rfl) Try.ntmps82 rfl (Own.nil w) rfl ?_
  refine gg ?_
  refine wl_op (ok_box rfl rfl rfl rfl rfl ?_); intro bp
  refine gg ?_
  refine gc1 (fun w hst => refMay_c (oA.now hst) (oB.now hst) true (by simp [hm])) (by exact rfl) ?_
  refine gg ?_
  refine wc_nil TI vi ?_
  refine wc_nil TI vi ?_
  refine wc_loopP (fun x : Int × PX => 0 ≤ x.1 ∧ x.1 ≤ p.rows ∧ PlR p (gt p.start x.1) x.2.rs ∧ x.2.cs = p.cols.take (gt p.start x.1).toNat) (fun x => [(1, .pointer (some ⟨bp, 0, none⟩)), (5, .slice x.2.A x.2.rs.length x.2.c), (6, .slice x.2.B x.2.cs.length x.2.d), (7, vi x.1)])
    (fun x => [osl TI vi x.2.A x.2.c x.2.rs, osl TI vi x.2.B x.2.d x.2.cs, blk bp (patC p A c B d) TP]) (fun x => (p.rows - x.1).toNat) (0, ⟨none, 0, none, 0, [], []⟩) ⟨by simp, h1, by dsimp only; rw [h6]; exact PlR.zero p, by dsimp only; rw [h6]; rfl⟩ (.cons rfl (.cons rfl (.cons rfl (.cons rfl .nil)))) (List.Perm.refl _) ?_
  rintro ⟨r, A1, c1, B1, d1, rs, cs⟩ ⟨hr0, hr1, hp, hcs⟩
  dsimp only at hr0 hr1 hp hcs ⊢
  by_cases hr : r < p.rows
  · have g1 := HD.lo hr0 hr1
    have g2 := HD.hi (r := r + 1) (by omega) (by omega)
    have g3 := HD.step hr0 hr
    refine gg ?_
    refine wc_loopP (fun x : Int × PX => gt p.start r ≤ x.1 ∧ x.1 ≤ gt p.start (r + 1) ∧ PlR p x.1 x.2.rs ∧ x.2.cs = p.cols.take x.1.toNat) (fun x => [(1, .pointer (some ⟨bp, 0, none⟩)), (5, .slice x.2.A x.2.rs.length x.2.c), (6, .slice x.2.B x.2.cs.length x.2.d), (7, vi r), (8, vi x.1)])
      (fun x => [osl TI vi x.2.A x.2.c x.2.rs, osl TI vi x.2.B x.2.d x.2.cs, blk bp (patC p A c B d) TP]) (fun x => (gt p.start (r + 1) - x.1).toNat) (gt p.start r, ⟨A1, c1, B1, d1, rs, cs⟩) ⟨by simp, g3, hp, hcs⟩ (.cons rfl (.cons rfl (.cons rfl (.cons rfl (.cons rfl .nil))))) (List.Perm.refl _) ?_
    rintro ⟨k, A1, c1, B1, d1, rs, cs⟩ ⟨hk0, hk1, hp, hcs⟩
    dsimp only at hk0 hk1 hp hcs ⊢
    by_cases hk : k < gt p.start (r + 1)
    · have hrl := hp.len
      have hcl : cs.length = k.toNat := by rw [hcs, List.length_take]; omega
      refine gg ?_
      refine wl_op (ok_build1 vi r rfl rfl rfl rfl rfl (el_of rfl) (ze_of rfl) rfl (sz_of rfl) rfl ?_)
      intro bb
      refine wl_op (ok_append 1 vi (ys := [r]) rfl rfl rfl rfl rfl rfl rfl (el_of rfl) (ze_of rfl) rfl (sz_of rfl) (by_of rfl) ⟨_, rfl⟩ (fun w hst => osl_reads (hst.at_ 0 rfl)) (fun _ => rfl) (by simp only [List.length_singleton]; omega) (by simp only [List.length_singleton]; omega) ?_)
      intro A' c'
      refine gg ?_
      refine wl_op (ok_build1 vi (gt p.cols k) rfl rfl rfl rfl rfl (el_of rfl) (ze_of rfl) rfl (sz_of rfl) rfl ?_)
      intro bb'
      refine wl_op (ok_append 3 vi (ys := [gt p.cols k]) rfl rfl rfl rfl rfl rfl rfl (el_of rfl) (ze_of rfl) rfl (sz_of rfl) (by_of rfl) ⟨_, rfl⟩ (fun w hst => osl_reads (hst.at_ 0 rfl)) (fun _ => rfl) (by simp only [List.length_singleton]; omega) (by simp only [List.length_singleton]; omega) ?_)
      intro B' d'
      refine gg ?_
      refine ⟨(k + 1, ⟨A', c', B', d', rs ++ [r], cs ++ [gt p.cols k]⟩), ⟨by dsimp only; omega, by dsimp only; omega, hp.snoc hr0 hr hk0 hk, ?_⟩, .cons rfl (.cons rfl (.cons rfl (.cons rfl (.cons rfl .nil)))), ⟨[osl TI vi (some ⟨bb', 0, none⟩) 1 [gt p.cols k], osl TI vi (some ⟨bb, 0, none⟩) 1 [r]], List.perm_append_comm (l₁ := [_, _, _])⟩, by dsimp only; omega⟩
      dsimp only
      have := take_snoc (xs := p.cols) (k := k.toNat) (by omega)
      rw [show (k + 1).toNat = k.toNat + 1 by omega, this, hcs, show ((k.toNat : Nat) : Int) = k by omega]
    · obtain rfl : k = gt p.start (r + 1) := by omega
      refine gg ?_
      exact ⟨(r + 1, ⟨A1, c1, B1, d1, rs, cs⟩), ⟨by dsimp only; omega, by dsimp only; omega, hp, hcs⟩, .cons rfl (.cons rfl (.cons rfl (.cons rfl .nil))), ⟨[], by simp⟩, by dsimp only; omega⟩
  · obtain rfl : r = p.rows := by omega
    rw [h7] at hp hcs
    refine gg ?_
    exact ⟨⟨A1, c1, B1, d1, rs, cs⟩, [blk bp (patC p A c B d) TP], .cons (rv_tmp rfl) (.cons (rv_tmp rfl) (.cons (rv_tmp rfl) .nil)), ⟨hp, by rw [hcs]; simp⟩, List.Perm.refl _⟩
theorem PlR.uniq {rs rs' : List Int} (hm : May p) {k : Int} (h : PlR p k rs) (h' : PlR p k rs') : rs = rs' := by
  refine gt_ext (by have := h.len; have := h'.len; omega) fun i h0 h1 => ?_
  have hl := h.len
  obtain ⟨a0, a1, a2, a3⟩ := h.row i h0 (by omega)
  obtain ⟨b0, b1, b2, b3⟩ := h'.row i h0 (by omega)
  have hs := hm.toHead.s
  have hlen := hm.toHead.len
  by_cases hlt : gt rs i < gt rs' i
  · have := hs.mono (i := gt rs i + 1) (j := gt rs' i) (by omega) (by omega) (by omega); omega
  · by_cases hgt : gt rs' i < gt rs i
    · have := hs.mono (i := gt rs' i + 1) (j := gt rs i) (by omega) (by omega) (by omega); omega
    · omega
end
end Go.Proofs.Ytoiiellaoikojaa
