/- Walks: a table as a pattern. -/
import Derived.Test.YtofngbaefbbeiaaT2
import Derived.Test.YtofngbaefbbeiaaT3
import Derived.Test.YtofngbaefbbeiaaS9
set_option linter.unusedVariables false
set_option linter.unusedSimpArgs false
set_option maxHeartbeats 8000000
namespace Go.Proofs.Ytofngbaefbbeiaa
open Go.RowKit

abbrev TP : TypeId := 24
section
variable {P : Program} {n : Nat} {w0 : World} {D : List Nat} {Γ : Tm} {σ : List Res} {ops : Array Oper} {o : Oper} {R : Nat} {ms : List Nat} {S : Int → Int → Bool} {i : Int}
theorem val_lookTab (m : Nat) (hi : σ[m]? = some (Tab R ms S)) {x y : Operand} {c : Int} (hop : o.op = .lookup TM x y false) (hx : ev Γ x = some (.map (some (gt ms i)))) (hy : ev Γ y = some (.int .i64 c)) (h0 : 0 ≤ i) (h1 : i < ms.length) (hc0 : 0 ≤ c) (hc1 : c < 128) : ValOK Try.prog w0 D σ Γ o (.agg #[]) :=
  ⟨fun w hst f hf => by
    have hlt : i.toNat < ms.length := by omega
    have hms : gt ms i = ms[i.toNat] := by simp [gt, List.getD_eq_getElem?_getD, List.getElem?_eq_getElem hlt]
    obtain ⟨D0, hown, h2, h3⟩ := (hst.at_ m hi).2 i.toNat hlt
    have hkey : keyOf Try.prog TI (.int .i64 c) = some (.int .i64 c) := Maps.keyOf_int_mk Try.underlying3 (wf64 hc0 hc1)
    obtain ⟨v, ps, hr, hv⟩ := hown.lookup keyedI underM (z := .agg #[]) (run_zeroValue' (ze_of rfl)) unitElem_mk hkey
    obtain ⟨rfl, _⟩ := unitElem_inv hv
    simp [execOp, hop, hf _ _ hx, hf _ _ hy, hms, hr, Result.andThen]⟩
theorem wc_nil {c : Code} {Q : QQ} {α : Type} (e : TypeId) (f : α → Value) (h : WC P n w0 D c Q Γ (osl e f none 0 [] :: σ)) : WC P n w0 D c Q Γ σ :=
  .mk fun a w hs hst => h.run a w hs (hst.push (Only.refl _ _) _ ⟨by simp, .inl ⟨rfl, rfl⟩⟩ (by simp [osl, ownB]) (by simp [osl, ownB]))
end

structure PS where
  r : Nat
  As : Option Addr
  cs : Nat
  Ac : Option Addr
  cc : Nat
  Av : Option Addr
  cv : Nat
  k : Nat
/-- a set's columns lie in the first 128 -/
theorem tab_in {R : Nat} {ms : List Nat} {S : Int → Int → Bool} {w : World} (h : (Tab R ms S).ok w) (r : Nat) (hr : r < ms.length) : ∀ y, S r y = true → 0 ≤ y ∧ y < 128 := by
  obtain ⟨D0, _, _, h3⟩ := h.2 r hr
  exact h3

theorem pattern_c {R : Nat} {ms : List Nat} {S : Int → Int → Bool} {width : Int} (w : World) (hw : Own [Tab R ms S] w) (hl : ms.length ≤ 128) :
    Calls Try.prog 108 [tabV width R ms].toArray w (Ret [Tab R ms S] (fun x : Option Addr × Nat × Option Addr × Nat × Value => .tuple #[patV (shutP ms.length width S) x.1 x.2.1 x.2.2.1 x.2.2.2.1, x.2.2.2.2])
      (fun x => [osl TI vi x.1 x.2.1 (shutP ms.length width S).start, osl TI vi x.2.2.1 x.2.2.2.1 (shutP ms.length width S).cols, Tab R ms S]) (fun _ => True) w) := by
  refine calls_wc (R :: ms) [Tab R ms S] [.cell 2 TP, .tmp 3] (fun x : Option Addr × Nat × Option Addr × Nat × Value => [patV (shutP ms.length width S) x.1 x.2.1 x.2.2.1 x.2.2.2.1, x.2.2.2.2]) Try.func108 rfl rfl (fun _ => rfl) Try.ntmps108 rfl hw (by simp [Tab]) ?_
  unfold tabV
  (repeat (first | with_reducible refine thenQ_normal ?_ | with_reducible refine thenQ_exit ?_ | with_reducible refine thenQ_ret ?_ | with_reducible refine blkQ_normal ?_ | with_reducible refine blkQ_ret ?_ | with_reducible refine blkQ_hit ?_ | (with_reducible refine blkQ_miss ?_ ?_; · rfl) | refine wc_seq ?_ | refine wc_skip ?_ | refine wc_block ?_ | refine wc_true rfl ?_ | refine wc_false rfl ?_ | refine wc_exit ?_ | refine wc_ret ?_ | (refine wc_region ?_; repeat (first | refine gp1 (by exact rfl) ?_ | refine gl1 (by exact rfl) ?_ | refine gb1 (by exact rfl) ?_ | refine gi1 (by exact rfl) ?_ | refine gt1 (by exact rfl) ?_)) | refine wl_nil ?_ | refine wq_nil ?_ | refine gp1 (by exact rfl) ?_ | refine gl1 (by exact rfl) ?_ | refine gb1 (by exact rfl) ?_ | refine gi1 (by exact rfl) ?_ | refine gt1 (by exact rfl) ?_ | refine gp2 (by exact rfl) ?_ | refine gl2 (by exact rfl) ?_ | refine gb2 (by exact rfl) ?_ | refine gi2 (by exact rfl) ?_))
  refine wl_op (ok_box rfl rfl rfl rfl rfl ?_); intro b1
  refine wl_op (ok_alloc rfl rfl rfl rfl (ze_of rfl) ?_); intro rb
  (repeat (first | with_reducible refine thenQ_normal ?_ | with_reducible refine thenQ_exit ?_ | with_reducible refine thenQ_ret ?_ | with_reducible refine blkQ_normal ?_ | with_reducible refine blkQ_ret ?_ | with_reducible refine blkQ_hit ?_ | (with_reducible refine blkQ_miss ?_ ?_; · rfl) | refine wc_seq ?_ | refine wc_skip ?_ | refine wc_block ?_ | refine wc_true rfl ?_ | refine wc_false rfl ?_ | refine wc_exit ?_ | refine wc_ret ?_ | (refine wc_region ?_; repeat (first | refine gp1 (by exact rfl) ?_ | refine gl1 (by exact rfl) ?_ | refine gb1 (by exact rfl) ?_ | refine gi1 (by exact rfl) ?_ | refine gt1 (by exact rfl) ?_)) | refine wl_nil ?_ | refine wq_nil ?_ | refine gp1 (by exact rfl) ?_ | refine gl1 (by exact rfl) ?_ | refine gb1 (by exact rfl) ?_ | refine gi1 (by exact rfl) ?_ | refine gt1 (by exact rfl) ?_ | refine gp2 (by exact rfl) ?_ | refine gl2 (by exact rfl) ?_ | refine gb2 (by exact rfl) ?_ | refine gi2 (by exact rfl) ?_))
  refine wc_cutK (fun z : Nat × Nat => True) (fun z => [(1, .pointer (some ⟨b1, 0, none⟩)), (2, .pointer (some ⟨rb, 0, none⟩)), (4, .pointer (some ⟨z.1, 0, none⟩))])
    (fun z => [blk z.1 [vi ms.length, vi width, .slice (some ⟨z.2, 0, none⟩) 1 (ms.length + 1), .slice none 0 0] TP, osl TI vi (some ⟨z.2, 0, none⟩) (ms.length + 1) [0], blk rb [vi 0, vi 0, .slice none 0 0, .slice none 0 0] TP, blk b1 [vi width, .slice (some ⟨R, 0, none⟩) ms.length ms.length] TT, Tab R ms S]) ?_ ?_
  · refine wa_begin mixed ?_
    (first | refine ga1 0 (by exact rfl) (by exact rfl) ?_ | refine ga2 0 (by exact rfl) (by exact rfl) ?_ | refine ga3 0 (by exact rfl) (by exact rfl) ?_ | refine ga4 0 (by exact rfl) (by exact rfl) ?_)
    (first | refine ga1 1 (by exact rfl) (by exact rfl) ?_ | refine ga2 1 (by exact rfl) (by exact rfl) ?_ | refine ga3 1 (by exact rfl) (by exact rfl) ?_ | refine ga4 1 (by exact rfl) (by exact rfl) ?_)
    (first | refine ga1 2 (by exact rfl) (by exact rfl) ?_ | refine ga2 2 (by exact rfl) (by exact rfl) ?_ | refine ga3 2 (by exact rfl) (by exact rfl) ?_ | refine ga4 2 (by exact rfl) (by exact rfl) ?_)
    (first | refine ga1 3 (by exact rfl) (by exact rfl) ?_ | refine ga2 3 (by exact rfl) (by exact rfl) ?_ | refine ga3 3 (by exact rfl) (by exact rfl) ?_ | refine ga4 3 (by exact rfl) (by exact rfl) ?_)
    (first | refine ga1 4 (by exact rfl) (by exact rfl) ?_ | refine ga2 4 (by exact rfl) (by exact rfl) ?_ | refine ga3 4 (by exact rfl) (by exact rfl) ?_ | refine ga4 4 (by exact rfl) (by exact rfl) ?_)
    (first | refine ga1 5 (by exact rfl) (by exact rfl) ?_ | refine ga2 5 (by exact rfl) (by exact rfl) ?_ | refine ga3 5 (by exact rfl) (by exact rfl) ?_ | refine ga4 5 (by exact rfl) (by exact rfl) ?_)
    (first | refine ga1 6 (by exact rfl) (by exact rfl) ?_ | refine ga2 6 (by exact rfl) (by exact rfl) ?_ | refine ga3 6 (by exact rfl) (by exact rfl) ?_ | refine ga4 6 (by exact rfl) (by exact rfl) ?_)
    (first | refine ga1 7 (by exact rfl) (by exact rfl) ?_ | refine ga2 7 (by exact rfl) (by exact rfl) ?_ | refine ga3 7 (by exact rfl) (by exact rfl) ?_ | refine ga4 7 (by exact rfl) (by exact rfl) ?_)
    (first | refine ga1 8 (by exact rfl) (by exact rfl) ?_ | refine ga2 8 (by exact rfl) (by exact rfl) ?_ | refine ga3 8 (by exact rfl) (by exact rfl) ?_ | refine ga4 8 (by exact rfl) (by exact rfl) ?_)
    refine wa_two 9 11 rfl rfl (by kernel_rfl) ?_ ?_
    · refine ok_makeSlice vi 0 rfl rfl rfl rfl rfl rfl (el_of rfl) (ze_of rfl) rfl (sz_of rfl) (by_of rfl) (by omega) (by omega) (by omega) (by omega) ?_
      intro sb
      refine ⟨⟨[_], rfl⟩, ?_⟩
      refine wa_v 10 [_] rfl (by kernel_rfl) rfl rfl rfl rfl (val_build (ps := [(0, vi ms.length), (1, vi width), (2, .slice (some ⟨sb, 0, none⟩) 1 (ms.length + 1))]) (cells := [vi ms.length, vi width, .slice (some ⟨sb, 0, none⟩) 1 (ms.length + 1), .slice none 0 0]) rfl rfl (by kernel_rfl)) ?_
      refine wa_one 11 rfl (by kernel_rfl) ?_
      refine ok_alloc rfl rfl rfl rfl (ze_of rfl) ?_
      intro tb
      refine ⟨⟨[_, _], rfl⟩, ?_⟩
      refine wa_one 12 rfl (by kernel_rfl) ?_
      refine ok_store 0 rfl rfl rfl rfl rfl rfl rfl rfl (sz_of rfl) rfl ?_
      refine ⟨⟨[_, _], rfl⟩, ?_⟩
      refine wa_done (by kernel_rfl) ?_
      exact ⟨(tb, sb), trivial, .cons rfl (.cons rfl (.cons rfl .nil)), List.Perm.refl _⟩
    · refine ok_alloc rfl rfl rfl rfl (ze_of rfl) ?_
      intro tb
      refine ⟨⟨[_], rfl⟩, ?_⟩
      refine wa_one 9 rfl (by kernel_rfl) ?_
      refine ok_makeSlice vi 0 rfl rfl rfl rfl rfl rfl (el_of rfl) (ze_of rfl) rfl (sz_of rfl) (by_of rfl) (by omega) (by omega) (by omega) (by omega) ?_
      intro sb
      refine ⟨⟨[_, _], rfl⟩, ?_⟩
      refine wa_v 10 [_, _] rfl (by kernel_rfl) rfl rfl rfl rfl (val_build (ps := [(0, vi ms.length), (1, vi width), (2, .slice (some ⟨sb, 0, none⟩) 1 (ms.length + 1))]) (cells := [vi ms.length, vi width, .slice (some ⟨sb, 0, none⟩) 1 (ms.length + 1), .slice none 0 0]) rfl rfl (by kernel_rfl)) ?_
      refine wa_one 12 rfl (by kernel_rfl) ?_
      refine ok_store 1 rfl rfl rfl rfl rfl rfl rfl rfl (sz_of rfl) rfl ?_
      refine ⟨⟨[_, _], rfl⟩, ?_⟩
      refine wa_done (by kernel_rfl) ?_
      exact ⟨(tb, sb), trivial, .cons rfl (.cons rfl (.cons rfl .nil)), List.Perm.swap _ _ _⟩
  rintro ⟨tb, sb⟩ _
  dsimp only
  (repeat (first | with_reducible refine thenQ_normal ?_ | with_reducible refine thenQ_exit ?_ | with_reducible refine thenQ_ret ?_ | with_reducible refine blkQ_normal ?_ | with_reducible refine blkQ_ret ?_ | with_reducible refine blkQ_hit ?_ | (with_reducible refine blkQ_miss ?_ ?_; · rfl) | refine wc_seq ?_ | refine wc_skip ?_ | refine wc_block ?_ | refine wc_true rfl ?_ | refine wc_false rfl ?_ | refine wc_exit ?_ | refine wc_ret ?_ | (refine wc_region ?_; repeat (first | refine gp1 (by exact rfl) ?_ | refine gl1 (by exact rfl) ?_ | refine gb1 (by exact rfl) ?_ | refine gi1 (by exact rfl) ?_ | refine gt1 (by exact rfl) ?_)) | refine wl_nil ?_ | refine wq_nil ?_ | refine gp1 (by exact rfl) ?_ | refine gl1 (by exact rfl) ?_ | refine gb1 (by exact rfl) ?_ | refine gi1 (by exact rfl) ?_ | refine gt1 (by exact rfl) ?_ | refine gp2 (by exact rfl) ?_ | refine gl2 (by exact rfl) ?_ | refine gb2 (by exact rfl) ?_ | refine gi2 (by exact rfl) ?_))
  refine wc_nil TI vi ?_
  refine wc_loopP (fun x : PS => x.r ≤ ms.length) (fun x => [(1, .pointer (some ⟨b1, 0, none⟩)), (2, .pointer (some ⟨rb, 0, none⟩)), (4, .pointer (some ⟨tb, 0, none⟩)), (5, .slice x.Av ((rowsOf ms.length S).take x.r).flatten.length x.cv), (22, .slice (some ⟨R, 0, none⟩) ms.length ms.length), (23, vi ms.length), (24, vi x.r)])
    (fun x => [blk tb [vi ms.length, vi width, .slice x.As (starts 0 ((rowsOf ms.length S).take x.r)).length x.cs, .slice x.Ac ((rowsOf ms.length S).take x.r).flatten.length x.cc] TP, osl TI vi x.As x.cs (starts 0 ((rowsOf ms.length S).take x.r)), osl TI vi x.Ac x.cc ((rowsOf ms.length S).take x.r).flatten,
      blk rb [vi 0, vi 0, .slice none 0 0, .slice none 0 0] TP, blk b1 [vi width, .slice (some ⟨R, 0, none⟩) ms.length ms.length] TT, Tab R ms S]) (fun x => ms.length - x.r) ⟨0, some ⟨sb, 0, none⟩, ms.length + 1, none, 0, none, 0, 0⟩ (by simp) (.cons rfl (.cons rfl (.cons rfl (.cons rfl (.cons rfl (.cons rfl (.cons rfl .nil))))))) ?_ ?_
  · refine (List.Perm.cons _ (List.Perm.swap _ _ _)).trans (List.Perm.swap _ _ _)
  rintro ⟨r, As, cs, Ac, cc, Av, cv, _⟩ hr
  dsimp only at hr ⊢
  by_cases hlt : r < ms.length
  · have hfl := rowsOf_flat ms.length r S
    have hfl2 := rowsOf_flat ms.length (r + 1) S
    have hrl := rowOf_len (S r)
    have hst := starts_len 0 ((rowsOf ms.length S).take r)
    have htl : ((rowsOf ms.length S).take r).length ≤ r := List.length_take_le _ _
    have hmul : 128 * ms.length ≤ 16384 := by omega
    have hms : gt ms (r : Int) = ms[r] := by simp [gt, List.getD_eq_getElem?_getD, List.getElem?_eq_getElem hlt]
    refine wc_know (fun w hst => tab_in (hst.at_ 5 rfl) r hlt) (fun hin => ?_)
    (repeat (first | with_reducible refine thenQ_normal ?_ | with_reducible refine thenQ_exit ?_ | with_reducible refine thenQ_ret ?_ | with_reducible refine blkQ_normal ?_ | with_reducible refine blkQ_ret ?_ | with_reducible refine blkQ_hit ?_ | (with_reducible refine blkQ_miss ?_ ?_; · rfl) | refine wc_seq ?_ | refine wc_skip ?_ | refine wc_block ?_ | refine wc_true rfl ?_ | refine wc_false rfl ?_ | refine wc_exit ?_ | refine wc_ret ?_ | (refine wc_region ?_; repeat (first | refine gp1 (by exact rfl) ?_ | refine gl1 (by exact rfl) ?_ | refine gb1 (by exact rfl) ?_ | refine gi1 (by exact rfl) ?_ | refine gt1 (by exact rfl) ?_)) | refine wl_nil ?_ | refine wq_nil ?_ | refine gp1 (by exact rfl) ?_ | refine gl1 (by exact rfl) ?_ | refine gb1 (by exact rfl) ?_ | refine gi1 (by exact rfl) ?_ | refine gt1 (by exact rfl) ?_ | refine gp2 (by exact rfl) ?_ | refine gl2 (by exact rfl) ?_ | refine gb2 (by exact rfl) ?_ | refine gi2 (by exact rfl) ?_))
    refine wl_callr [] _ (fun w _ => keys_c _ w) (by rfl) (by rfl) (bod_of rfl) (by rfl) (by rfl) (by rfl) (List.Perm.refl _) ?_
    intro kb _
    (repeat (first | with_reducible refine thenQ_normal ?_ | with_reducible refine thenQ_exit ?_ | with_reducible refine thenQ_ret ?_ | with_reducible refine blkQ_normal ?_ | with_reducible refine blkQ_ret ?_ | with_reducible refine blkQ_hit ?_ | (with_reducible refine blkQ_miss ?_ ?_; · rfl) | refine wc_seq ?_ | refine wc_skip ?_ | refine wc_block ?_ | refine wc_true rfl ?_ | refine wc_false rfl ?_ | refine wc_exit ?_ | refine wc_ret ?_ | (refine wc_region ?_; repeat (first | refine gp1 (by exact rfl) ?_ | refine gl1 (by exact rfl) ?_ | refine gb1 (by exact rfl) ?_ | refine gi1 (by exact rfl) ?_ | refine gt1 (by exact rfl) ?_)) | refine wl_nil ?_ | refine wq_nil ?_ | refine gp1 (by exact rfl) ?_ | refine gl1 (by exact rfl) ?_ | refine gb1 (by exact rfl) ?_ | refine gi1 (by exact rfl) ?_ | refine gt1 (by exact rfl) ?_ | refine gp2 (by exact rfl) ?_ | refine gl2 (by exact rfl) ?_ | refine gb2 (by exact rfl) ?_ | refine gi2 (by exact rfl) ?_))
    refine wl_callr [] _ (fun w hst => sorted_c (hst.at_ 0 rfl) (by rw [hms]; exact (hst.at_ 6 (r := Tab R ms S) rfl).2 r hlt)) (by rfl) (by rfl) (bod_of rfl) (by rfl) (by rfl) (by rfl) (List.Perm.refl _) ?_
    rintro ⟨A3, c3, ss⟩ ⟨hs1, hs2⟩
    dsimp only at hs1 hs2 ⊢
    obtain rfl := rowOf_eq hin hs1 hs2
    clear hs1 hs2
    (repeat (first | with_reducible refine thenQ_normal ?_ | with_reducible refine thenQ_exit ?_ | with_reducible refine thenQ_ret ?_ | with_reducible refine blkQ_normal ?_ | with_reducible refine blkQ_ret ?_ | with_reducible refine blkQ_hit ?_ | (with_reducible refine blkQ_miss ?_ ?_; · rfl) | refine wc_seq ?_ | refine wc_skip ?_ | refine wc_block ?_ | refine wc_true rfl ?_ | refine wc_false rfl ?_ | refine wc_exit ?_ | refine wc_ret ?_ | (refine wc_region ?_; repeat (first | refine gp1 (by exact rfl) ?_ | refine gl1 (by exact rfl) ?_ | refine gb1 (by exact rfl) ?_ | refine gi1 (by exact rfl) ?_ | refine gt1 (by exact rfl) ?_)) | refine wl_nil ?_ | refine wq_nil ?_ | refine gp1 (by exact rfl) ?_ | refine gl1 (by exact rfl) ?_ | refine gb1 (by exact rfl) ?_ | refine gi1 (by exact rfl) ?_ | refine gt1 (by exact rfl) ?_ | refine gp2 (by exact rfl) ?_ | refine gl2 (by exact rfl) ?_ | refine gb2 (by exact rfl) ?_ | refine gi2 (by exact rfl) ?_))
    refine wc_front 1 rfl ?_
    refine wc_drop ?_
    refine wc_loopP (fun x : PS => x.k ≤ (rowOf (S r)).length) (fun x => [(1, .pointer (some ⟨b1, 0, none⟩)), (2, .pointer (some ⟨rb, 0, none⟩)), (4, .pointer (some ⟨tb, 0, none⟩)), (5, .slice x.Av (((rowsOf ms.length S).take r).flatten ++ (rowOf (S r)).take x.k).length x.cv), (7, .map (some (gt ms (r : Int)))), (22, .slice (some ⟨R, 0, none⟩) ms.length ms.length), (23, vi ms.length), (24, vi r),
        (30, .slice A3 (rowOf (S r)).length c3), (31, vi (rowOf (S r)).length), (32, vi x.k)])
      (fun x => [osl TI vi A3 c3 (rowOf (S r)), blk tb [vi ms.length, vi width, .slice As (starts 0 ((rowsOf ms.length S).take r)).length cs, .slice x.Ac (((rowsOf ms.length S).take r).flatten ++ (rowOf (S r)).take x.k).length x.cc] TP, osl TI vi As cs (starts 0 ((rowsOf ms.length S).take r)), osl TI vi x.Ac x.cc (((rowsOf ms.length S).take r).flatten ++ (rowOf (S r)).take x.k),
        blk rb [vi 0, vi 0, .slice none 0 0, .slice none 0 0] TP, blk b1 [vi width, .slice (some ⟨R, 0, none⟩) ms.length ms.length] TT, Tab R ms S]) (fun x => (rowOf (S r)).length - x.k) ⟨r, As, cs, Ac, cc, Av, cv, 0⟩ (by simp) ?_ ?_ ?_
    · refine .cons rfl (.cons rfl (.cons rfl (.cons (look_to rfl (by simp)) (.cons rfl (.cons rfl (.cons rfl (.cons rfl (.cons rfl (.cons rfl (.cons rfl .nil))))))))))
    · simp only [List.take_zero, List.append_nil]
      exact List.Perm.refl _
    rintro ⟨_, _, _, Ac, cc, Av, cv, k⟩ hk
    dsimp only at hk ⊢
    by_cases hkl : k < (rowOf (S r)).length
    · have hy : gt (rowOf (S r)) (k : Int) = (rowOf (S r))[k] := by simp [gt, List.getD_eq_getElem?_getD, List.getElem?_eq_getElem hkl]
      have hin2 := hin _ ((mem_rowOf.1 (List.getElem_mem hkl)).2)
      rw [← hy] at hin2
      have htk : (((rowsOf ms.length S).take r).flatten ++ (rowOf (S r)).take (k + 1)) = (((rowsOf ms.length S).take r).flatten ++ (rowOf (S r)).take k) ++ [gt (rowOf (S r)) (k : Int)] := by
        rw [hy, List.take_succ_eq_append_getElem hkl, List.append_assoc]
      have hlen : (((rowsOf ms.length S).take r).flatten ++ (rowOf (S r)).take k).length ≤ 20000 := by
        have := List.length_take_le k (rowOf (S r))
        simp only [List.length_append]; omega
      (repeat (first | with_reducible refine thenQ_normal ?_ | with_reducible refine thenQ_exit ?_ | with_reducible refine thenQ_ret ?_ | with_reducible refine blkQ_normal ?_ | with_reducible refine blkQ_ret ?_ | with_reducible refine blkQ_hit ?_ | (with_reducible refine blkQ_miss ?_ ?_; · rfl) | refine wc_seq ?_ | refine wc_skip ?_ | refine wc_block ?_ | refine wc_true rfl ?_ | refine wc_false rfl ?_ | refine wc_exit ?_ | refine wc_ret ?_ | (refine wc_region ?_; repeat (first | refine gp1 (by exact rfl) ?_ | refine gl1 (by exact rfl) ?_ | refine gb1 (by exact rfl) ?_ | refine gi1 (by exact rfl) ?_ | refine gt1 (by exact rfl) ?_)) | refine wl_nil ?_ | refine wq_nil ?_ | refine gp1 (by exact rfl) ?_ | refine gl1 (by exact rfl) ?_ | refine gb1 (by exact rfl) ?_ | refine gi1 (by exact rfl) ?_ | refine gt1 (by exact rfl) ?_ | refine gp2 (by exact rfl) ?_ | refine gl2 (by exact rfl) ?_ | refine gb2 (by exact rfl) ?_ | refine gi2 (by exact rfl) ?_))
      refine wl_op (ok_build1 vi (gt (rowOf (S r)) (k : Int)) rfl rfl rfl rfl rfl (el_of rfl) (ze_of rfl) rfl (sz_of rfl) rfl ?_)
      intro bb
      refine wl_op (ok_append 4 vi (ys := [gt (rowOf (S r)) (k : Int)]) rfl rfl rfl rfl rfl rfl rfl (el_of rfl) (ze_of rfl) rfl (sz_of rfl) (by_of rfl) ⟨_, rfl⟩ (fun w hst => osl_reads (hst.at_ 0 rfl)) (fun _ => rfl) (by simp only [List.length_singleton]; omega) (by simp only [List.length_singleton]; omega) ?_)
      intro Ac' cc'
      (repeat (first | with_reducible refine thenQ_normal ?_ | with_reducible refine thenQ_exit ?_ | with_reducible refine thenQ_ret ?_ | with_reducible refine blkQ_normal ?_ | with_reducible refine blkQ_ret ?_ | with_reducible refine blkQ_hit ?_ | (with_reducible refine blkQ_miss ?_ ?_; · rfl) | refine wc_seq ?_ | refine wc_skip ?_ | refine wc_block ?_ | refine wc_true rfl ?_ | refine wc_false rfl ?_ | refine wc_exit ?_ | refine wc_ret ?_ | (refine wc_region ?_; repeat (first | refine gp1 (by exact rfl) ?_ | refine gl1 (by exact rfl) ?_ | refine gb1 (by exact rfl) ?_ | refine gi1 (by exact rfl) ?_ | refine gt1 (by exact rfl) ?_)) | refine wl_nil ?_ | refine wq_nil ?_ | refine gp1 (by exact rfl) ?_ | refine gl1 (by exact rfl) ?_ | refine gb1 (by exact rfl) ?_ | refine gi1 (by exact rfl) ?_ | refine gt1 (by exact rfl) ?_ | refine gp2 (by exact rfl) ?_ | refine gl2 (by exact rfl) ?_ | refine gb2 (by exact rfl) ?_ | refine gi2 (by exact rfl) ?_))
      refine wl_v rfl rfl rfl (val_lookTab 7 rfl rfl rfl rfl (by omega) (by omega) hin2.1 hin2.2) ?_
      refine wl_op (ok_build0 rfl rfl rfl rfl rfl ?_)
      intro _
      refine wl_op (ok_append0 rfl rfl rfl rfl rfl rfl (by omega) ?_)
      intro Av' cv'
      (repeat (first | with_reducible refine thenQ_normal ?_ | with_reducible refine thenQ_exit ?_ | with_reducible refine thenQ_ret ?_ | with_reducible refine blkQ_normal ?_ | with_reducible refine blkQ_ret ?_ | with_reducible refine blkQ_hit ?_ | (with_reducible refine blkQ_miss ?_ ?_; · rfl) | refine wc_seq ?_ | refine wc_skip ?_ | refine wc_block ?_ | refine wc_true rfl ?_ | refine wc_false rfl ?_ | refine wc_exit ?_ | refine wc_ret ?_ | (refine wc_region ?_; repeat (first | refine gp1 (by exact rfl) ?_ | refine gl1 (by exact rfl) ?_ | refine gb1 (by exact rfl) ?_ | refine gi1 (by exact rfl) ?_ | refine gt1 (by exact rfl) ?_)) | refine wl_nil ?_ | refine wq_nil ?_ | refine gp1 (by exact rfl) ?_ | refine gl1 (by exact rfl) ?_ | refine gb1 (by exact rfl) ?_ | refine gi1 (by exact rfl) ?_ | refine gt1 (by exact rfl) ?_ | refine gp2 (by exact rfl) ?_ | refine gl2 (by exact rfl) ?_ | refine gb2 (by exact rfl) ?_ | refine gi2 (by exact rfl) ?_))
      refine ⟨⟨r, As, cs, Ac', cc', Av', cv', k + 1⟩, by dsimp only; omega, ?_, ?_, by dsimp only; omega⟩
      · dsimp only
        refine .cons rfl (.cons rfl (.cons rfl (.cons (look_to rfl (by rw [htk]; simp only [List.length_append, List.length_singleton])) (.cons rfl (.cons rfl (.cons rfl (.cons rfl (.cons rfl (.cons rfl (.cons (look_to rfl (by simp [vi])) .nil))))))))))
      · dsimp only
        rw [htk]
        exact ⟨[_], List.perm_append_singleton _ _⟩
    · obtain rfl : k = (rowOf (S r)).length := by omega
      have hflat : ((rowsOf ms.length S).take (r + 1)).flatten = ((rowsOf ms.length S).take r).flatten ++ rowOf (S r) := by
        rw [rowsOf_take hlt, List.flatten_append]; simp
      have hstart : starts 0 ((rowsOf ms.length S).take (r + 1)) = starts 0 ((rowsOf ms.length S).take r) ++ [((((rowsOf ms.length S).take r).flatten ++ rowOf (S r)).length : Int)] := by
        rw [rowsOf_take hlt, starts_snoc, List.length_append]
        congr 2
        omega
      rw [List.take_length]
      (repeat (first | with_reducible refine thenQ_normal ?_ | with_reducible refine thenQ_exit ?_ | with_reducible refine thenQ_ret ?_ | with_reducible refine blkQ_normal ?_ | with_reducible refine blkQ_ret ?_ | with_reducible refine blkQ_hit ?_ | (with_reducible refine blkQ_miss ?_ ?_; · rfl) | refine wc_seq ?_ | refine wc_skip ?_ | refine wc_block ?_ | refine wc_true rfl ?_ | refine wc_false rfl ?_ | refine wc_exit ?_ | refine wc_ret ?_ | (refine wc_region ?_; repeat (first | refine gp1 (by exact rfl) ?_ | refine gl1 (by exact rfl) ?_ | refine gb1 (by exact rfl) ?_ | refine gi1 (by exact rfl) ?_ | refine gt1 (by exact rfl) ?_)) | refine wl_nil ?_ | refine wq_nil ?_ | refine gp1 (by exact rfl) ?_ | refine gl1 (by exact rfl) ?_ | refine gb1 (by exact rfl) ?_ | refine gi1 (by exact rfl) ?_ | refine gt1 (by exact rfl) ?_ | refine gp2 (by exact rfl) ?_ | refine gl2 (by exact rfl) ?_ | refine gb2 (by exact rfl) ?_ | refine gi2 (by exact rfl) ?_))
      refine wl_op (ok_build1 vi ((((rowsOf ms.length S).take r).flatten ++ rowOf (S r)).length : Int) rfl rfl rfl rfl rfl (el_of rfl) (ze_of rfl) rfl (sz_of rfl) rfl ?_)
      intro bb
      refine wl_op (ok_append 3 vi (ys := [((((rowsOf ms.length S).take r).flatten ++ rowOf (S r)).length : Int)]) rfl rfl rfl rfl rfl rfl rfl (el_of rfl) (ze_of rfl) rfl (sz_of rfl) (by_of rfl) ⟨_, rfl⟩ (fun w hst => osl_reads (hst.at_ 0 rfl)) (fun _ => rfl) (by simp only [List.length_singleton]; omega) (by simp only [List.length_singleton]; omega) ?_)
      intro As' cs'
      (repeat (first | with_reducible refine thenQ_normal ?_ | with_reducible refine thenQ_exit ?_ | with_reducible refine thenQ_ret ?_ | with_reducible refine blkQ_normal ?_ | with_reducible refine blkQ_ret ?_ | with_reducible refine blkQ_hit ?_ | (with_reducible refine blkQ_miss ?_ ?_; · rfl) | refine wc_seq ?_ | refine wc_skip ?_ | refine wc_block ?_ | refine wc_true rfl ?_ | refine wc_false rfl ?_ | refine wc_exit ?_ | refine wc_ret ?_ | (refine wc_region ?_; repeat (first | refine gp1 (by exact rfl) ?_ | refine gl1 (by exact rfl) ?_ | refine gb1 (by exact rfl) ?_ | refine gi1 (by exact rfl) ?_ | refine gt1 (by exact rfl) ?_)) | refine wl_nil ?_ | refine wq_nil ?_ | refine gp1 (by exact rfl) ?_ | refine gl1 (by exact rfl) ?_ | refine gb1 (by exact rfl) ?_ | refine gi1 (by exact rfl) ?_ | refine gt1 (by exact rfl) ?_ | refine gp2 (by exact rfl) ?_ | refine gl2 (by exact rfl) ?_ | refine gb2 (by exact rfl) ?_ | refine gi2 (by exact rfl) ?_))
      refine ⟨⟨r + 1, As', cs', Ac, cc, Av, cv, 0⟩, by dsimp only; omega, ?_, ?_, by dsimp only; omega⟩
      · dsimp only
        rw [hflat]
        refine .cons rfl (.cons rfl (.cons rfl (.cons rfl (.cons rfl (.cons rfl (.cons (look_to rfl (by simp [vi])) .nil))))))
      · dsimp only
        rw [hflat, hstart]
        exact ⟨[_, osl TI vi A3 c3 (rowOf (S r))], (List.perm_append_comm (l₁ := [_, _, _, _, _, _]) (l₂ := [_, _]))⟩
  · obtain rfl : r = ms.length := by omega
    have htake : (rowsOf ms.length S).take ms.length = rowsOf ms.length S := List.take_of_length_le (by simp [rowsOf])
    rw [htake]
    (repeat (first | with_reducible refine thenQ_normal ?_ | with_reducible refine thenQ_exit ?_ | with_reducible refine thenQ_ret ?_ | with_reducible refine blkQ_normal ?_ | with_reducible refine blkQ_ret ?_ | with_reducible refine blkQ_hit ?_ | (with_reducible refine blkQ_miss ?_ ?_; · rfl) | refine wc_seq ?_ | refine wc_skip ?_ | refine wc_block ?_ | refine wc_true rfl ?_ | refine wc_false rfl ?_ | refine wc_exit ?_ | refine wc_ret ?_ | (refine wc_region ?_; repeat (first | refine gp1 (by exact rfl) ?_ | refine gl1 (by exact rfl) ?_ | refine gb1 (by exact rfl) ?_ | refine gi1 (by exact rfl) ?_ | refine gt1 (by exact rfl) ?_)) | refine wl_nil ?_ | refine wq_nil ?_ | refine gp1 (by exact rfl) ?_ | refine gl1 (by exact rfl) ?_ | refine gb1 (by exact rfl) ?_ | refine gi1 (by exact rfl) ?_ | refine gt1 (by exact rfl) ?_ | refine gp2 (by exact rfl) ?_ | refine gl2 (by exact rfl) ?_ | refine gb2 (by exact rfl) ?_ | refine gi2 (by exact rfl) ?_))
    refine ⟨(As, cs, Ac, cc, _), [blk rb (splice [vi 0, vi 0, .slice none 0 0, .slice none 0 0] 0 [vi ms.length, vi width, .slice As (starts 0 (rowsOf ms.length S)).length cs, .slice Ac (rowsOf ms.length S).flatten.length cc]) TP, blk b1 [vi width, .slice (some ⟨R, 0, none⟩) ms.length ms.length] TT,
      blk tb [vi ms.length, vi width, .slice As (starts 0 (rowsOf ms.length S)).length cs, .slice Ac (rowsOf ms.length S).flatten.length cc] TP], .cons (rv_agg 3 rfl rfl (ag_of rfl) (sz_of rfl) rfl rfl) (.cons (rv_tmp rfl) .nil), trivial, ?_⟩
    have h1 : ∀ a b c d e f : Res, [a, b, f, d, e, c].Perm [c, a, b, d, e, f] := fun a b c d e f =>
      (List.Perm.append_left [a, b] ((List.perm_append_comm (l₁ := [f]) (l₂ := [d, e])).append_right [c])).trans (List.perm_append_comm (l₁ := [a, b, d, e, f]) (l₂ := [c]))
    exact h1 _ _ _ _ _ _
end Go.Proofs.Ytofngbaefbbeiaa
