/- Walks: a table as a pattern. Walks: Places. Walks: the law's own copies and comparisons: sized, SameInts, CopyInts. -/
import Derived.Test.YtoiiellaoikojaaTA
import Derived.Test.YtoiiellaoikojaaT3
import Derived.Test.YtoiiellaoikojaaLB
set_option linter.unusedVariables false
set_option linter.unusedSimpArgs false
set_option maxHeartbeats 8000000
namespace Go.Proofs.Ytoiiellaoikojaa
open Go.RowKit
abbrev TP : TypeId := 24
section
variable {P : Program} {n : Nat} {w0 : World} {D : List Nat} {Γ : Tm} {σ : List Res} {ops : Array Oper} {o : Oper} {R : Nat} {ms : List Nat} {S : Int → Int → Bool} {i : Int}
theorem val_lookTab (m : Nat) (hi : σ[m]? = some (Tab R ms S)) {x y : Operand} {c : Int} (hop : o.op = .lookup TM x y false) (hx : ev Γ x = some (.map (some (gt ms i)))) (hy : ev Γ y = some (.int .i64 c)) (h0 : 0 ≤ i) (h1 : i < ms.length) (hc0 : 0 ≤ c) (hc1 : c < 128) : ValOK Try.prog w0 D σ Γ o (.agg #[]) :=
  ⟨fun w hst f hf => by
    have hlt : i.toNat < ms.length := by omega
    have hms : gt ms i = ms[i.toNat] := by simp [gt, List.getD_eq_getElem?_getD, List.getElem?_eq_getElem hlt]
    obtain ⟨D0, hown, h2, h3⟩ := (hst.at_ m hi).2 i.toNat hlt
    have hkey : keyOf Try.prog TI (.int .i64 c) = some (.int .i64 c) := Maps.keyOf_int_mk Try.underlying3 (wf64 hc0 hc1)
    obtain ⟨v, ps, hr, hv⟩ := hown.lookup keyedI underM (z := .agg #[]) (run_zeroValue' (ze_of rfl)) unitElem_mk hkey
    obtain ⟨rfl, _⟩ := unitElem_inv hv
    simp [execOp, hop, hf _ _ hx, hf _ _ hy, hms, hr, Result.andThen]⟩
theorem wc_nil {c : Code} {Q : QQ} {α : Type} (e : TypeId) (f : α → Value) (h : WC P n w0 D c Q Γ (osl e f none 0 [] :: σ)) : WC P n w0 D c Q Γ σ :=
  .mk fun a w hs hst => h.run a w hs (hst.push (Only.refl _ _) _ ⟨by simp, .inl ⟨rfl, rfl⟩⟩ (by simp [osl, ownB]) (by simp [osl, ownB]))
end

structure PS where
  r : Nat
  As : Option Addr
  cs : Nat
  Ac : Option Addr
  cc : Nat
  Av : Option Addr
  cv : Nat
  k : Nat
/-- a set's columns lie in the first 128 -/
theorem tab_in {R : Nat} {ms : List Nat} {S : Int → Int → Bool} {w : World} (h : (Tab R ms S).ok w) (r : Nat) (hr : r < ms.length) : ∀ y, S r y = true → 0 ≤ y ∧ y < 128 := by
  obtain ⟨D0, _, _, h3⟩ := h.2 r hr
  exact h3

theorem pattern_c {R : Nat} {ms : List Nat} {S : Int → Int → Bool} {width : Int} (w : World) (hw : Own [Tab R ms S] w) (hl : ms.length ≤ 128) :
    Calls Try.prog 103 [tabV width R ms].toArray w (Ret [Tab R ms S] (fun x : Option Addr × Nat × Option Addr × Nat × Value => .tuple #[patV (shutP ms.length width S) x.1 x.2.1 x.2.2.1 x.2.2.2.1, x.2.2.2.2])
      (fun x => [osl TI vi x.1 x.2.1 (shutP ms.length width S).start, osl TI vi x.2.2.1 x.2.2.2.1 (shutP ms.length width S).cols, Tab R ms S]) (fun _ => True) w) := by
  refine calls_wc (R :: ms) [Tab R ms S] [.cell 2 TP, .tmp 3] (fun x : Option Addr × Nat × Option Addr × Nat × Value => [patV (shutP ms.length width S) x.1 x.2.1 x.2.2.1 x.2.2.2.1, x.2.2.2.2]) Try.func103 rfl rfl (fun _ => rfl) Try.ntmps103 rfl hw (by simp [Tab]) ?_
  unfold tabV
  refine gg ?_
  refine wl_op (ok_box rfl rfl rfl rfl rfl ?_); intro b1
  refine wl_op (ok_alloc rfl rfl rfl rfl (ze_of rfl) ?_); intro rb
  refine gg ?_
  refine wc_cutK (fun z : Nat × Nat => True) (fun z => [(1, .pointer (some ⟨b1, 0, none⟩)), (2, .pointer (some ⟨rb, 0, none⟩)), (4, .pointer (some ⟨z.1, 0, none⟩))])
    (fun z => [blk z.1 [vi ms.length, vi width, .slice (some ⟨z.2, 0, none⟩) 1 (ms.length + 1), .slice none 0 0] TP, osl TI vi (some ⟨z.2, 0, none⟩) (ms.length + 1) [0], blk rb [vi 0, vi 0, .slice none 0 0, .slice none 0 0] TP, blk b1 [vi width, .slice (some ⟨R, 0, none⟩) ms.length ms.length] TT, Tab R ms S]) ?_ ?_
  · refine wa_begin mixed ?_
    (first | refine ga1 0 (by exact rfl) (by exact rfl) ?_ | refine ga2 0 (by exact rfl) (by exact rfl) ?_ | refine ga3 0 (by exact rfl) (by exact rfl) ?_ | refine ga4 0 (by exact rfl) (by exact rfl) ?_)
    (first | refine ga1 1 (by exact rfl) (by exact rfl) ?_ | refine ga2 1 (by exact rfl) (by exact rfl) ?_ | refine ga3 1 (by exact rfl) (by exact rfl) ?_ | refine ga4 1 (by exact rfl) (by exact rfl) ?_)
    (first | refine ga1 2 (by exact rfl) (by exact rfl) ?_ | refine ga2 2 (by exact rfl) (by exact rfl) ?_ | refine ga3 2 (by exact rfl) (by exact rfl) ?_ | refine ga4 2 (by exact rfl) (by exact rfl) ?_)
    (first | refine ga1 3 (by exact rfl) (by exact rfl) ?_ | refine ga2 3 (by exact rfl) (by exact rfl) ?_ | refine ga3 3 (by exact rfl) (by exact rfl) ?_ | refine ga4 3 (by exact rfl) (by exact rfl) ?_)
    (first | refine ga1 4 (by exact rfl) (by exact rfl) ?_ | refine ga2 4 (by exact rfl) (by exact rfl) ?_ | refine ga3 4 (by exact rfl) (by exact rfl) ?_ | refine ga4 4 (by exact rfl) (by exact rfl) ?_)
    (first | refine ga1 5 (by exact rfl) (by exact rfl) ?_ | refine ga2 5 (by exact rfl) (by exact rfl) ?_ | refine ga3 5 (by exact rfl) (by exact rfl) ?_ | refine ga4 5 (by exact rfl) (by exact rfl) ?_)
    (first | refine ga1 6 (by exact rfl) (by exact rfl) ?_ | refine ga2 6 (by exact rfl) (by exact rfl) ?_ | refine ga3 6 (by exact rfl) (by exact rfl) ?_ | refine ga4 6 (by exact rfl) (by exact rfl) ?_)
    (first | refine ga1 7 (by exact rfl) (by exact rfl) ?_ | refine ga2 7 (by exact rfl) (by exact rfl) ?_ | refine ga3 7 (by exact rfl) (by exact rfl) ?_ | refine ga4 7 (by exact rfl) (by exact rfl) ?_)
    (first | refine ga1 8 (by exact rfl) (by exact rfl) ?_ | refine ga2 8 (by exact rfl) (by exact rfl) ?_ | refine ga3 8 (by exact rfl) (by exact rfl) ?_ | refine ga4 8 (by exact rfl) (by exact rfl) ?_)
    refine wa_two 9 11 rfl rfl (by kernel_rfl) ?_ ?_
    · refine ok_makeSlice vi 0 rfl rfl rfl rfl rfl rfl (el_of rfl) (ze_of rfl) rfl (sz_of rfl) (by_of rfl) (by omega) (by omega) (by omega) (by omega) ?_
      intro sb
      refine ⟨⟨[_], rfl⟩, ?_⟩
      refine wa_v 10 [_] rfl (by kernel_rfl) rfl rfl rfl rfl (val_build (ps := [(0, vi ms.length), (1, vi width), (2, .slice (some ⟨sb, 0, none⟩) 1 (ms.length + 1))]) (cells := [vi ms.length, vi width, .slice (some ⟨sb, 0, none⟩) 1 (ms.length + 1), .slice none 0 0]) rfl rfl (by kernel_rfl)) ?_
      refine wa_one 11 rfl (by kernel_rfl) ?_
      refine ok_alloc rfl rfl rfl rfl (ze_of rfl) ?_
      intro tb
      refine ⟨⟨[_, _], rfl⟩, ?_⟩
      refine wa_one 12 rfl (by kernel_rfl) ?_
      refine ok_store 0 rfl rfl rfl rfl rfl rfl rfl rfl (sz_of rfl) rfl ?_
      refine ⟨⟨[_, _], rfl⟩, ?_⟩
      refine wa_done (by kernel_rfl) ?_
      exact ⟨(tb, sb), trivial, .cons rfl (.cons rfl (.cons rfl .nil)), List.Perm.refl _⟩
    · refine ok_alloc rfl rfl rfl rfl (ze_of rfl) ?_
      intro tb
      refine ⟨⟨[_], rfl⟩, ?_⟩
      refine wa_one 9 rfl (by kernel_rfl) ?_
      refine ok_makeSlice vi 0 rfl rfl rfl rfl rfl rfl (el_of rfl) (ze_of rfl) rfl (sz_of rfl) (by_of rfl) (by omega) (by omega) (by omega) (by omega) ?_
      intro sb
      refine ⟨⟨[_, _], rfl⟩, ?_⟩
      refine wa_v 10 [_, _] rfl (by kernel_rfl) rfl rfl rfl rfl (val_build (ps := [(0, vi ms.length), (1, vi width), (2, .slice (some ⟨sb, 0, none⟩) 1 (ms.length + 1))]) (cells := [vi ms.length, vi width, .slice (some ⟨sb, 0, none⟩) 1 (ms.length + 1), .slice none 0 0]) rfl rfl (by kernel_rfl)) ?_
      refine wa_one 12 rfl (by kernel_rfl) ?_
      refine ok_store 1 rfl rfl rfl rfl rfl rfl rfl rfl (sz_of rfl) rfl ?_
      refine ⟨⟨[_, _], rfl⟩, ?_⟩
      refine wa_done (by kernel_rfl) ?_
      exact ⟨(tb, sb), trivial, .cons rfl (.cons rfl (.cons rfl .nil)), List.Perm.swap _ _ _⟩
  rintro ⟨tb, sb⟩ _
  dsimp only
  refine gg ?_
  refine wc_nil TI vi ?_
  refine wc_loopP (fun x : PS => x.r ≤ ms.length) (fun x => [(1, .pointer (some ⟨b1, 0, none⟩)), (2, .pointer (some ⟨rb, 0, none⟩)), (4, .pointer (some ⟨tb, 0, none⟩)), (5, .slice x.Av ((rowsOf ms.length S).take x.r).flatten.length x.cv), (22, .slice (some ⟨R, 0, none⟩) ms.length ms.length), (23, vi ms.length), (24, vi x.r)])
    (fun x => [blk tb [vi ms.length, vi width, .slice x.As (starts 0 ((rowsOf ms.length S).take x.r)).length x.cs, .slice x.Ac ((rowsOf ms.length S).take x.r).flatten.length x.cc] TP, osl TI vi x.As x.cs (starts 0 ((rowsOf ms.length S).take x.r)), osl TI vi x.Ac x.cc ((rowsOf ms.length S).take x.r).flatten,
      blk rb [vi 0, vi 0, .slice none 0 0, .slice none 0 0] TP, blk b1 [vi width, .slice (some ⟨R, 0, none⟩) ms.length ms.length] TT, Tab R ms S]) (fun x => ms.length - x.r) ⟨0, some ⟨sb, 0, none⟩, ms.length + 1, none, 0, none, 0, 0⟩ (by simp) (.cons rfl (.cons rfl (.cons rfl (.cons rfl (.cons rfl (.cons rfl (.cons rfl .nil))))))) ?_ ?_
  · refine (List.Perm.cons _ (List.Perm.swap _ _ _)).trans (List.Perm.swap _ _ _)
  rintro ⟨r, As, cs, Ac, cc, Av, cv, _⟩ hr
  dsimp only at hr ⊢
  by_cases hlt : r < ms.length
  · have hfl := rowsOf_flat ms.length r S
    have hfl2 := rowsOf_flat ms.length (r + 1) S
    have hrl := rowOf_len (S r)
    have hst := starts_len 0 ((rowsOf ms.length S).take r)
    have htl : ((rowsOf ms.length S).take r).length ≤ r := List.length_take_le _ _
    have hmul : 128 * ms.length ≤ 16384 := by omega
    have hms : gt ms (r : Int) = ms[r] := by simp [gt, List.getD_eq_getElem?_getD, List.getElem?_eq_getElem hlt]
    refine wc_know (fun w hst => tab_in (hst.at_ 5 rfl) r hlt) (fun hin => ?_)
    refine gg ?_
    refine wl_callr [] _ (fun w _ => keys_c _ w) (by rfl) (by rfl) (bod_of rfl) (by rfl) (by rfl) (by rfl) (List.Perm.refl _) ?_
    intro kb _
    refine gg ?_
    refine wl_callr [] _ (fun w hst => sorted_c (hst.at_ 0 rfl) (by rw [hms]; exact (hst.at_ 6 (r := Tab R ms S) rfl).2 r hlt)) (by rfl) (by rfl) (bod_of rfl) (by rfl) (by rfl) (by rfl) (List.Perm.refl _) ?_
    rintro ⟨A3, c3, ss⟩ ⟨hs1, hs2⟩
    dsimp only at hs1 hs2 ⊢
    obtain rfl := rowOf_eq hin hs1 hs2
    clear hs1 hs2
    refine gg ?_
    refine wc_front 1 rfl ?_
    refine wc_drop ?_
    refine wc_loopP (fun x : PS => x.k ≤ (rowOf (S r)).length) (fun x => [(1, .pointer (some ⟨b1, 0, none⟩)), (2, .pointer (some ⟨rb, 0, none⟩)), (4, .pointer (some ⟨tb, 0, none⟩)), (5, .slice x.Av (((rowsOf ms.length S).take r).flatten ++ (rowOf (S r)).take x.k).length x.cv), (7, .map (some (gt ms (r : Int)))), (22, .slice (some ⟨R, 0, none⟩) ms.length ms.length), (23, vi ms.length), (24, vi r),
        (30, .slice A3 (rowOf (S r)).length c3), (31, vi (rowOf (S r)).length), (32, vi x.k)])
      (fun x => [osl TI vi A3 c3 (rowOf (S r)), blk tb [vi ms.length, vi width, .slice As (starts 0 ((rowsOf ms.length S).take r)).length cs, .slice x.Ac (((rowsOf ms.length S).take r).flatten ++ (rowOf (S r)).take x.k).length x.cc] TP, osl TI vi As cs (starts 0 ((rowsOf ms.length S).take r)), osl TI vi x.Ac x.cc (((rowsOf ms.length S).take r).flatten ++ (rowOf (S r)).take x.k),
        blk rb [vi 0, vi 0, .slice none 0 0, .slice none 0 0] TP, blk b1 [vi width, .slice (some ⟨R, 0, none⟩) ms.length ms.length] TT, Tab R ms S]) (fun x => (rowOf (S r)).length - x.k) ⟨r, As, cs, Ac, cc, Av, cv, 0⟩ (by simp) ?_ ?_ ?_
    · refine .cons rfl (.cons rfl (.cons rfl (.cons (look_to rfl (by simp)) (.cons rfl (.cons rfl (.cons rfl (.cons rfl (.cons rfl (.cons rfl (.cons rfl .nil))))))))))
    · simp only [List.take_zero, List.append_nil]
      exact List.Perm.refl _
    rintro ⟨_, _, _, Ac, cc, Av, cv, k⟩ hk
    dsimp only at hk ⊢
    by_cases hkl : k < (rowOf (S r)).length
    · have hy : gt (rowOf (S r)) (k : Int) = (rowOf (S r))[k] := by simp [gt, List.getD_eq_getElem?_getD, List.getElem?_eq_getElem hkl]
      have hin2 := hin _ ((mem_rowOf.1 (List.getElem_mem hkl)).2)
      rw [← hy] at hin2
      have htk : (((rowsOf ms.length S).take r).flatten ++ (rowOf (S r)).take (k + 1)) = (((rowsOf ms.length S).take r).flatten ++ (rowOf (S r)).take k) ++ [gt (rowOf (S r)) (k : Int)] := by
        rw [hy, List.take_succ_eq_append_getElem hkl, List.append_assoc]
      have hlen : (((rowsOf ms.length S).take r).flatten ++ (rowOf (S r)).take k).length ≤ 20000 := by
        have := List.length_take_le k (rowOf (S r))
        simp only [List.length_append]; omega
      refine gg ?_
      refine wl_op (ok_build1 vi (gt (rowOf (S r)) (k : Int)) rfl rfl rfl rfl rfl (el_of rfl) (ze_of rfl) rfl (sz_of rfl) rfl ?_)
      intro bb
      refine wl_op (ok_append 4 vi (ys := [gt (rowOf (S r)) (k : Int)]) rfl rfl rfl rfl rfl rfl rfl (el_of rfl) (ze_of rfl) rfl (sz_of rfl) (by_of rfl) ⟨_, rfl⟩ (fun w hst => osl_reads (hst.at_ 0 rfl)) (fun _ => rfl) (by simp only [List.length_singleton]; omega) (by simp only [List.length_singleton]; omega) ?_)
      intro Ac' cc'
      refine gg ?_
      refine wl_v rfl rfl rfl (val_lookTab 7 rfl rfl rfl rfl (by omega) (by omega) hin2.1 hin2.2) ?_
      refine wl_op (ok_build0 rfl rfl rfl rfl rfl ?_)
      intro _
      refine wl_op (ok_append0 rfl rfl rfl rfl rfl rfl (by omega) ?_)
      intro Av' cv'
      refine gg ?_
      refine ⟨⟨r, As, cs, Ac', cc', Av', cv', k + 1⟩, by dsimp only; omega, ?_, ?_, by dsimp only; omega⟩
      · dsimp only
        refine .cons rfl (.cons rfl (.cons rfl (.cons (look_to rfl (by rw [htk]; simp only [List.length_append, List.length_singleton])) (.cons rfl (.cons rfl (.cons rfl (.cons rfl (.cons rfl (.cons rfl (.cons (look_to rfl (by simp [vi])) .nil))))))))))
      · dsimp only
        rw [htk]
        exact ⟨[_], List.perm_append_singleton _ _⟩
    · obtain rfl : k = (rowOf (S r)).length := by omega
      have hflat : ((rowsOf ms.length S).take (r + 1)).flatten = ((rowsOf ms.length S).take r).flatten ++ rowOf (S r) := by
        rw [rowsOf_take hlt, List.flatten_append]; simp
      have hstart : starts 0 ((rowsOf ms.length S).take (r + 1)) = starts 0 ((rowsOf ms.length S).take r) ++ [((((rowsOf ms.length S).take r).flatten ++ rowOf (S r)).length : Int)] := by
        rw [rowsOf_take hlt, starts_snoc, List.length_append]
        congr 2
        omega
      rw [List.take_length]
      refine gg ?_
      refine wl_op (ok_build1 vi ((((rowsOf ms.length S).take r).flatten ++ rowOf (S r)).length : Int) rfl rfl rfl rfl rfl (el_of rfl) (ze_of rfl) rfl (sz_of rfl) rfl ?_)
      intro bb
      refine wl_op (ok_append 3 vi (ys := [((((rowsOf ms.length S).take r).flatten ++ rowOf (S r)).length : Int)]) rfl rfl rfl rfl rfl rfl rfl (el_of rfl) (ze_of rfl) rfl (sz_of rfl) (by_of rfl) ⟨_, rfl⟩ (fun w hst => osl_reads (hst.at_ 0 rfl)) (fun _ => rfl) (by simp only [List.length_singleton]; omega) (by simp only [List.length_singleton]; omega) ?_)
      intro As' cs'
      refine gg ?_
      refine ⟨⟨r + 1, As', cs', Ac, cc, Av, cv, 0⟩, by dsimp only; omega, ?_, ?_, by dsimp only; omega⟩
      · dsimp only
        rw [hflat]
        refine .cons rfl (.cons rfl (.cons rfl (.cons rfl (.cons rfl (.cons rfl (.cons (look_to rfl (by simp [vi])) .nil))))))
      · dsimp only
        rw [hflat, hstart]
        exact ⟨[_, osl TI vi A3 c3 (rowOf (S r))], (List.perm_append_comm (l₁ := [_, _, _, _, _, _]) (l₂ := [_, _]))⟩
  · obtain rfl : r = ms.length := by omega
    have htake : (rowsOf ms.length S).take ms.length = rowsOf ms.length S := List.take_of_length_le (by simp [rowsOf])
    rw [htake]
    refine gg ?_
    refine ⟨(As, cs, Ac, cc, _), [blk rb (splice [vi 0, vi 0, .slice none 0 0, .slice none 0 0] 0 [vi ms.length, vi width, .slice As (starts 0 (rowsOf ms.length S)).length cs, .slice Ac (rowsOf ms.length S).flatten.length cc]) TP, blk b1 [vi width, .slice (some ⟨R, 0, none⟩) ms.length ms.length] TT,
      blk tb [vi ms.length, vi width, .slice As (starts 0 (rowsOf ms.length S)).length cs, .slice Ac (rowsOf ms.length S).flatten.length cc] TP], .cons (rv_agg 3 rfl rfl (ag_of rfl) (sz_of rfl) rfl rfl) (.cons (rv_tmp rfl) .nil), trivial, ?_⟩
    have h1 : ∀ a b c d e f : Res, [a, b, f, d, e, c].Perm [c, a, b, d, e, f] := fun a b c d e f =>
      (List.Perm.append_left [a, b] ((List.perm_append_comm (l₁ := [f]) (l₂ := [d, e])).append_right [c])).trans (List.perm_append_comm (l₁ := [a, b, d, e, f]) (l₂ := [c]))
    exact h1 _ _ _ _ _ _
theorem Only.later {w0 w w' : World} {D : List Nat} {σ : List Res} (hst : St w0 D σ w) (ho : Only (σ.flatMap Res.fp) w w') : Only D w0 w' :=
  ⟨ho.os.trans hst.only.os, ho.tape.trans hst.only.tape, ho.output.trans hst.only.output, Nat.le_trans hst.only.size ho.size, fun b hb hD => by
    have h1 := hst.only.block b hb hD
    have h2 : b ∉ σ.flatMap Res.fp := fun hm => by
      obtain ⟨r, hr, hbr⟩ := List.mem_flatMap.1 hm
      rcases hst.new r hr b hbr with h | h
      · exact hD h
      · omega
    exact (ho.block b (Nat.lt_of_lt_of_le hb hst.only.size) h2).trans h1⟩
theorem RdO.later {α : Type} {f : α → Value} {w0 w : World} {D : List Nat} {σ : List Res} {A : Option Addr} {c : Nat} {xs : List α} (h : RdO f w0 D A c xs) (hst : St w0 D σ w) : RdO f w (σ.flatMap Res.fp) A c xs :=
  fun w' ho => h w' (Only.later hst ho)

/-- the rows of the first k places -/
structure PlR (p : Pat) (k : Int) (rs : List Int) : Prop where
  len : (rs.length : Int) = k
  row : ∀ i : Int, 0 ≤ i → i < k → 0 ≤ gt rs i ∧ gt rs i < p.rows ∧ gt p.start (gt rs i) ≤ i ∧ i < gt p.start (gt rs i + 1)
theorem gt_snoc {xs : List Int} {y i : Int} : (0 ≤ i → i < xs.length → gt (xs ++ [y]) i = gt xs i) ∧ (i = xs.length → gt (xs ++ [y]) i = y) := by
  constructor
  · intro h0 h1
    unfold gt
    simp only [List.getD_eq_getElem?_getD]
    rw [List.getElem?_append_left (by omega)]
  · rintro rfl
    unfold gt
    simp
theorem PlR.zero (p : Pat) : PlR p 0 [] := ⟨rfl, fun i h0 h1 => by omega⟩
theorem PlR.snoc {p : Pat} {k r : Int} {rs : List Int} (h : PlR p k rs) (h0 : 0 ≤ r) (h1 : r < p.rows) (h2 : gt p.start r ≤ k) (h3 : k < gt p.start (r + 1)) : PlR p (k + 1) (rs ++ [r]) := by
  have hl := h.len
  refine ⟨by simp; omega, fun i hi0 hi1 => ?_⟩
  by_cases hi : i < k
  · rw [gt_snoc.1 hi0 (by omega)]
    exact h.row i hi0 hi
  · have hik : i = k := by omega
    rw [gt_snoc.2 (by omega), hik]
    exact ⟨h0, h1, h2, h3⟩
theorem take_snoc {xs : List Int} {k : Nat} (h : k < xs.length) : xs.take (k + 1) = xs.take k ++ [gt xs k] := by
  rw [List.take_succ_eq_append_getElem h]
  simp [gt, List.getElem?_eq_getElem h]

theorem May.row_le {p : Pat} (h : May p) {r : Int} (h0 : 0 ≤ r) (h1 : r < p.rows) : gt p.start (r + 1) - gt p.start r ≤ 128 := by
  have hrow := h.row r h0 h1
  have hw := h.toHead.w1
  by_cases hz : gt p.start (r + 1) - gt p.start r ≤ 0
  · omega
  · have e1 := hrow.le ((gt p.start (r + 1) - gt p.start r).toNat - 1) (i := gt p.start r) (Int.le_refl _) (by omega)
    have e2 := (hrow (gt p.start r) (Int.le_refl _) (by omega)).1
    have e3 := (hrow (gt p.start r + ((gt p.start (r + 1) - gt p.start r).toNat - 1 : Nat)) (by omega) (by omega)).2.1
    omega
theorem May.start_le {p : Pat} (h : May p) : ∀ (r : Nat), (r : Int) ≤ p.rows → gt p.start r ≤ 128 * r
  | 0, _ => by have := h.toHead.z; simp at *; omega
  | r + 1, hr => by
    have h1 := h.start_le r (by omega)
    have h2 := h.row_le (r := r) (by omega) (by omega)
    push_cast
    omega
theorem May.small {p : Pat} (h : May p) : p.cols.length ≤ 16384 := by
  have h1 := h.start_le p.rows.toNat (by have := h.toHead.r0; omega)
  have h0 := h.toHead.r0
  have h2 := h.toHead.r1
  rw [show (p.rows.toNat : Int) = p.rows by omega, h.toHead.e] at h1
  omega
section
variable {P : Program} {n : Nat} {w0 : World} {D : List Nat} {ops : Array Oper} {os : List Oper} {Γ : Tm} {σ : List Res}
theorem wl_none {Q : QQ} {α : Type} (e : TypeId) (f : α → Value) (h : WL P n w0 D ops os Q Γ (osl e f none 0 [] :: σ)) : WL P n w0 D ops os Q Γ σ :=
  .mk fun a w hs hst => h.run a w hs (hst.push (Only.refl _ _) _ ⟨by simp, .inl ⟨rfl, rfl⟩⟩ (by simp [osl, ownB]) (by simp [osl, ownB]))
end

abbrev TIs : TypeId := 22
/-- the two lists that grow -/
structure PX where
  A : Option Addr
  c : Nat
  B : Option Addr
  d : Nat
  rs : List Int
  cs : List Int
def PI (b1 b2 : Nat) (x : PX) : List Res :=
  [blk b2 [.slice x.B x.cs.length x.d] TIs, osl TI vi x.B x.d x.cs, blk b1 [.slice x.A x.rs.length x.c] TIs, osl TI vi x.A x.c x.rs]
section
variable {p : Pat} {A B : Option Addr} {c d : Nat}
end
theorem sized_c {x y : Int} (w : World) (b : Bool) (hb : b = true ↔ (0 ≤ x ∧ x ≤ 128 ∧ 0 ≤ y ∧ y ≤ 128)) : Calls Try.prog 74 [vi x, vi y].toArray w (one (.bool b) w) := by
  by_cases h : 0 ≤ x ∧ x ≤ 128 ∧ 0 ≤ y ∧ y ≤ 128
  · obtain rfl : b = true := hb.2 h
    obtain ⟨h0, h1, h2, h3⟩ := h
    refine calls_wc [] [] [.tmp 4] (fun _ => [.bool true]) Try.func74 rfl rfl (fun _ => rfl) Try.ntmps74 rfl (Own.nil w) rfl ?_
    refine gg ?_
    exact grt () trivial
  · obtain rfl : b = false := by cases b with | false => rfl | true => exact absurd (hb.1 rfl) h
    by_cases h0 : 0 ≤ x
    · by_cases h1 : x ≤ 128
      · by_cases h2 : 0 ≤ y
        · have h3 : ¬ y ≤ 128 := fun h3 => h ⟨h0, h1, h2, h3⟩
          refine calls_wc [] [] [.tmp 4] (fun _ => [.bool false]) Try.func74 rfl rfl (fun _ => rfl) Try.ntmps74 rfl (Own.nil w) rfl ?_
          refine gg ?_
          exact grt () trivial
        · refine calls_wc [] [] [.tmp 4] (fun _ => [.bool false]) Try.func74 rfl rfl (fun _ => rfl) Try.ntmps74 rfl (Own.nil w) rfl ?_
          refine gg ?_
          exact grt () trivial
      · refine calls_wc [] [] [.tmp 4] (fun _ => [.bool false]) Try.func74 rfl rfl (fun _ => rfl) Try.ntmps74 rfl (Own.nil w) rfl ?_
        refine gg ?_
        exact grt () trivial
    · refine calls_wc [] [] [.tmp 4] (fun _ => [.bool false]) Try.func74 rfl rfl (fun _ => rfl) Try.ntmps74 rfl (Own.nil w) rfl ?_
      refine gg ?_
      exact grt () trivial
theorem gt_ext {xs ys : List Int} (hl : xs.length = ys.length) (h : ∀ i : Int, 0 ≤ i → i < xs.length → gt xs i = gt ys i) : xs = ys := by
  refine List.ext_getElem hl fun i h1 h2 => ?_
  have := h i (by omega) (by omega)
  simpa [gt, List.getElem?_eq_getElem h1, List.getElem?_eq_getElem h2] using this
theorem sameInts_c {A B : Option Addr} {c d : Nat} {xs ys : List Int} (w : World) (hA : Rds vi w A c xs) (hB : Rds vi w B d ys) (b : Bool) (hb : b = true ↔ xs = ys) :
    Calls Try.prog 24 [.slice A xs.length c, .slice B ys.length d].toArray w (one (.bool b) w) := by
  have oA := hA.old
  have oB := hB.old
  have lA := hA.len
  have lB := hB.len
  refine calls_wc [] [] [.tmp 4] (fun _ => [.bool b]) Try.func24 rfl rfl (fun _ => rfl) Try.ntmps24 rfl (Own.nil w) rfl ?_
  by_cases hl : xs.length = ys.length
  · refine gg ?_
    refine wc_loop (fun k : Nat => k ≤ xs.length ∧ ∀ i : Int, 0 ≤ i → i < k → gt xs i = gt ys i) (fun k => [(0, .slice A xs.length c), (1, .slice B ys.length d), (5, vi k)]) (fun _ => []) (fun k => xs.length - k) 0 ⟨by omega, fun i h0 h1 => by omega⟩ (.cons rfl (.cons rfl (.cons rfl .nil))) rfl ?_
    rintro k ⟨hk, hs⟩
    by_cases hkl : k < xs.length
    · by_cases he : gt xs k = gt ys k
      · refine gg ?_
        refine wc_quiet mixed (by kernel_rfl) ?_
        refine gg ?_
        refine ⟨k + 1, ⟨by omega, fun i h0 h1 => ?_⟩, .cons rfl (.cons rfl (.cons (look_to rfl (by simp [vi])) .nil)), rfl, by omega⟩
        by_cases hik : i < k
        · exact hs i h0 hik
        · obtain rfl : i = k := by omega
          exact he
      · obtain rfl : b = false := by cases b with | false => rfl | true => exact absurd (by rw [hb.1 rfl]) he
        refine gg ?_
        refine wc_quiet mixed (by kernel_rfl) ?_
        refine gg ?_
        exact grt () trivial
    · obtain rfl : b = true := hb.2 (gt_ext hl fun i h0 h1 => hs i h0 (by omega))
      refine gg ?_
      exact grt () trivial
  · obtain rfl : b = false := by cases b with | false => rfl | true => exact absurd (by rw [hb.1 rfl]) hl
    refine gg ?_
    exact grt () trivial
theorem set_mid (xs : List Int) (k : Nat) (hk : k < xs.length) : (xs.take k ++ List.replicate (xs.length - k) (0 : Int)).set k (gt xs k) = xs.take (k + 1) ++ List.replicate (xs.length - (k + 1)) 0 := by
  have h1 : (xs.take k).length = k := by rw [List.length_take]; omega
  rw [List.set_append_right _ _ (by omega), h1, Nat.sub_self, take_snoc hk, show xs.length - k = xs.length - (k + 1) + 1 by omega, List.replicate_succ]
  simp
theorem copyInts_c {A : Option Addr} {c : Nat} {xs : List Int} (w : World) (hA : Rds vi w A c xs) (hl : xs.length ≤ 17592186044420) :
    Calls Try.prog 45 [.slice A xs.length c].toArray w (Ret [] (fun b : Nat => .slice (some ⟨b, 0, none⟩) xs.length (xs.length + 3)) (fun b => [osl TI vi (some ⟨b, 0, none⟩) (xs.length + 3) xs]) (fun _ => True) w) := by
  have oA := hA.old
  refine calls_wc [] [] [.tmp 2] (fun b : Nat => [.slice (some ⟨b, 0, none⟩) xs.length (xs.length + 3)]) Try.func45 rfl rfl (fun _ => rfl) Try.ntmps45 rfl (Own.nil w) rfl ?_
  refine gg ?_
  refine wl_op (ok_makeSlice vi 0 rfl rfl rfl rfl rfl rfl (el_of rfl) (ze_of rfl) rfl (sz_of rfl) (by_of rfl) (by omega) (by omega) (by omega) (by omega) ?_)
  intro b
  rw [List.length_replicate, show ((xs.length : Int)).toNat = xs.length by omega, show ((xs.length : Int) + 3).toNat = xs.length + 3 by omega]
  refine gg ?_
  refine wc_loop (fun k : Nat => k ≤ xs.length) (fun k => [(0, .slice A xs.length c), (3, .slice (some ⟨b, 0, none⟩) (xs.take k ++ List.replicate (xs.length - k) (0 : Int)).length (xs.length + 3)), (4, vi k)]) (fun k => [osl TI vi (some ⟨b, 0, none⟩) (xs.length + 3) (xs.take k ++ List.replicate (xs.length - k) (0 : Int))]) (fun k => xs.length - k) 0 (by omega) (.cons rfl (.cons (look_to rfl (by simp)) (.cons rfl .nil))) (by simp) ?_
  intro k hk
  by_cases hkl : k < xs.length
  · have hlen : (xs.take k ++ List.replicate (xs.length - k) (0 : Int)).length = xs.length := by simp; omega
    refine gg ?_
    refine gg ?_
    refine ⟨k + 1, by omega, .cons rfl (.cons (look_to rfl (by simp; omega)) (.cons (look_to rfl (by simp [vi])) .nil)), ?_, by omega⟩
    rw [← set_mid xs k hkl]
    simp
  · obtain rfl : k = xs.length := by omega
    refine gg ?_
    refine ⟨b, [], .cons (rv_tmp (look_to rfl (by simp))) .nil, trivial, ?_⟩
    simp [cat]
end Go.Proofs.Ytoiiellaoikojaa
