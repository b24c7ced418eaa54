/- Walks: Places. -/
import Derived.Test.YtofngbaefbbeiaaT1
import Derived.Test.YtofngbaefbbeiaaT2
import Derived.Test.YtofngbaefbbeiaaT4
set_option linter.unusedVariables false
set_option linter.unusedSimpArgs false
set_option maxHeartbeats 8000000
namespace Go.Proofs.Ytofngbaefbbeiaa
open Go.RowKit

theorem Only.later {w0 w w' : World} {D : List Nat} {σ : List Res} (hst : St w0 D σ w) (ho : Only (σ.flatMap Res.fp) w w') : Only D w0 w' :=
  ⟨ho.os.trans hst.only.os, ho.tape.trans hst.only.tape, ho.output.trans hst.only.output, Nat.le_trans hst.only.size ho.size, fun b hb hD => by
    have h1 := hst.only.block b hb hD
    have h2 : b ∉ σ.flatMap Res.fp := fun hm => by
      obtain ⟨r, hr, hbr⟩ := List.mem_flatMap.1 hm
      rcases hst.new r hr b hbr with h | h
      · exact hD h
      · omega
    exact (ho.block b (Nat.lt_of_lt_of_le hb hst.only.size) h2).trans h1⟩
theorem RdO.later {α : Type} {f : α → Value} {w0 w : World} {D : List Nat} {σ : List Res} {A : Option Addr} {c : Nat} {xs : List α} (h : RdO f w0 D A c xs) (hst : St w0 D σ w) : RdO f w (σ.flatMap Res.fp) A c xs :=
  fun w' ho => h w' (Only.later hst ho)

/-- the rows of the first k places -/
structure PlR (p : Pat) (k : Int) (rs : List Int) : Prop where
  len : (rs.length : Int) = k
  row : ∀ i : Int, 0 ≤ i → i < k → 0 ≤ gt rs i ∧ gt rs i < p.rows ∧ gt p.start (gt rs i) ≤ i ∧ i < gt p.start (gt rs i + 1)
theorem gt_snoc {xs : List Int} {y i : Int} : (0 ≤ i → i < xs.length → gt (xs ++ [y]) i = gt xs i) ∧ (i = xs.length → gt (xs ++ [y]) i = y) := by
  constructor
  · intro h0 h1
    unfold gt
    simp only [List.getD_eq_getElem?_getD]
    rw [List.getElem?_append_left (by omega)]
  · rintro rfl
    unfold gt
    simp
theorem PlR.zero (p : Pat) : PlR p 0 [] := ⟨rfl, fun i h0 h1 => by omega⟩
theorem PlR.snoc {p : Pat} {k r : Int} {rs : List Int} (h : PlR p k rs) (h0 : 0 ≤ r) (h1 : r < p.rows) (h2 : gt p.start r ≤ k) (h3 : k < gt p.start (r + 1)) : PlR p (k + 1) (rs ++ [r]) := by
  have hl := h.len
  refine ⟨by simp; omega, fun i hi0 hi1 => ?_⟩
  by_cases hi : i < k
  · rw [gt_snoc.1 hi0 (by omega)]
    exact h.row i hi0 hi
  · have hik : i = k := by omega
    rw [gt_snoc.2 (by omega), hik]
    exact ⟨h0, h1, h2, h3⟩
theorem take_snoc {xs : List Int} {k : Nat} (h : k < xs.length) : xs.take (k + 1) = xs.take k ++ [gt xs k] := by
  rw [List.take_succ_eq_append_getElem h]
  simp [gt, List.getElem?_eq_getElem h]

theorem May.row_le {p : Pat} (h : May p) {r : Int} (h0 : 0 ≤ r) (h1 : r < p.rows) : gt p.start (r + 1) - gt p.start r ≤ 128 := by
  have hrow := h.row r h0 h1
  have hw := h.toHead.w1
  by_cases hz : gt p.start (r + 1) - gt p.start r ≤ 0
  · omega
  · have e1 := hrow.le ((gt p.start (r + 1) - gt p.start r).toNat - 1) (i := gt p.start r) (Int.le_refl _) (by omega)
    have e2 := (hrow (gt p.start r) (Int.le_refl _) (by omega)).1
    have e3 := (hrow (gt p.start r + ((gt p.start (r + 1) - gt p.start r).toNat - 1 : Nat)) (by omega) (by omega)).2.1
    omega
theorem May.start_le {p : Pat} (h : May p) : ∀ (r : Nat), (r : Int) ≤ p.rows → gt p.start r ≤ 128 * r
  | 0, _ => by have := h.toHead.z; simp at *; omega
  | r + 1, hr => by
    have h1 := h.start_le r (by omega)
    have h2 := h.row_le (r := r) (by omega) (by omega)
    push_cast
    omega
theorem May.small {p : Pat} (h : May p) : p.cols.length ≤ 16384 := by
  have h1 := h.start_le p.rows.toNat (by have := h.toHead.r0; omega)
  have h0 := h.toHead.r0
  have h2 := h.toHead.r1
  rw [show (p.rows.toNat : Int) = p.rows by omega, h.toHead.e] at h1
  omega
section
variable {P : Program} {n : Nat} {w0 : World} {D : List Nat} {ops : Array Oper} {os : List Oper} {Γ : Tm} {σ : List Res}
theorem wl_none {Q : QQ} {α : Type} (e : TypeId) (f : α → Value) (h : WL P n w0 D ops os Q Γ (osl e f none 0 [] :: σ)) : WL P n w0 D ops os Q Γ σ :=
  .mk fun a w hs hst => h.run a w hs (hst.push (Only.refl _ _) _ ⟨by simp, .inl ⟨rfl, rfl⟩⟩ (by simp [osl, ownB]) (by simp [osl, ownB]))
end

abbrev TIs : TypeId := 22
/-- the two lists that grow -/
structure PX where
  A : Option Addr
  c : Nat
  B : Option Addr
  d : Nat
  rs : List Int
  cs : List Int
def PI (b1 b2 : Nat) (x : PX) : List Res :=
  [blk b2 [.slice x.B x.cs.length x.d] TIs, osl TI vi x.B x.d x.cs, blk b1 [.slice x.A x.rs.length x.c] TIs, osl TI vi x.A x.c x.rs]
theorem places1_c {p : Pat} (hm : May p) (b1 b2 : Nat) (k r : Int) (x : PX) (w : World) (h0 : 0 ≤ r) (h1 : r < p.rows) (h2 : gt p.start r ≤ k) (h3 : k < gt p.start (r + 1)) (hx : PlR p k x.rs ∧ x.cs = p.cols.take k.toNat) (hl : p.cols.length ≤ 16384) (hw : Own (PI b1 b2 x) w) :
    Calls Try.prog 94 ([vi r, vi (gt p.cols k), vi k] ++ [Value.pointer (some ⟨b1, 0, none⟩), Value.pointer (some ⟨b2, 0, none⟩)]).toArray w (Ret (PI b1 b2 x) (fun _ => .tuple #[]) (fun x' => PI b1 b2 x') (fun x' => PlR p (k + 1) x'.rs ∧ x'.cs = p.cols.take (k + 1).toNat) w) := by
  obtain ⟨A, c, B, d, rs, cs⟩ := x
  obtain ⟨hx1, hx2⟩ := hx
  dsimp only at hx1 hx2
  have g1 := hm.toHead.lo h0 (by omega)
  have g2 := hm.toHead.hi (r := r + 1) (by omega) (by omega)
  have hrl := hx1.len
  have hcl : cs.length = k.toNat := by rw [hx2, List.length_take]; omega
  refine calls_wc ((PI b1 b2 ⟨A, c, B, d, rs, cs⟩).flatMap Res.fp) (PI b1 b2 ⟨A, c, B, d, rs, cs⟩) [] (fun _ => []) Try.func94 rfl rfl (fun _ => rfl) Try.ntmps94 rfl hw rfl ?_
  unfold PI
  dsimp only
  (repeat (first | with_reducible refine thenQ_normal ?_ | with_reducible refine thenQ_exit ?_ | with_reducible refine thenQ_ret ?_ | with_reducible refine blkQ_normal ?_ | with_reducible refine blkQ_ret ?_ | with_reducible refine blkQ_hit ?_ | (with_reducible refine blkQ_miss ?_ ?_; · rfl) | refine wc_seq ?_ | refine wc_skip ?_ | refine wc_block ?_ | refine wc_true rfl ?_ | refine wc_false rfl ?_ | refine wc_exit ?_ | refine wc_ret ?_ | (refine wc_region ?_; repeat (first | refine gp1 (by exact rfl) ?_ | refine gl1 (by exact rfl) ?_ | refine gb1 (by exact rfl) ?_ | refine gi1 (by exact rfl) ?_ | refine gt1 (by exact rfl) ?_)) | refine wl_nil ?_ | refine wq_nil ?_ | refine gp1 (by exact rfl) ?_ | refine gl1 (by exact rfl) ?_ | refine gb1 (by exact rfl) ?_ | refine gi1 (by exact rfl) ?_ | refine gt1 (by exact rfl) ?_ | refine gp2 (by exact rfl) ?_ | refine gl2 (by exact rfl) ?_ | refine gb2 (by exact rfl) ?_ | refine gi2 (by exact rfl) ?_))
  refine wl_op (ok_build1 vi r rfl rfl rfl rfl rfl (el_of rfl) (ze_of rfl) rfl (sz_of rfl) rfl ?_)
  intro bb
  refine wl_op (ok_append 4 vi (ys := [r]) rfl rfl rfl rfl rfl rfl rfl (el_of rfl) (ze_of rfl) rfl (sz_of rfl) (by_of rfl) ⟨_, rfl⟩ (fun w hst => osl_reads (hst.at_ 0 rfl)) (fun _ => rfl) (by simp only [List.length_singleton]; omega) (by simp only [List.length_singleton]; omega) ?_)
  intro A' c'
  (repeat (first | with_reducible refine thenQ_normal ?_ | with_reducible refine thenQ_exit ?_ | with_reducible refine thenQ_ret ?_ | with_reducible refine blkQ_normal ?_ | with_reducible refine blkQ_ret ?_ | with_reducible refine blkQ_hit ?_ | (with_reducible refine blkQ_miss ?_ ?_; · rfl) | refine wc_seq ?_ | refine wc_skip ?_ | refine wc_block ?_ | refine wc_true rfl ?_ | refine wc_false rfl ?_ | refine wc_exit ?_ | refine wc_ret ?_ | (refine wc_region ?_; repeat (first | refine gp1 (by exact rfl) ?_ | refine gl1 (by exact rfl) ?_ | refine gb1 (by exact rfl) ?_ | refine gi1 (by exact rfl) ?_ | refine gt1 (by exact rfl) ?_)) | refine wl_nil ?_ | refine wq_nil ?_ | refine gp1 (by exact rfl) ?_ | refine gl1 (by exact rfl) ?_ | refine gb1 (by exact rfl) ?_ | refine gi1 (by exact rfl) ?_ | refine gt1 (by exact rfl) ?_ | refine gp2 (by exact rfl) ?_ | refine gl2 (by exact rfl) ?_ | refine gb2 (by exact rfl) ?_ | refine gi2 (by exact rfl) ?_))
  refine wl_op (ok_build1 vi (gt p.cols k) rfl rfl rfl rfl rfl (el_of rfl) (ze_of rfl) rfl (sz_of rfl) rfl ?_)
  intro bb'
  refine wl_op (ok_append 3 vi (ys := [gt p.cols k]) rfl rfl rfl rfl rfl rfl rfl (el_of rfl) (ze_of rfl) rfl (sz_of rfl) (by_of rfl) ⟨_, rfl⟩ (fun w hst => osl_reads (hst.at_ 0 rfl)) (fun _ => rfl) (by simp only [List.length_singleton]; omega) (by simp only [List.length_singleton]; omega) ?_)
  intro B' d'
  (repeat (first | with_reducible refine thenQ_normal ?_ | with_reducible refine thenQ_exit ?_ | with_reducible refine thenQ_ret ?_ | with_reducible refine blkQ_normal ?_ | with_reducible refine blkQ_ret ?_ | with_reducible refine blkQ_hit ?_ | (with_reducible refine blkQ_miss ?_ ?_; · rfl) | refine wc_seq ?_ | refine wc_skip ?_ | refine wc_block ?_ | refine wc_true rfl ?_ | refine wc_false rfl ?_ | refine wc_exit ?_ | refine wc_ret ?_ | (refine wc_region ?_; repeat (first | refine gp1 (by exact rfl) ?_ | refine gl1 (by exact rfl) ?_ | refine gb1 (by exact rfl) ?_ | refine gi1 (by exact rfl) ?_ | refine gt1 (by exact rfl) ?_)) | refine wl_nil ?_ | refine wq_nil ?_ | refine gp1 (by exact rfl) ?_ | refine gl1 (by exact rfl) ?_ | refine gb1 (by exact rfl) ?_ | refine gi1 (by exact rfl) ?_ | refine gt1 (by exact rfl) ?_ | refine gp2 (by exact rfl) ?_ | refine gl2 (by exact rfl) ?_ | refine gb2 (by exact rfl) ?_ | refine gi2 (by exact rfl) ?_))
  refine ⟨⟨A', c', B', d', rs ++ [r], cs ++ [gt p.cols k]⟩, [osl TI vi (some ⟨bb', 0, none⟩) 1 [gt p.cols k], osl TI vi (some ⟨bb, 0, none⟩) 1 [r]], .nil, ⟨hx1.snoc h0 h1 h2 h3, ?_⟩, ?_⟩
  · dsimp only
    have := take_snoc (xs := p.cols) (k := k.toNat) (by omega)
    rw [show (k + 1).toNat = k.toNat + 1 by omega, this, hx2, show ((k.toNat : Nat) : Int) = k by omega]
  · dsimp only
    exact List.perm_append_comm (l₁ := PI b1 b2 ⟨A', c', B', d', rs ++ [r], cs ++ [gt p.cols k]⟩) (l₂ := [osl TI vi (some ⟨bb', 0, none⟩) 1 [gt p.cols k], osl TI vi (some ⟨bb, 0, none⟩) 1 [r]])

section
variable {p : Pat} {A B : Option Addr} {c d : Nat}
theorem places_t (w : World) (hA : Rds vi w A c p.start) (hB : Rds vi w B d p.cols) (hm : May p) :
    Calls Try.prog 44 [patV p A c B d].toArray w (Ret [] (fun x : PX => .tuple #[.slice x.A x.rs.length x.c, .slice x.B x.cs.length x.d, vi 0]) (fun x => [osl TI vi x.B x.d x.cs, osl TI vi x.A x.c x.rs]) (fun x => PlR p p.cols.length x.rs ∧ x.cs = p.cols) w) := by
  have oA := hA.old
  have oB := hB.old
  have hl := hm.small
  unfold patV
  refine calls_wc [] [] [.tmp 2, .tmp 3, .tmp 4] (fun x : PX => [.slice x.A x.rs.length x.c, .slice x.B x.cs.length x.d, vi 0]) Try.func44 rfl rfl (fun _ => rfl) Try.ntmps44 rfl (Own.nil w) rfl ?_
  (repeat (first | with_reducible refine thenQ_normal ?_ | with_reducible refine thenQ_exit ?_ | with_reducible refine thenQ_ret ?_ | with_reducible refine blkQ_normal ?_ | with_reducible refine blkQ_ret ?_ | with_reducible refine blkQ_hit ?_ | (with_reducible refine blkQ_miss ?_ ?_; · rfl) | refine wc_seq ?_ | refine wc_skip ?_ | refine wc_block ?_ | refine wc_true rfl ?_ | refine wc_false rfl ?_ | refine wc_exit ?_ | refine wc_ret ?_ | (refine wc_region ?_; repeat (first | refine gp1 (by exact rfl) ?_ | refine gl1 (by exact rfl) ?_ | refine gb1 (by exact rfl) ?_ | refine gi1 (by exact rfl) ?_ | refine gt1 (by exact rfl) ?_)) | refine wl_nil ?_ | refine wq_nil ?_ | refine gp1 (by exact rfl) ?_ | refine gl1 (by exact rfl) ?_ | refine gb1 (by exact rfl) ?_ | refine gi1 (by exact rfl) ?_ | refine gt1 (by exact rfl) ?_ | refine gp2 (by exact rfl) ?_ | refine gl2 (by exact rfl) ?_ | refine gb2 (by exact rfl) ?_ | refine gi2 (by exact rfl) ?_))
  refine wl_op (ok_box rfl rfl rfl rfl rfl ?_); intro bp
  (repeat (first | with_reducible refine thenQ_normal ?_ | with_reducible refine thenQ_exit ?_ | with_reducible refine thenQ_ret ?_ | with_reducible refine blkQ_normal ?_ | with_reducible refine blkQ_ret ?_ | with_reducible refine blkQ_hit ?_ | (with_reducible refine blkQ_miss ?_ ?_; · rfl) | refine wc_seq ?_ | refine wc_skip ?_ | refine wc_block ?_ | refine wc_true rfl ?_ | refine wc_false rfl ?_ | refine wc_exit ?_ | refine wc_ret ?_ | (refine wc_region ?_; repeat (first | refine gp1 (by exact rfl) ?_ | refine gl1 (by exact rfl) ?_ | refine gb1 (by exact rfl) ?_ | refine gi1 (by exact rfl) ?_ | refine gt1 (by exact rfl) ?_)) | refine wl_nil ?_ | refine wq_nil ?_ | refine gp1 (by exact rfl) ?_ | refine gl1 (by exact rfl) ?_ | refine gb1 (by exact rfl) ?_ | refine gi1 (by exact rfl) ?_ | refine gt1 (by exact rfl) ?_ | refine gp2 (by exact rfl) ?_ | refine gl2 (by exact rfl) ?_ | refine gb2 (by exact rfl) ?_ | refine gi2 (by exact rfl) ?_))
  refine gc1 (fun w hst => may_t (oA.now hst) (oB.now hst) hm) (by exact rfl) ?_
  (repeat (first | with_reducible refine thenQ_normal ?_ | with_reducible refine thenQ_exit ?_ | with_reducible refine thenQ_ret ?_ | with_reducible refine blkQ_normal ?_ | with_reducible refine blkQ_ret ?_ | with_reducible refine blkQ_hit ?_ | (with_reducible refine blkQ_miss ?_ ?_; · rfl) | refine wc_seq ?_ | refine wc_skip ?_ | refine wc_block ?_ | refine wc_true rfl ?_ | refine wc_false rfl ?_ | refine wc_exit ?_ | refine wc_ret ?_ | (refine wc_region ?_; repeat (first | refine gp1 (by exact rfl) ?_ | refine gl1 (by exact rfl) ?_ | refine gb1 (by exact rfl) ?_ | refine gi1 (by exact rfl) ?_ | refine gt1 (by exact rfl) ?_)) | refine wl_nil ?_ | refine wq_nil ?_ | refine gp1 (by exact rfl) ?_ | refine gl1 (by exact rfl) ?_ | refine gb1 (by exact rfl) ?_ | refine gi1 (by exact rfl) ?_ | refine gt1 (by exact rfl) ?_ | refine gp2 (by exact rfl) ?_ | refine gl2 (by exact rfl) ?_ | refine gb2 (by exact rfl) ?_ | refine gi2 (by exact rfl) ?_))
  refine wl_none TI vi ?_
  refine wl_op (ok_alloc rfl rfl rfl rfl (ze_of rfl) ?_); intro b1
  refine wl_none TI vi ?_
  refine wl_op (ok_alloc rfl rfl rfl rfl (ze_of rfl) ?_); intro b2
  (repeat (first | with_reducible refine thenQ_normal ?_ | with_reducible refine thenQ_exit ?_ | with_reducible refine thenQ_ret ?_ | with_reducible refine blkQ_normal ?_ | with_reducible refine blkQ_ret ?_ | with_reducible refine blkQ_hit ?_ | (with_reducible refine blkQ_miss ?_ ?_; · rfl) | refine wc_seq ?_ | refine wc_skip ?_ | refine wc_block ?_ | refine wc_true rfl ?_ | refine wc_false rfl ?_ | refine wc_exit ?_ | refine wc_ret ?_ | (refine wc_region ?_; repeat (first | refine gp1 (by exact rfl) ?_ | refine gl1 (by exact rfl) ?_ | refine gb1 (by exact rfl) ?_ | refine gi1 (by exact rfl) ?_ | refine gt1 (by exact rfl) ?_)) | refine wl_nil ?_ | refine wq_nil ?_ | refine gp1 (by exact rfl) ?_ | refine gl1 (by exact rfl) ?_ | refine gb1 (by exact rfl) ?_ | refine gi1 (by exact rfl) ?_ | refine gt1 (by exact rfl) ?_ | refine gp2 (by exact rfl) ?_ | refine gl2 (by exact rfl) ?_ | refine gb2 (by exact rfl) ?_ | refine gi2 (by exact rfl) ?_))
  refine wl_callr (PI b1 b2 ⟨none, 0, none, 0, [], []⟩) [blk bp [vi p.rows, vi p.width, .slice A p.start.length c, .slice B p.cols.length d] 24] (fun w hst => each_c hm (fun _ => PI b1 b2) (fun k x => PlR p k x.rs ∧ x.cs = p.cols.take k.toNat) 94 [Value.pointer (some ⟨b1, 0, none⟩), Value.pointer (some ⟨b2, 0, none⟩)] (bod_of rfl) ⟨none, 0, none, 0, [], []⟩ w (oA.later (St.keep hst)) (oB.later (St.keep hst)) ⟨PlR.zero p, rfl⟩ (St.ownl hst) (fun k r x w h0 h1 h2 h3 hx hw => places1_c hm b1 b2 k r x w h0 h1 h2 h3 hx hl hw.own)) (by rfl) (by rfl) (bod_of rfl) (by rfl) (by rfl) (by rfl) (List.Perm.refl _) ?_
  rintro ⟨A1, c1, B1, d1, rs, cs⟩ ⟨hx1, hx2⟩
  dsimp only at hx1 hx2
  obtain rfl : cs = p.cols := by rw [hx2]; simp
  unfold PI
  dsimp only
  (repeat (first | with_reducible refine thenQ_normal ?_ | with_reducible refine thenQ_exit ?_ | with_reducible refine thenQ_ret ?_ | with_reducible refine blkQ_normal ?_ | with_reducible refine blkQ_ret ?_ | with_reducible refine blkQ_hit ?_ | (with_reducible refine blkQ_miss ?_ ?_; · rfl) | refine wc_seq ?_ | refine wc_skip ?_ | refine wc_block ?_ | refine wc_true rfl ?_ | refine wc_false rfl ?_ | refine wc_exit ?_ | refine wc_ret ?_ | (refine wc_region ?_; repeat (first | refine gp1 (by exact rfl) ?_ | refine gl1 (by exact rfl) ?_ | refine gb1 (by exact rfl) ?_ | refine gi1 (by exact rfl) ?_ | refine gt1 (by exact rfl) ?_)) | refine wl_nil ?_ | refine wq_nil ?_ | refine gp1 (by exact rfl) ?_ | refine gl1 (by exact rfl) ?_ | refine gb1 (by exact rfl) ?_ | refine gi1 (by exact rfl) ?_ | refine gt1 (by exact rfl) ?_ | refine gp2 (by exact rfl) ?_ | refine gl2 (by exact rfl) ?_ | refine gb2 (by exact rfl) ?_ | refine gi2 (by exact rfl) ?_))
  refine wc_quiet mixed (by kernel_rfl) ?_
  (repeat (first | with_reducible refine thenQ_normal ?_ | with_reducible refine thenQ_exit ?_ | with_reducible refine thenQ_ret ?_ | with_reducible refine blkQ_normal ?_ | with_reducible refine blkQ_ret ?_ | with_reducible refine blkQ_hit ?_ | (with_reducible refine blkQ_miss ?_ ?_; · rfl) | refine wc_seq ?_ | refine wc_skip ?_ | refine wc_block ?_ | refine wc_true rfl ?_ | refine wc_false rfl ?_ | refine wc_exit ?_ | refine wc_ret ?_ | (refine wc_region ?_; repeat (first | refine gp1 (by exact rfl) ?_ | refine gl1 (by exact rfl) ?_ | refine gb1 (by exact rfl) ?_ | refine gi1 (by exact rfl) ?_ | refine gt1 (by exact rfl) ?_)) | refine wl_nil ?_ | refine wq_nil ?_ | refine gp1 (by exact rfl) ?_ | refine gl1 (by exact rfl) ?_ | refine gb1 (by exact rfl) ?_ | refine gi1 (by exact rfl) ?_ | refine gt1 (by exact rfl) ?_ | refine gp2 (by exact rfl) ?_ | refine gl2 (by exact rfl) ?_ | refine gb2 (by exact rfl) ?_ | refine gi2 (by exact rfl) ?_))
  refine ⟨⟨A1, c1, B1, d1, rs, p.cols⟩, [blk b2 [.slice B1 p.cols.length d1] TIs, blk b1 [.slice A1 rs.length c1] TIs, blk bp [vi p.rows, vi p.width, .slice A p.start.length c, .slice B p.cols.length d] 24], .cons (rv_tmp rfl) (.cons (rv_tmp rfl) (.cons (rv_tmp rfl) .nil)), ⟨hx1, rfl⟩, ?_⟩
  dsimp only
  have h1 : ∀ a b c d e : Res, [b, d, a, c, e].Perm [a, b, c, d, e] := fun a b c d e =>
    (List.perm_append_comm (l₁ := [b, d]) (l₂ := [a, c, e])).trans (List.Perm.cons a (List.perm_append_comm (l₁ := [c, e]) (l₂ := [b, d]) |>.trans (List.Perm.cons b ((List.perm_append_comm (l₁ := [d]) (l₂ := [c, e])).trans (List.Perm.cons c (List.Perm.swap _ _ _))))))
  exact h1 _ _ _ _ _
theorem places_f (w : World) (hA : Rds vi w A c p.start) (hB : Rds vi w B d p.cols) (hm : ¬ May p) :
    Calls Try.prog 44 [patV p A c B d].toArray w (one (.tuple #[.slice none 0 0, .slice none 0 0, .int .i64 180]) w) := by
  have oA := hA.old
  have oB := hB.old
  unfold patV
  refine calls_wc [] [] [.tmp 2, .tmp 3, .tmp 4] (fun _ => [.slice none 0 0, .slice none 0 0, .int .i64 180]) Try.func44 rfl rfl (fun _ => rfl) Try.ntmps44 rfl (Own.nil w) rfl ?_
  (repeat (first | with_reducible refine thenQ_normal ?_ | with_reducible refine thenQ_exit ?_ | with_reducible refine thenQ_ret ?_ | with_reducible refine blkQ_normal ?_ | with_reducible refine blkQ_ret ?_ | with_reducible refine blkQ_hit ?_ | (with_reducible refine blkQ_miss ?_ ?_; · rfl) | refine wc_seq ?_ | refine wc_skip ?_ | refine wc_block ?_ | refine wc_true rfl ?_ | refine wc_false rfl ?_ | refine wc_exit ?_ | refine wc_ret ?_ | (refine wc_region ?_; repeat (first | refine gp1 (by exact rfl) ?_ | refine gl1 (by exact rfl) ?_ | refine gb1 (by exact rfl) ?_ | refine gi1 (by exact rfl) ?_ | refine gt1 (by exact rfl) ?_)) | refine wl_nil ?_ | refine wq_nil ?_ | refine gp1 (by exact rfl) ?_ | refine gl1 (by exact rfl) ?_ | refine gb1 (by exact rfl) ?_ | refine gi1 (by exact rfl) ?_ | refine gt1 (by exact rfl) ?_ | refine gp2 (by exact rfl) ?_ | refine gl2 (by exact rfl) ?_ | refine gb2 (by exact rfl) ?_ | refine gi2 (by exact rfl) ?_))
  refine wl_op (ok_box rfl rfl rfl rfl rfl ?_); intro bp
  (repeat (first | with_reducible refine thenQ_normal ?_ | with_reducible refine thenQ_exit ?_ | with_reducible refine thenQ_ret ?_ | with_reducible refine blkQ_normal ?_ | with_reducible refine blkQ_ret ?_ | with_reducible refine blkQ_hit ?_ | (with_reducible refine blkQ_miss ?_ ?_; · rfl) | refine wc_seq ?_ | refine wc_skip ?_ | refine wc_block ?_ | refine wc_true rfl ?_ | refine wc_false rfl ?_ | refine wc_exit ?_ | refine wc_ret ?_ | (refine wc_region ?_; repeat (first | refine gp1 (by exact rfl) ?_ | refine gl1 (by exact rfl) ?_ | refine gb1 (by exact rfl) ?_ | refine gi1 (by exact rfl) ?_ | refine gt1 (by exact rfl) ?_)) | refine wl_nil ?_ | refine wq_nil ?_ | refine gp1 (by exact rfl) ?_ | refine gl1 (by exact rfl) ?_ | refine gb1 (by exact rfl) ?_ | refine gi1 (by exact rfl) ?_ | refine gt1 (by exact rfl) ?_ | refine gp2 (by exact rfl) ?_ | refine gl2 (by exact rfl) ?_ | refine gb2 (by exact rfl) ?_ | refine gi2 (by exact rfl) ?_))
  refine gc1 (fun w hst => may_f (oA.now hst) (oB.now hst) hm) (by exact rfl) ?_
  (repeat (first | with_reducible refine thenQ_normal ?_ | with_reducible refine thenQ_exit ?_ | with_reducible refine thenQ_ret ?_ | with_reducible refine blkQ_normal ?_ | with_reducible refine blkQ_ret ?_ | with_reducible refine blkQ_hit ?_ | (with_reducible refine blkQ_miss ?_ ?_; · rfl) | refine wc_seq ?_ | refine wc_skip ?_ | refine wc_block ?_ | refine wc_true rfl ?_ | refine wc_false rfl ?_ | refine wc_exit ?_ | refine wc_ret ?_ | (refine wc_region ?_; repeat (first | refine gp1 (by exact rfl) ?_ | refine gl1 (by exact rfl) ?_ | refine gb1 (by exact rfl) ?_ | refine gi1 (by exact rfl) ?_ | refine gt1 (by exact rfl) ?_)) | refine wl_nil ?_ | refine wq_nil ?_ | refine gp1 (by exact rfl) ?_ | refine gl1 (by exact rfl) ?_ | refine gb1 (by exact rfl) ?_ | refine gi1 (by exact rfl) ?_ | refine gt1 (by exact rfl) ?_ | refine gp2 (by exact rfl) ?_ | refine gl2 (by exact rfl) ?_ | refine gb2 (by exact rfl) ?_ | refine gi2 (by exact rfl) ?_))
  exact ⟨(), _, .cons (rv_tmp rfl) (.cons (rv_tmp rfl) (.cons (rv_tmp rfl) .nil)), trivial, List.Perm.refl _⟩
end
end Go.Proofs.Ytofngbaefbbeiaa
