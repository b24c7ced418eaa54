/- Walks: scopes and labels; min; the walk that finds blocks: from. Walks: the numbers of the blocks: the two closures. Walks: the numbers of the blocks. Walks: Blocks. -/
import Derived.Test.YtofngbaefbbeiaaCP
import Derived.Test.YtofngbaefbbeiaaCW
import Derived.Scope
import Derived.Test.YtofngbaefbbeiaaCA
set_option linter.unusedVariables false
set_option linter.unusedSimpArgs false
set_option maxHeartbeats 8000000
namespace Go.Proofs.Ytofngbaefbbeiaa
open Go.RowKit
def nogQ (Q : QQ) : QQ := fun ex Γ σ => match ex with | .goto _ => False | ex => Q ex Γ σ
section
variable {P : Program} {n : Nat} {w0 : World} {D : List Nat} {Q : QQ} {Γ : Tm} {σ : List Res} {o : Oper}
theorem nogQ_normal (h : Q .normal Γ σ) : nogQ Q .normal Γ σ := h
theorem nogQ_exit {i : Nat} (h : Q (.exit i) Γ σ) : nogQ Q (.exit i) Γ σ := h
theorem nogQ_ret (h : Q .ret Γ σ) : nogQ Q .ret Γ σ := h
theorem wc_scope {c : Code} (h : WC P n w0 D c (nogQ Q) Γ σ) : WC P n w0 D (.scope c) Q Γ σ := .mk fun a w hs hst =>
  wp_scope_straight (wp_mono (h.run a w hs hst) fun ex a' w' hq => by
    cases ex with
    | normal => exact hq
    | panic c => exact hq.elim
    | outgrown => exact hq.elim
    | exit i => exact hq
    | goto l => obtain ⟨_, _, _, _, hq⟩ := hq; exact hq.elim
    | ret => exact hq)
theorem wc_label {l : Nat} (h : Q .normal Γ σ) : WC P n w0 D (.label l) Q Γ σ := .mk fun a w hs hst => wp_label ⟨Γ, σ, hs, hst, h⟩
theorem val_min {x y : Operand} {t1 t2 : TypeId} {k : IntKind} {a b : Int} (hop : o.op = .call { callee := .builtin .min, args := #[x, y], argTypes := #[t1, t2] }) (hx : ev Γ x = some (.int k a)) (hy : ev Γ y = some (.int k b)) : ValOK P w0 D σ Γ o (.int k (min a b)) := by
  refine ⟨fun w hst g hg => ?_⟩
  have e : (if b < a then b else a) = min a b := by
    by_cases h : b < a
    · rw [if_pos h]; omega
    · rw [if_neg h]; omega
  simp [execOp, hop, resolve, invoke, builtin, hg _ _ hx, hg _ _ hy, Builtin.min_, Builtin.min2, Result.andThen, e]
end
theorem ggx {P Q : Prop} (k : P) (h : Hold P → Q := by (intro kk; (repeat (first | with_reducible refine thenQ_normal ?_ | with_reducible refine thenQ_exit ?_ | with_reducible refine thenQ_ret ?_ | with_reducible refine blkQ_normal ?_ | with_reducible refine blkQ_ret ?_ | with_reducible refine blkQ_hit ?_ | (with_reducible refine blkQ_miss ?_ ?_; · rfl) | with_reducible refine nogQ_normal ?_ | with_reducible refine nogQ_exit ?_ | with_reducible refine nogQ_ret ?_ | refine wc_seq ?_ | refine wc_skip ?_ | refine wc_block ?_ | refine wc_true rfl ?_ | refine wc_false rfl ?_ | refine wc_exit ?_ | refine wc_ret ?_ | refine wc_scope ?_ | refine wc_label ?_ | (refine wc_region ?_; repeat (first | refine gp1 (by exact rfl) ?_ | refine gl1 (by exact rfl) ?_ | refine gb1 (by exact rfl) ?_ | refine gi1 (by exact rfl) ?_ | refine gt1 (by exact rfl) ?_)) | refine wl_nil ?_ | refine wq_nil ?_ | refine gp1 (by exact rfl) ?_ | refine gl1 (by exact rfl) ?_ | refine gb1 (by exact rfl) ?_ | refine gi1 (by exact rfl) ?_ | refine gt1 (by exact rfl) ?_ | refine gp2 (by exact rfl) ?_ | refine gl2 (by exact rfl) ?_ | refine gb2 (by exact rfl) ?_ | refine gi2 (by exact rfl) ?_)); exact kk.get)) : Q := h ⟨k⟩
structure FX where
  s : WS
  F : List Int
  A : Option Addr
  c : Nat
  at_ : List Int
section
variable {g b1 b2 b3 n ab : Nat} {x : PA} {p : Pat} {v : Int} {at0 : List Int}
def lowS (s : WS) (L : List Int) : WS := ⟨s.seen, L, s.block, s.S, s.A, s.c, s.clk, s.ct⟩
/-- what stays seen -/
def Mon (n : Nat) (a b : List Int) : Prop := ∀ u : Int, 0 ≤ u → u < n → gt a u ≠ 0 → gt b u ≠ 0
structure FOK (p : Pat) (n : Nat) (s : WS) (F at_ : List Int) : Prop where
  t : TInv p n s.seen s.low s.block s.S F at_ s.clk s.ct
  b : WB n s.seen s.block s.clk s.ct
theorem from_c {s : WS} (w : World) (hm : May p) (hn : p.rows = n) (hsq : p.rows = p.width) (op : RdPO w ((WkI g b1 b2 b3 n x p s).flatMap Res.fp) x p) (h0 : 0 ≤ v) (h1 : v < n) (hv : gt s.seen v = 0) (hi : FOK p n s [] at0) (hw : Own (WkI g b1 b2 b3 n x p s) w) :
    Calls Try.prog 90 [.pointer (some ⟨g, 0, none⟩), vi v].toArray w (Ret (WkI g b1 b2 b3 n x p s) (fun _ : FX => .tuple #[]) (fun y => WkI g b1 b2 b3 n x p y.s) (fun y => FOK p n y.s [] y.at_ ∧ Mon n s.seen y.s.seen ∧ gt y.s.seen v ≠ 0) w) := by
  have HD := hm.toHead
  have hsm := hm.small
  have hon : On n (hasB p) := by rw [← hn]; exact hasB_on hm hsq
  have hn2 : n ≤ 128 := by have := HD.r1; omega
  refine calls_wc ((WkI g b1 b2 b3 n x p s).flatMap Res.fp) (WkI g b1 b2 b3 n x p s) [] (fun _ => []) Try.func90 rfl rfl (fun _ => rfl) Try.ntmps90 rfl hw rfl ?_
  have os := op.s
  have oc := op.c
  refine ggx ?_
  refine gbi (by exact rfl) ?_
  intro fb
  refine ggx ?_
  refine gmk vi 0 rfl rfl rfl rfl rfl rfl rfl rfl rfl rfl rfl (by omega) (Int.le_refl _) (by omega) (by omega) ?_
  intro ab
  rw [hn, Int.toNat_natCast]
  refine ggx ?_
  have hmaxW := hi.b.len hi.t (by omega)
  refine gc3 (WkI g b1 b2 b3 n x p s ++ [osl TI vi (some ⟨ab, 0, none⟩) n (List.replicate n 0)]) (fun w hst hst1 => enter_c w hm hn hmaxW (by simp) h0 h1 (op.later hst1) hst1.own) (by exact rfl) ?_
  dsimp only [WkI, List.cons_append, List.nil_append]
  (repeat (first | refine gk1 ?_ | refine gk2 ?_ | refine gk3 ?_ | refine gk0 ?_ | refine gk4 ?_))
  rintro ⟨A', c'⟩ _
  dsimp only [List.cons_append, List.nil_append]
  obtain ⟨wb1, wz1⟩ := hi.b.enter hi.t.l1 h0 h1 hv hi.t.clk0
  have hfirst : FOK p n (entS s v A' c') [v] ((List.replicate n 0).set v.toNat (gt p.start v)) := ⟨(hi.t.at (A' := List.replicate n 0) (by simp)).enter hm hn (.inl rfl) h0 h1 hv, wb1⟩
  refine ggx ?_
  refine glp (fun y : FX => FOK p n y.s y.F y.at_ ∧ Mon n s.seen y.s.seen ∧ gt y.s.seen v ≠ 0) (fun y => [(0, .pointer (some ⟨g, 0, none⟩)), (4, .slice y.A y.F.length y.c), (5, .slice (some ⟨ab, 0, none⟩) n n)])
    (fun y => [blk g (wkC x p n b1 b2 b3 y.s.A y.s.S.length y.s.c y.s.clk y.s.ct) TW, osl TI vi (some ⟨b1, 0, none⟩) n y.s.seen, osl TI vi (some ⟨b2, 0, none⟩) n y.s.low, osl TI vi (some ⟨b3, 0, none⟩) n y.s.block, osl TI vi y.s.A y.s.c y.s.S, osl TI vi (some ⟨ab, 0, none⟩) n y.at_, osl TI vi y.A y.c y.F]) (fun y => 2 * zers y.s.seen + y.F.length) ⟨entS s v A' c', [v], some ⟨fb, 0, none⟩, 1, (List.replicate n 0).set v.toNat (gt p.start v)⟩ ⟨hfirst, ?_, ?_⟩ ?_
  · intro u u0 u1 hu
    dsimp only [entS]
    have hck := hi.t.clk0
    have hl1 := hi.t.l1
    rw [gt_setI h0 (by omega) u0]
    split
    · omega
    · exact hu
  · dsimp only [entS]
    have hck := hi.t.clk0
    have hl1 := hi.t.l1
    rw [gt_setI h0 (by omega) h0, if_pos rfl]
    omega
  rintro ⟨⟨seen, low, block, S, SA, Sc, clk, ct⟩, F, WA_, Wc, at_⟩ ⟨hF, hMon, hsv⟩
  dsimp only at hF hMon hsv ⊢
  have hWL := hF.b.len hF.t (by omega)
  rcases List.eq_nil_or_concat F with rfl | ⟨G, u, rfl⟩
  · dsimp only [List.length_nil]
    refine ggx ?_
    exact grt (⟨⟨seen, low, block, S, SA, Sc, clk, ct⟩, [], WA_, Wc, at_⟩ : FX) ⟨hF, hMon, hsv⟩
  · simp only [List.concat_eq_append] at hF ⊢
    have hFl : (G ++ [u]).length = G.length + 1 := by simp
    have hFn := hF.t.lenF
    have hckn := hF.b.a
    have hgu : gt (G ++ [u]) (((G ++ [u]).length : Int) - 1) = u := by
      rw [gt_elem (by omega) (by omega)]
      have : (((G ++ [u]).length : Int) - 1).toNat = G.length := by omega
      simp only [this]
      simp
    have huS := hF.t.FS u (by simp)
    have hur := hF.t.sS u huS
    refine ggx ?_
    rw [hgu]
    refine ggx ?_
    refine glp (fun y : FX => FOK p n ⟨seen, y.s.low, block, S, SA, Sc, clk, ct⟩ (G ++ [u]) y.at_) (fun y => [(0, .pointer (some ⟨g, 0, none⟩)), (4, .slice WA_ (G ++ [u]).length Wc), (5, .slice (some ⟨ab, 0, none⟩) n n), (6, vi u)])
      (fun y => [blk g (wkC x p n b1 b2 b3 SA S.length Sc clk ct) TW, osl TI vi (some ⟨b1, 0, none⟩) n seen, osl TI vi (some ⟨b2, 0, none⟩) n y.s.low, osl TI vi (some ⟨b3, 0, none⟩) n block, osl TI vi SA Sc S, osl TI vi (some ⟨ab, 0, none⟩) n y.at_, osl TI vi WA_ Wc (G ++ [u])]) (fun y => (gt p.start (u + 1) - gt y.at_ u).toNat) ⟨⟨seen, low, block, S, SA, Sc, clk, ct⟩, G ++ [u], WA_, Wc, at_⟩ hF ?_
    rintro ⟨⟨_, low, _, _, _, _, _, _⟩, _, _, _, at_⟩ hF
    dsimp only at hF ⊢
    have hWL := hF.b.len hF.t (by omega)
    have l1 := hF.t.l1
    have l2 := hF.t.l2
    have l3 := hF.t.l3
    have l4 := hF.t.l4
    have hck0 := hF.t.clk0
    dsimp only at l1 l2 l3 l4 hck0
    have hua := hF.t.atr u (by simp)
    have g1 := HD.lo (r := u) (by omega) (by omega)
    have g2 := HD.hi (r := u + 1) (by omega) (by omega)
    have hsl := HD.len
    by_cases hat : gt at_ u < gt p.start (u + 1)
    · have he : hasB p u (gt p.cols (gt at_ u)) = true := hasB_iff.2 ⟨by omega, by omega, gt at_ u, hua.1, hat, rfl⟩
      obtain ⟨_, _, c0, c1⟩ := hon _ _ he
      refine ggx ?_
      refine wc_quiet mixed (by kernel_rfl) ?_
      refine ggx ?_
      refine wc_quiet mixed (by kernel_rfl) ?_
      refine ggx ?_
      by_cases hz : gt seen (gt p.cols (gt at_ u)) = 0
      · refine ggx ?_
        refine gc3 (WkI g b1 b2 b3 n x p ⟨seen, low, block, S, SA, Sc, clk, ct⟩ ++ [osl TI vi (some ⟨ab, 0, none⟩) n at_]) (fun w hst hst1 => enter_c w hm hn hWL l4 c0 c1 (op.later hst1) hst1.own) (by exact rfl) ?_
        dsimp only [WkI, List.cons_append, List.nil_append]
        (repeat (first | refine gk1 ?_ | refine gk2 ?_ | refine gk3 ?_ | refine gk0 ?_ | refine gk4 ?_))
        rintro ⟨A2, c2⟩ _
        dsimp only [List.cons_append, List.nil_append]
        obtain ⟨wb2, wz2⟩ := hF.b.enter l1 c0 c1 hz hck0
        have ht2 := hF.t.enter hm hn (.inr ⟨G, u, rfl, hat, rfl⟩) c0 c1 hz
        refine ggx ?_
        refine gpush (by exact rfl) (fun _ => by exact rfl) ?_ (hl := by omega)
        intro _ A3 c3
        refine ggx ?_
        refine gnx (⟨entS ⟨seen, low, block, S, SA, Sc, clk, ct⟩ (gt p.cols (gt at_ u)) A2 c2, (G ++ [u]) ++ [gt p.cols (gt at_ u)], A3, c3, at_.set (gt p.cols (gt at_ u)).toNat (gt p.start (gt p.cols (gt at_ u)))⟩ : FX) ⟨⟨ht2, wb2⟩, ?_, ?_⟩ ?_
        · intro z z0 z1 hzz
          dsimp only [entS]
          rw [gt_setI c0 (by omega) z0]
          split
          · omega
          · exact hMon z z0 z1 hzz
        · dsimp only [entS]
          rw [gt_setI c0 (by omega) h0]
          split
          · omega
          · exact hsv
        · dsimp only [entS]
          simp only [List.length_append, List.length_singleton] at *
          omega
      · have hcl := hF.t.cls _ c0 c1
        dsimp only at hcl
        by_cases hb : gt block (gt p.cols (gt at_ u)) < 0
        · have hcS : gt p.cols (gt at_ u) ∈ S := by
            rcases hcl with h | h | h
            · exact (hz h.1).elim
            · exact h
            · omega
          have hul2 : u.toNat < low.length := by omega
          have hnext : FOK p n ⟨seen, low.set u.toNat (min (gt low u) (gt low (gt p.cols (gt at_ u)))), block, S, SA, Sc, clk, ct⟩ (G ++ [u]) (at_.set u.toNat (gt at_ u + 1)) :=
            ⟨hF.t.look hat rfl hn (by rw [List.length_set]; exact l2) (fun z z0 hzu => by rw [gt_setI (by omega) (by omega) z0, if_neg hzu]) (by rw [gt_setI (by omega) (by omega) (by omega), if_pos rfl]) (.inr ⟨hcS, rfl⟩), hF.b⟩
          refine ggx ?_
          refine gwa [osl TI vi (some ⟨b2, 0, none⟩) n low] ?_
          (repeat (first | refine gk1 ?_ | refine gk2 ?_ | refine gk3 ?_ | refine gk0 ?_ | refine gk4 ?_))
          dsimp only [List.cons_append, List.nil_append]
          (first | refine ga1 0 (by exact rfl) (by exact rfl) ?_ | refine ga2 0 (by exact rfl) (by exact rfl) ?_ | refine ga3 0 (by exact rfl) (by exact rfl) ?_ | refine ga4 0 (by exact rfl) (by exact rfl) ?_)
          (first | refine ga1 1 (by exact rfl) (by exact rfl) ?_ | refine ga2 1 (by exact rfl) (by exact rfl) ?_ | refine ga3 1 (by exact rfl) (by exact rfl) ?_ | refine ga4 1 (by exact rfl) (by exact rfl) ?_)
          (first | refine ga1 2 (by exact rfl) (by exact rfl) ?_ | refine ga2 2 (by exact rfl) (by exact rfl) ?_ | refine ga3 2 (by exact rfl) (by exact rfl) ?_ | refine ga4 2 (by exact rfl) (by exact rfl) ?_)
          (first | refine ga1 3 (by exact rfl) (by exact rfl) ?_ | refine ga2 3 (by exact rfl) (by exact rfl) ?_ | refine ga3 3 (by exact rfl) (by exact rfl) ?_ | refine ga4 3 (by exact rfl) (by exact rfl) ?_)
          (first | refine ga1 4 (by exact rfl) (by exact rfl) ?_ | refine ga2 4 (by exact rfl) (by exact rfl) ?_ | refine ga3 4 (by exact rfl) (by exact rfl) ?_ | refine ga4 4 (by exact rfl) (by exact rfl) ?_)
          (first | refine ga1 5 (by exact rfl) (by exact rfl) ?_ | refine ga2 5 (by exact rfl) (by exact rfl) ?_ | refine ga3 5 (by exact rfl) (by exact rfl) ?_ | refine ga4 5 (by exact rfl) (by exact rfl) ?_)
          (first | refine ga1 6 (by exact rfl) (by exact rfl) ?_ | refine ga2 6 (by exact rfl) (by exact rfl) ?_ | refine ga3 6 (by exact rfl) (by exact rfl) ?_ | refine ga4 6 (by exact rfl) (by exact rfl) ?_)
          (first | refine ga1 7 (by exact rfl) (by exact rfl) ?_ | refine ga2 7 (by exact rfl) (by exact rfl) ?_ | refine ga3 7 (by exact rfl) (by exact rfl) ?_ | refine ga4 7 (by exact rfl) (by exact rfl) ?_)
          (first | refine ga1 8 (by exact rfl) (by exact rfl) ?_ | refine ga2 8 (by exact rfl) (by exact rfl) ?_ | refine ga3 8 (by exact rfl) (by exact rfl) ?_ | refine ga4 8 (by exact rfl) (by exact rfl) ?_)
          (first | refine ga1 9 (by exact rfl) (by exact rfl) ?_ | refine ga2 9 (by exact rfl) (by exact rfl) ?_ | refine ga3 9 (by exact rfl) (by exact rfl) ?_ | refine ga4 9 (by exact rfl) (by exact rfl) ?_)
          (first | refine ga1 10 (by exact rfl) (by exact rfl) ?_ | refine ga2 10 (by exact rfl) (by exact rfl) ?_ | refine ga3 10 (by exact rfl) (by exact rfl) ?_ | refine ga4 10 (by exact rfl) (by exact rfl) ?_)
          (first | refine ga1 12 (by exact rfl) (by exact rfl) ?_ | refine ga2 12 (by exact rfl) (by exact rfl) ?_ | refine ga3 12 (by exact rfl) (by exact rfl) ?_ | refine ga4 12 (by exact rfl) (by exact rfl) ?_)
          (first | refine ga1 13 (by exact rfl) (by exact rfl) ?_ | refine ga2 13 (by exact rfl) (by exact rfl) ?_ | refine ga3 13 (by exact rfl) (by exact rfl) ?_ | refine ga4 13 (by exact rfl) (by exact rfl) ?_)
          (first | refine ga1 14 (by exact rfl) (by exact rfl) ?_ | refine ga2 14 (by exact rfl) (by exact rfl) ?_ | refine ga3 14 (by exact rfl) (by exact rfl) ?_ | refine ga4 14 (by exact rfl) (by exact rfl) ?_)
          (first | refine ga1 15 (by exact rfl) (by exact rfl) ?_ | refine ga2 15 (by exact rfl) (by exact rfl) ?_ | refine ga3 15 (by exact rfl) (by exact rfl) ?_ | refine ga4 15 (by exact rfl) (by exact rfl) ?_)
          (first | refine ga1 16 (by exact rfl) (by exact rfl) ?_ | refine ga2 16 (by exact rfl) (by exact rfl) ?_ | refine ga3 16 (by exact rfl) (by exact rfl) ?_ | refine ga4 16 (by exact rfl) (by exact rfl) ?_)
          (first | refine ga1 17 (by exact rfl) (by exact rfl) ?_ | refine ga2 17 (by exact rfl) (by exact rfl) ?_ | refine ga3 17 (by exact rfl) (by exact rfl) ?_ | refine ga4 17 (by exact rfl) (by exact rfl) ?_)
          refine gaAll [11, 18] ?_
          intro j hj
          simp only [List.mem_cons, List.not_mem_nil, or_false] at hj
          rcases hj with rfl | rfl
          · refine ⟨_, rfl, ?_⟩
            refine gl0 (by exact rfl) ?_
            refine ⟨by (repeat (first | exact Suf.refl | exact Suf.nil | exact Suf.app _ _ | apply Suf.cons)), ?_⟩
            refine gaOne 18 rfl ?_
            refine gl0 (by exact rfl) ?_
            refine ⟨by (repeat (first | exact Suf.refl | exact Suf.nil | exact Suf.app _ _ | apply Suf.cons)), ?_⟩
            refine wa_v 19 [_] rfl (by kernel_rfl) rfl rfl rfl rfl (val_min rfl rfl rfl) ?_
            (first | refine ga1 20 (by exact rfl) (by exact rfl) ?_ | refine ga2 20 (by exact rfl) (by exact rfl) ?_ | refine ga3 20 (by exact rfl) (by exact rfl) ?_ | refine ga4 20 (by exact rfl) (by exact rfl) ?_)
            refine gaOne 21 rfl ?_
            refine gt0 (by exact rfl) ?_
            refine ⟨by (repeat (first | exact Suf.refl | exact Suf.nil | exact Suf.app _ _ | apply Suf.cons)), ?_⟩
            refine gaDone ?_
            refine ggx ?_
            exact gnx (⟨⟨seen, low.set u.toNat (min (gt low u) (gt low (gt p.cols (gt at_ u)))), block, S, SA, Sc, clk, ct⟩, [], none, 0, at_.set u.toNat (gt at_ u + 1)⟩ : FX) hnext (by dsimp only; rw [gt_setI (by omega) (by omega) (by omega), if_pos rfl]; omega)
          · refine ⟨_, rfl, ?_⟩
            refine gl0 (by exact rfl) ?_
            refine ⟨by (repeat (first | exact Suf.refl | exact Suf.nil | exact Suf.app _ _ | apply Suf.cons)), ?_⟩
            refine gaOne 11 rfl ?_
            refine gl0 (by exact rfl) ?_
            refine ⟨by (repeat (first | exact Suf.refl | exact Suf.nil | exact Suf.app _ _ | apply Suf.cons)), ?_⟩
            refine wa_v 19 [_] rfl (by kernel_rfl) rfl rfl rfl rfl (val_min rfl rfl rfl) ?_
            (first | refine ga1 20 (by exact rfl) (by exact rfl) ?_ | refine ga2 20 (by exact rfl) (by exact rfl) ?_ | refine ga3 20 (by exact rfl) (by exact rfl) ?_ | refine ga4 20 (by exact rfl) (by exact rfl) ?_)
            refine gaOne 21 rfl ?_
            refine gt0 (by exact rfl) ?_
            refine ⟨by (repeat (first | exact Suf.refl | exact Suf.nil | exact Suf.app _ _ | apply Suf.cons)), ?_⟩
            refine gaDone ?_
            refine ggx ?_
            exact gnx (⟨⟨seen, low.set u.toNat (min (gt low u) (gt low (gt p.cols (gt at_ u)))), block, S, SA, Sc, clk, ct⟩, [], none, 0, at_.set u.toNat (gt at_ u + 1)⟩ : FX) hnext (by dsimp only; rw [gt_setI (by omega) (by omega) (by omega), if_pos rfl]; omega)
        · have hnext : FOK p n ⟨seen, low, block, S, SA, Sc, clk, ct⟩ (G ++ [u]) (at_.set u.toNat (gt at_ u + 1)) :=
            ⟨hF.t.look hat rfl hn l2 (fun z z0 hzu => rfl) rfl (.inl ⟨by dsimp only; omega, rfl⟩), hF.b⟩
          refine ggx ?_
          exact gnx (⟨⟨seen, low, block, S, SA, Sc, clk, ct⟩, [], none, 0, at_.set u.toNat (gt at_ u + 1)⟩ : FX) hnext (by dsimp only; rw [gt_setI (by omega) (by omega) (by omega), if_pos rfl]; omega)
    · have hat2 : gt at_ u = gt p.start (u + 1) := by omega
      refine ggx ?_
      refine wc_quiet mixed (by kernel_rfl) ?_
      refine ggx ?_
      refine wl_v rfl rfl rfl (val_pre rfl rfl rfl (fun w hst => grd hst) (el_of rfl) (sz_of rfl) (by omega) (by omega)) ?_
      rw [show (((G ++ [u]).length : Int) - 1).toNat = G.length by omega]
      refine wl_short (e := TI) (f := vi) (A := WA_) (c := Wc) G [u] ?_
      (repeat (first | refine gk1 ?_ | refine gk2 ?_ | refine gk3 ?_ | refine gk0 ?_ | refine gk4 ?_))
      refine ggx ?_
      refine wc_quiet mixed (by kernel_rfl) ?_
      refine ggx ?_
      by_cases hlow : gt low u = gt seen u
      · obtain ⟨S1, S2, hS⟩ := List.append_of_mem (hF.t.FS u (by simp))
        dsimp only at hS
        have hmem : ∀ z ∈ u :: S2, z ∈ S := fun z hz => by rw [hS]; exact List.mem_append_right _ hz
        have huS2 : u ∉ S2 := fun hm => by
          have hs := hF.t.srt
          dsimp only at hs
          rw [hS, List.pairwise_append, List.pairwise_cons] at hs
          have := hs.2.1.1 u hm
          omega
        refine ggx ?_
        refine gc3 (WkI g b1 b2 b3 n x p ⟨seen, low, block, S, SA, Sc, clk, ct⟩) (fun w hst hst1 => walkClose_c w hWL hS (fun z hz => ⟨(hF.t.sS z (hmem z hz)).1, (hF.t.sS z (hmem z hz)).2.1⟩) huS2 hst1.own) (by exact rfl) ?_
        dsimp only [WkI, List.cons_append, List.nil_append]
        (repeat (first | refine gk1 ?_ | refine gk2 ?_ | refine gk3 ?_ | refine gk0 ?_ | refine gk4 ?_))
        rintro B hB
        refine ggx ?_
        exact gnx (⟨⟨seen, low, B, S1, SA, Sc, clk, ct + 1⟩, G, WA_, Wc, at_⟩ : FX) ⟨⟨hF.t.close hn hon hat2 hlow hS hB, hF.b.close hF.t (hF.t.FS u (by simp)) hmem hB⟩, hMon, hsv⟩ (by dsimp only; omega)
      · refine ggx ?_
        exact gnx (⟨⟨seen, low, block, S, SA, Sc, clk, ct⟩, G, WA_, Wc, at_⟩ : FX) ⟨⟨hF.t.popUp hat2 hlow, hF.b⟩, hMon, hsv⟩ (by dsimp only; omega)
end
abbrev TWp : TypeId := 123
abbrev NuI (wb tb wt g b1 b2 b3 n m : Nat) (x : PA) (p : Pat) (s : WS) (W : List Int) : List Res := [blk wb [.pointer (some ⟨g, 0, none⟩)] TWp, blk g (wkC x p n b1 b2 b3 s.A s.S.length s.c s.clk s.ct) TW, osl TI vi (some ⟨b3, 0, none⟩) n s.block, blk tb [.slice (some ⟨wt, 0, none⟩) m m] TIs, osl TI vi (some ⟨wt, 0, none⟩) m W]
section
variable {wb tb wt bb g b1 b2 b3 n m : Nat} {x : PA} {p : Pat} {s : WS}
/-- what the first closure knows when k places have been seen -/
structure N1 (p : Pat) (B : List Int) (m : Nat) (k : Int) (W : List Int) : Prop where
  len : W.length = m
  at_ : ∀ b : Int, 0 ≤ b → b < m → gt W b = wsum p (F1 B b) k.toNat
structure N2 (p : Pat) (B W0 : List Int) (m : Nat) (a : Int) (k : Int) (W : List Int) : Prop where
  len : W.length = m
  at_ : ∀ b : Int, 0 ≤ b → b < m → gt W b = gt W0 b - wsum p (F2 B a b) k.toNat
theorem F1_le (B : List Int) (b : Int) : ∀ r c, F1 B b r c ≤ 1 := fun r c => by unfold F1; split <;> omega
theorem F1_nn (B : List Int) (b : Int) : ∀ r c, 0 ≤ F1 B b r c := fun r c => by unfold F1; split <;> omega
theorem F2_le (B : List Int) (a b : Int) : ∀ r c, F2 B a b r c ≤ 1 := fun r c => by unfold F2; split <;> omega
theorem F2_nn (B : List Int) (a b : Int) : ∀ r c, 0 ≤ F2 B a b r c := fun r c => by unfold F2; split <;> omega
theorem F3_le (B num : List Int) (b : Int) : ∀ r c, F3 B num b r c ≤ 1 := fun r c => by unfold F3; split <;> omega
theorem F3_nn (B num : List Int) (b : Int) : ∀ r c, 0 ≤ F3 B num b r c := fun r c => by unfold F3; split <;> omega
theorem num1_c (hm : May p) (hn : p.rows = n) (hon : On n (hasB p)) (hB : BkI p n s.block m) (k r : Int) (W : List Int) (w : World) (r0 : 0 ≤ r) (r1 : r < p.rows) (h1 : gt p.start r ≤ k) (h2 : k < gt p.start (r + 1)) (hW : N1 p s.block m k W) (hw : Own (NuI wb tb wt g b1 b2 b3 n m x p s W) w) :
    Calls Try.prog 118 [vi r, vi (gt p.cols k), vi k, .pointer (some ⟨wb, 0, none⟩), .pointer (some ⟨tb, 0, none⟩)].toArray w (Ret (NuI wb tb wt g b1 b2 b3 n m x p s W) (fun _ : List Int => .tuple #[]) (fun W' => NuI wb tb wt g b1 b2 b3 n m x p s W') (fun W' => N1 p s.block m (k + 1) W') w) := by
  have hsm := hm.small
  have hk := hm.toHead.lo r0 (by omega)
  have hk2 := hm.toHead.hi (r := r + 1) (by omega) (by omega)
  obtain ⟨_, _, c0, c1⟩ := hon _ _ (hasB_iff.2 ⟨r0, r1, k, h1, h2, rfl⟩)
  have hbr := hB.rng r r0 (by omega)
  have hbc := hB.rng _ c0 c1
  have hBl := hB.len
  have hWl := hW.len
  have hwv := hW.at_ _ hbr.1 hbr.2
  have hwb := wsum_le (p := p) (F1_le s.block (gt s.block r)) k.toNat
  have hwn := wsum_nonneg (p := p) (F1_nn s.block (gt s.block r)) k.toNat
  refine calls_wc ((NuI wb tb wt g b1 b2 b3 n m x p s W).flatMap Res.fp) (NuI wb tb wt g b1 b2 b3 n m x p s W) [] (fun _ => []) Try.func118 rfl rfl (fun _ => rfl) Try.ntmps118 rfl hw rfl ?_
  obtain ⟨seen, low, block, S, SA, Sc, clk, ct⟩ := s
  dsimp only [NuI] at hB hbr hbc hBl hwv hwb hwn hW ⊢
  by_cases hne : gt block r = gt block (gt p.cols k)
  · refine gg ?_
    refine wc_quiet mixed (by kernel_rfl) ?_
    refine gg ?_
    have hN : N1 p block m (k + 1) W := ⟨hWl, fun b b0 b1 => by
      rw [wsum_step hm _ r0 r1 h1 h2, hW.at_ b b0 b1]
      rw [show F1 block b r (gt p.cols k) = 0 from if_neg (fun hx => hx.2 (by rw [← hne]; exact hx.1))]
      omega⟩
    exact grt W hN
  · refine gg ?_
    refine wc_quiet mixed (by kernel_rfl) ?_
    refine gg ?_
    refine gwa [osl TI vi (some ⟨wt, 0, none⟩) m W] ?_
    (repeat (first | refine gk1 ?_ | refine gk2 ?_ | refine gk3 ?_ | refine gk0 ?_ | refine gk4 ?_))
    dsimp only [List.cons_append, List.nil_append]
    (first | refine ga1 0 (by exact rfl) (by exact rfl) ?_ | refine ga2 0 (by exact rfl) (by exact rfl) ?_ | refine ga3 0 (by exact rfl) (by exact rfl) ?_ | refine ga4 0 (by exact rfl) (by exact rfl) ?_)
    (first | refine ga1 1 (by exact rfl) (by exact rfl) ?_ | refine ga2 1 (by exact rfl) (by exact rfl) ?_ | refine ga3 1 (by exact rfl) (by exact rfl) ?_ | refine ga4 1 (by exact rfl) (by exact rfl) ?_)
    (first | refine ga1 2 (by exact rfl) (by exact rfl) ?_ | refine ga2 2 (by exact rfl) (by exact rfl) ?_ | refine ga3 2 (by exact rfl) (by exact rfl) ?_ | refine ga4 2 (by exact rfl) (by exact rfl) ?_)
    (first | refine ga1 3 (by exact rfl) (by exact rfl) ?_ | refine ga2 3 (by exact rfl) (by exact rfl) ?_ | refine ga3 3 (by exact rfl) (by exact rfl) ?_ | refine ga4 3 (by exact rfl) (by exact rfl) ?_)
    (first | refine ga1 4 (by exact rfl) (by exact rfl) ?_ | refine ga2 4 (by exact rfl) (by exact rfl) ?_ | refine ga3 4 (by exact rfl) (by exact rfl) ?_ | refine ga4 4 (by exact rfl) (by exact rfl) ?_)
    (first | refine ga1 5 (by exact rfl) (by exact rfl) ?_ | refine ga2 5 (by exact rfl) (by exact rfl) ?_ | refine ga3 5 (by exact rfl) (by exact rfl) ?_ | refine ga4 5 (by exact rfl) (by exact rfl) ?_)
    (first | refine ga1 6 (by exact rfl) (by exact rfl) ?_ | refine ga2 6 (by exact rfl) (by exact rfl) ?_ | refine ga3 6 (by exact rfl) (by exact rfl) ?_ | refine ga4 6 (by exact rfl) (by exact rfl) ?_)
    (first | refine ga1 7 (by exact rfl) (by exact rfl) ?_ | refine ga2 7 (by exact rfl) (by exact rfl) ?_ | refine ga3 7 (by exact rfl) (by exact rfl) ?_ | refine ga4 7 (by exact rfl) (by exact rfl) ?_)
    (first | refine ga1 8 (by exact rfl) (by exact rfl) ?_ | refine ga2 8 (by exact rfl) (by exact rfl) ?_ | refine ga3 8 (by exact rfl) (by exact rfl) ?_ | refine ga4 8 (by exact rfl) (by exact rfl) ?_)
    refine gaOne 9 rfl ?_
    refine gl0 (by exact rfl) ?_
    refine ⟨by (repeat (first | exact Suf.refl | exact Suf.nil | exact Suf.app _ _ | apply Suf.cons)), ?_⟩
    (first | refine ga1 10 (by exact rfl) (by exact rfl) ?_ | refine ga2 10 (by exact rfl) (by exact rfl) ?_ | refine ga3 10 (by exact rfl) (by exact rfl) ?_ | refine ga4 10 (by exact rfl) (by exact rfl) ?_)
    (first | refine ga1 11 (by exact rfl) (by exact rfl) ?_ | refine ga2 11 (by exact rfl) (by exact rfl) ?_ | refine ga3 11 (by exact rfl) (by exact rfl) ?_ | refine ga4 11 (by exact rfl) (by exact rfl) ?_)
    refine gaOne 12 rfl ?_
    refine gt0 (by exact rfl) ?_
    refine ⟨by (repeat (first | exact Suf.refl | exact Suf.nil | exact Suf.app _ _ | apply Suf.cons)), ?_⟩
    refine gaDone ?_
    refine gg ?_
    have hN : N1 p block m (k + 1) (W.set (gt block r).toNat (gt W (gt block r) + 1)) := ⟨by rw [List.length_set]; exact hWl, fun b b0 b1 => by
      rw [wsum_step hm _ r0 r1 h1 h2, gt_setI hbr.1 (by omega) b0]
      by_cases e : b = gt block r
      · rw [if_pos e, show F1 block b r (gt p.cols k) = 1 from if_pos ⟨e.symm, by rw [e]; exact fun h => hne h.symm⟩, hwv, e]
      · rw [if_neg e, show F1 block b r (gt p.cols k) = 0 from if_neg (fun hx => e hx.1.symm), hW.at_ b b0 b1]; omega⟩
    exact grt (W.set (gt block r).toNat (gt W (gt block r) + 1)) hN
theorem num2_c {W0 : List Int} {a : Int} (hm : May p) (hn : p.rows = n) (hon : On n (hasB p)) (hB : BkI p n s.block m) (ha : 0 ≤ a) (ha2 : a < m) (hW0 : ∀ b : Int, 0 ≤ b → b < m → 0 ≤ gt W0 b ∧ gt W0 b ≤ 20000) (k r : Int) (W : List Int) (w : World) (r0 : 0 ≤ r) (r1 : r < p.rows) (h1 : gt p.start r ≤ k) (h2 : k < gt p.start (r + 1)) (hW : N2 p s.block W0 m a k W) (hw : Own (blk bb [vi a] TI :: NuI wb tb wt g b1 b2 b3 n m x p s W) w) :
    Calls Try.prog 119 [vi r, vi (gt p.cols k), vi k, .pointer (some ⟨wb, 0, none⟩), .pointer (some ⟨bb, 0, none⟩), .pointer (some ⟨tb, 0, none⟩)].toArray w (Ret (blk bb [vi a] TI :: NuI wb tb wt g b1 b2 b3 n m x p s W) (fun _ : List Int => .tuple #[]) (fun W' => blk bb [vi a] TI :: NuI wb tb wt g b1 b2 b3 n m x p s W') (fun W' => N2 p s.block W0 m a (k + 1) W') w) := by
  have hsm := hm.small
  have hk := hm.toHead.lo r0 (by omega)
  have hk2 := hm.toHead.hi (r := r + 1) (by omega) (by omega)
  obtain ⟨_, _, c0, c1⟩ := hon _ _ (hasB_iff.2 ⟨r0, r1, k, h1, h2, rfl⟩)
  have hbr := hB.rng r r0 (by omega)
  have hbc := hB.rng _ c0 c1
  have hBl := hB.len
  have hWl := hW.len
  have hwv := hW.at_ _ hbr.1 hbr.2
  have hw0 := hW0 _ hbr.1 hbr.2
  have hwb := wsum_le (p := p) (F2_le s.block a (gt s.block r)) k.toNat
  have hwn := wsum_nonneg (p := p) (F2_nn s.block a (gt s.block r)) k.toNat
  refine calls_wc ((blk bb [vi a] TI :: NuI wb tb wt g b1 b2 b3 n m x p s W).flatMap Res.fp) (blk bb [vi a] TI :: NuI wb tb wt g b1 b2 b3 n m x p s W) [] (fun _ => []) Try.func119 rfl rfl (fun _ => rfl) Try.ntmps119 rfl hw rfl ?_
  obtain ⟨seen, low, block, S, SA, Sc, clk, ct⟩ := s
  dsimp only [NuI] at hB hbr hbc hBl hwv hwb hwn hW hw0 ⊢
  have skip : (gt block (gt p.cols k) ≠ a ∨ gt block r = a) → N2 p block W0 m a (k + 1) W := fun hx => ⟨hWl, fun b b0 b1 => by
    rw [wsum_step hm _ r0 r1 h1 h2, hW.at_ b b0 b1]
    rw [show F2 block a b r (gt p.cols k) = 0 from if_neg (fun hy => hx.elim (fun h => h hy.2.1) (fun h => hy.2.2 (by rw [← hy.1]; exact h)))]
    omega⟩
  by_cases hca : gt block (gt p.cols k) = a
  · by_cases hra : gt block r = a
    · refine gg ?_
      refine wc_quiet mixed (by kernel_rfl) ?_
      refine gg ?_
      exact grt W (skip (.inr hra))
    · refine gg ?_
      refine wc_quiet mixed (by kernel_rfl) ?_
      refine gg ?_
      refine gwa [osl TI vi (some ⟨wt, 0, none⟩) m W] ?_
      (repeat (first | refine gk1 ?_ | refine gk2 ?_ | refine gk3 ?_ | refine gk0 ?_ | refine gk4 ?_))
      dsimp only [List.cons_append, List.nil_append]
      (first | refine ga1 0 (by exact rfl) (by exact rfl) ?_ | refine ga2 0 (by exact rfl) (by exact rfl) ?_ | refine ga3 0 (by exact rfl) (by exact rfl) ?_ | refine ga4 0 (by exact rfl) (by exact rfl) ?_)
      (first | refine ga1 1 (by exact rfl) (by exact rfl) ?_ | refine ga2 1 (by exact rfl) (by exact rfl) ?_ | refine ga3 1 (by exact rfl) (by exact rfl) ?_ | refine ga4 1 (by exact rfl) (by exact rfl) ?_)
      (first | refine ga1 2 (by exact rfl) (by exact rfl) ?_ | refine ga2 2 (by exact rfl) (by exact rfl) ?_ | refine ga3 2 (by exact rfl) (by exact rfl) ?_ | refine ga4 2 (by exact rfl) (by exact rfl) ?_)
      (first | refine ga1 3 (by exact rfl) (by exact rfl) ?_ | refine ga2 3 (by exact rfl) (by exact rfl) ?_ | refine ga3 3 (by exact rfl) (by exact rfl) ?_ | refine ga4 3 (by exact rfl) (by exact rfl) ?_)
      (first | refine ga1 4 (by exact rfl) (by exact rfl) ?_ | refine ga2 4 (by exact rfl) (by exact rfl) ?_ | refine ga3 4 (by exact rfl) (by exact rfl) ?_ | refine ga4 4 (by exact rfl) (by exact rfl) ?_)
      (first | refine ga1 5 (by exact rfl) (by exact rfl) ?_ | refine ga2 5 (by exact rfl) (by exact rfl) ?_ | refine ga3 5 (by exact rfl) (by exact rfl) ?_ | refine ga4 5 (by exact rfl) (by exact rfl) ?_)
      (first | refine ga1 6 (by exact rfl) (by exact rfl) ?_ | refine ga2 6 (by exact rfl) (by exact rfl) ?_ | refine ga3 6 (by exact rfl) (by exact rfl) ?_ | refine ga4 6 (by exact rfl) (by exact rfl) ?_)
      (first | refine ga1 7 (by exact rfl) (by exact rfl) ?_ | refine ga2 7 (by exact rfl) (by exact rfl) ?_ | refine ga3 7 (by exact rfl) (by exact rfl) ?_ | refine ga4 7 (by exact rfl) (by exact rfl) ?_)
      (first | refine ga1 8 (by exact rfl) (by exact rfl) ?_ | refine ga2 8 (by exact rfl) (by exact rfl) ?_ | refine ga3 8 (by exact rfl) (by exact rfl) ?_ | refine ga4 8 (by exact rfl) (by exact rfl) ?_)
      refine gaOne 9 rfl ?_
      refine gl0 (by exact rfl) ?_
      refine ⟨by (repeat (first | exact Suf.refl | exact Suf.nil | exact Suf.app _ _ | apply Suf.cons)), ?_⟩
      (first | refine ga1 10 (by exact rfl) (by exact rfl) ?_ | refine ga2 10 (by exact rfl) (by exact rfl) ?_ | refine ga3 10 (by exact rfl) (by exact rfl) ?_ | refine ga4 10 (by exact rfl) (by exact rfl) ?_)
      (first | refine ga1 11 (by exact rfl) (by exact rfl) ?_ | refine ga2 11 (by exact rfl) (by exact rfl) ?_ | refine ga3 11 (by exact rfl) (by exact rfl) ?_ | refine ga4 11 (by exact rfl) (by exact rfl) ?_)
      refine gaOne 12 rfl ?_
      refine gt0 (by exact rfl) ?_
      refine ⟨by (repeat (first | exact Suf.refl | exact Suf.nil | exact Suf.app _ _ | apply Suf.cons)), ?_⟩
      refine gaDone ?_
      refine gg ?_
      have hN : N2 p block W0 m a (k + 1) (W.set (gt block r).toNat (gt W (gt block r) - 1)) := ⟨by rw [List.length_set]; exact hWl, fun b b0 b1 => by
        rw [wsum_step hm _ r0 r1 h1 h2, gt_setI hbr.1 (by omega) b0]
        by_cases e : b = gt block r
        · rw [if_pos e, show F2 block a b r (gt p.cols k) = 1 from if_pos ⟨e.symm, hca, by rw [e]; exact hra⟩, hwv, e]; omega
        · rw [if_neg e, show F2 block a b r (gt p.cols k) = 0 from if_neg (fun hx => e hx.1.symm), hW.at_ b b0 b1]; omega⟩
      exact grt (W.set (gt block r).toNat (gt W (gt block r) - 1)) hN
  · refine gg ?_
    refine wc_quiet mixed (by kernel_rfl) ?_
    refine gg ?_
    exact grt W (skip (.inl hca))
end
structure NX where
  num : List Int
  W : List Int
  k : Int
section
variable {g b1 b2 b3 n m : Nat} {x : PA} {p : Pat} {s : WS}
/-- the answer: numbers as the least block that waits for none comes next -/
structure NumOK (p : Pat) (n : Nat) (xs : List Int) : Prop where
  len : xs.length = n
  nums : ∃ k, Nums (hasB p) n k (fun u => gt xs u)
  all : AllN n (fun u => gt xs u)
theorem numbered_c (w : World) (hm : May p) (hn : p.rows = n) (hsq : p.rows = p.width) (hB : BkI p n s.block m) (hct : s.ct = m) (hm2 : m ≤ n) (op : RdPO w ((WkI g b1 b2 b3 n x p s).flatMap Res.fp) x p) (hw : Own (WkI g b1 b2 b3 n x p s) w) :
    Calls Try.prog 91 [.pointer (some ⟨g, 0, none⟩)].toArray w (Ret (WkI g b1 b2 b3 n x p s) (fun y : RX => .slice y.A y.xs.length y.c) (fun y => [osl TI vi y.A y.c y.xs]) (fun y => NumOK p n y.xs) w) := by
  have HD := hm.toHead
  have hsm := hm.small
  have hon : On n (hasB p) := by rw [← hn]; exact hasB_on hm hsq
  have hn2 : n ≤ 128 := by have := HD.r1; omega
  refine calls_wc ((WkI g b1 b2 b3 n x p s).flatMap Res.fp) (WkI g b1 b2 b3 n x p s) [.tmp 2] (fun y : RX => [.slice y.A y.xs.length y.c]) Try.func91 rfl rfl (fun _ => rfl) Try.ntmps91 rfl hw rfl ?_
  have hBl := hB.len
  obtain ⟨seen, low, block, S, SA, Sc, clk, ct⟩ := s
  dsimp only at hct hB hBl
  subst hct
  dsimp only [WkI]
  refine ggx ?_
  refine wl_op (ok_box rfl rfl rfl rfl rfl ?_); intro wb
  refine ggx ?_
  refine gmk vi 0 rfl rfl rfl rfl rfl rfl rfl rfl rfl rfl rfl (by omega) (Int.le_refl _) (by omega) (by omega) ?_
  intro wt
  rw [Int.toNat_natCast]
  refine ggx ?_
  refine wl_op (ok_alloc rfl rfl rfl rfl (ze_of rfl) ?_); intro tb
  refine ggx ?_
  refine gc3 (NuI wb tb wt g b1 b2 b3 n m x p ⟨seen, low, block, S, SA, Sc, clk, m⟩ (List.replicate m 0)) (fun w hst hst1 => each_c hm (fun k (W : List Int) => NuI wb tb wt g b1 b2 b3 n m x p ⟨seen, low, block, S, SA, Sc, clk, m⟩ W) (N1 p block m) 118 [Value.pointer (some ⟨wb, 0, none⟩), Value.pointer (some ⟨tb, 0, none⟩)] (bod_of rfl) (List.replicate m 0) w (op.s.later hst1) (op.c.later hst1) ⟨by simp, fun b b0 b1 => by rw [gt_rep b0 b1]; rfl⟩ hst1.own
    (fun k r W w h0 h1 h2 h3 hW hw => num1_c hm hn hon hB k r W w h0 h1 h2 h3 hW hw.own)) (by exact rfl) ?_
  dsimp only [NuI]
  (repeat (first | refine gk1 ?_ | refine gk2 ?_ | refine gk3 ?_ | refine gk0 ?_ | refine gk4 ?_))
  rintro W hW
  dsimp only [NuI, List.cons_append, List.nil_append] at hW ⊢
  have hW1 : Wt p block (List.replicate m (-1)) W m := Wt.zero hB hW.len hm hon (fun b b0 b1 => by rw [hW.at_ b b0 b1]; rfl)
  refine ggx ?_
  refine gmk vi 0 rfl rfl rfl rfl rfl rfl rfl rfl rfl rfl rfl (by omega) (Int.le_refl _) (by omega) (by omega) ?_
  intro nb
  rw [Int.toNat_natCast]
  refine ggx ?_
  refine glp (fun y : NX => 0 ≤ y.k ∧ y.k ≤ m ∧ y.num.length = m ∧ ∀ i, 0 ≤ i → i < y.k → gt y.num i = -1) (fun y => [(1, .pointer (some ⟨wb, 0, none⟩)), (3, .pointer (some ⟨tb, 0, none⟩)), (4, .slice (some ⟨nb, 0, none⟩) m m), (29, vi m), (30, vi y.k)])
    (fun y => [osl TI vi (some ⟨nb, 0, none⟩) m y.num, blk wb [.pointer (some ⟨g, 0, none⟩)] TWp, blk g (wkC x p n b1 b2 b3 SA S.length Sc clk m) TW, osl TI vi (some ⟨b3, 0, none⟩) n block, blk tb [.slice (some ⟨wt, 0, none⟩) m m] TIs, osl TI vi (some ⟨wt, 0, none⟩) m W]) (fun y => (m - y.k).toNat) ⟨List.replicate m 0, [], 0⟩ ⟨by simp, by simp, by simp, fun i i0 i1 => by dsimp only at i1; omega⟩ ?_
  rintro ⟨num, _, k⟩ ⟨hk0, hk1, hL, hneg⟩
  dsimp only at hk0 hk1 hL hneg ⊢
  by_cases hk : k < m
  · refine ggx ?_
    exact gnx (⟨num.set k.toNat (-1), [], k + 1⟩ : NX) ⟨by dsimp only; omega, by dsimp only; omega, by dsimp only; rw [List.length_set]; exact hL, fun i i0 i1 => by
      dsimp only at i1 ⊢
      rw [gt_setI hk0 (by omega) i0]
      by_cases e : i = k
      · rw [if_pos e]
      · rw [if_neg e]; exact hneg i i0 (by omega)⟩ (by dsimp only; omega)
  obtain rfl : k = m := by omega
  obtain rfl : num = List.replicate m (-1) := ext_gt (by simpa using hL) fun i i0 i1 => by
    rw [hneg i i0 (by omega), gt_rep i0 (by omega)]
  clear hneg hk0 hk1 hL hk
  refine ggx ?_
  refine glp (fun y : NX => 0 ≤ y.k ∧ y.k ≤ m ∧ Wt p block y.num y.W m ∧ Nums (hasB p) n y.k.toNat (fun u => gt y.num (gt block u)) ∧ (negs y.num : Int) + y.k = m) (fun y => [(1, .pointer (some ⟨wb, 0, none⟩)), (3, .pointer (some ⟨tb, 0, none⟩)), (4, .slice (some ⟨nb, 0, none⟩) m m), (38, vi m), (39, vi y.k)])
    (fun y => [osl TI vi (some ⟨nb, 0, none⟩) m y.num, blk wb [.pointer (some ⟨g, 0, none⟩)] TWp, blk g (wkC x p n b1 b2 b3 SA S.length Sc clk m) TW, osl TI vi (some ⟨b3, 0, none⟩) n block, blk tb [.slice (some ⟨wt, 0, none⟩) m m] TIs, osl TI vi (some ⟨wt, 0, none⟩) m y.W]) (fun y => (m - y.k).toNat) ⟨List.replicate m (-1), W, 0⟩ ⟨by simp, by simp, hW1, .zero fun u u0 u1 => gt_rep (hB.rng u u0 u1).1 (hB.rng u u0 u1).2, by simp [negs, List.countP_replicate]⟩ ?_
  clear hW1 hW
  rintro ⟨num, W, k⟩ ⟨hk0, hk1, hWt, hN, hng⟩
  dsimp only at hk0 hk1 hWt hN hng ⊢
  have hnl := hWt.nl
  have hWl := hWt.len
  have hwr : ∀ b : Int, 0 ≤ b → b < m → 0 ≤ gt W b ∧ gt W b ≤ 20000 := fun b b0 b1 => by
    have h1 := wsum_le (p := p) (F3_le block num b) p.cols.length
    have h2 := wsum_nonneg (p := p) (F3_nn block num b) p.cols.length
    rw [hWt.at_ b b0 b1]
    omega
  by_cases hk : k < m
  · refine ggx ?_
    refine glp (fun y : NX => 0 ≤ y.k ∧ y.k ≤ n ∧ ∀ u : Int, 0 ≤ u → u < y.k → 0 ≤ gt num (gt block u) ∨ 0 < gt W (gt block u)) (fun y => [(1, .pointer (some ⟨wb, 0, none⟩)), (3, .pointer (some ⟨tb, 0, none⟩)), (4, .slice (some ⟨nb, 0, none⟩) m m), (38, vi m), (39, vi k), (6, vi k), (46, vi n), (47, vi y.k)])
      (fun y => [osl TI vi (some ⟨nb, 0, none⟩) m num, blk wb [.pointer (some ⟨g, 0, none⟩)] TWp, blk g (wkC x p n b1 b2 b3 SA S.length Sc clk m) TW, osl TI vi (some ⟨b3, 0, none⟩) n block, blk tb [.slice (some ⟨wt, 0, none⟩) m m] TIs, osl TI vi (some ⟨wt, 0, none⟩) m W]) (fun y => (n - y.k).toNat) ⟨[], [], 0⟩ ⟨by simp, by simp, fun u u0 u1 => by dsimp only at u1; omega⟩ ?_
    rintro ⟨_, _, v⟩ ⟨hv0, hv1, hno⟩
    dsimp only at hv0 hv1 hno ⊢
    by_cases hv : v < n
    · have hbv := hB.rng v hv0 hv
      have hwv := hwr _ hbv.1 hbv.2
      have nx : (0 ≤ gt num (gt block v) ∨ 0 < gt W (gt block v)) → ∀ u : Int, 0 ≤ u → u < v + 1 → 0 ≤ gt num (gt block u) ∨ 0 < gt W (gt block u) := fun h u u0 u1 => by
        by_cases e : u = v
        · rw [e]; exact h
        · exact hno u u0 (by omega)
      refine ggx ?_
      refine wl_op (ok_alloc rfl rfl rfl rfl (ze_of rfl) ?_); intro bb
      refine ggx ?_
      by_cases hnum : 0 ≤ gt num (gt block v)
      · refine ggx ?_
        exact gnx (⟨[], [], v + 1⟩ : NX) ⟨by dsimp only; omega, by dsimp only; omega, nx (.inl hnum)⟩ (by dsimp only; omega)
      · by_cases hwt : 0 < gt W (gt block v)
        · refine ggx ?_
          exact gnx (⟨[], [], v + 1⟩ : NX) ⟨by dsimp only; omega, by dsimp only; omega, nx (.inr hwt)⟩ (by dsimp only; omega)
        · have hwt0 : gt W (gt block v) ≤ 0 := by omega
          have hnum0 : gt num (gt block v) < 0 := by omega
          have hN2 := hWt.nums hn hm hon hB hN hv0 hv hnum0 hwt0 hno
          have hn2' : negs (num.set (gt block v).toNat k) + 1 = negs num := negs_set (by omega) (by rw [gt_elem hbv.1 (by omega)] at hnum0; exact hnum0) hk0
          refine ggx ?_
          refine gc3 (blk bb [vi (gt block v)] TI :: NuI wb tb wt g b1 b2 b3 n m x p ⟨seen, low, block, S, SA, Sc, clk, m⟩ W) (fun w hst hst1 => each_c hm (fun k (W' : List Int) => blk bb [vi (gt block v)] TI :: NuI wb tb wt g b1 b2 b3 n m x p ⟨seen, low, block, S, SA, Sc, clk, m⟩ W') (N2 p block W m (gt block v)) 119 [Value.pointer (some ⟨wb, 0, none⟩), Value.pointer (some ⟨bb, 0, none⟩), Value.pointer (some ⟨tb, 0, none⟩)] (bod_of rfl) W w (op.s.later hst1) (op.c.later hst1) ⟨hWl, fun b b0 b1 => by show gt W b = gt W b - 0; omega⟩ hst1.own
            (fun k r W' w h0 h1 h2 h3 hW hw => num2_c hm hn hon hB hbv.1 hbv.2 hwr k r W' w h0 h1 h2 h3 hW hw.own)) (by exact rfl) ?_
          dsimp only [NuI]
          (repeat (first | refine gk1 ?_ | refine gk2 ?_ | refine gk3 ?_ | refine gk0 ?_ | refine gk4 ?_))
          rintro W' hW'
          dsimp only [NuI, List.cons_append, List.nil_append] at hW' ⊢
          have hWt' := hWt.next hm hon hB hbv.1 hbv.2 hnum0 hk0 hW'.len (fun b b0 b1 => by rw [hW'.at_ b b0 b1]; rfl)
          refine ggx ?_
          exact gnx (⟨num.set (gt block v).toNat k, W', k + 1⟩ : NX) ⟨by dsimp only; omega, by dsimp only; omega, hWt', by rw [show (k + 1).toNat = k.toNat + 1 by omega]; rw [show ((k.toNat : Nat) : Int) = k by omega] at hN2; exact hN2, by dsimp only; omega⟩ (by dsimp only; omega)
    · obtain rfl : v = n := by omega
      obtain ⟨u, u0, u1, hu, hw0⟩ := hWt.some_ hn hm hon hB hN (by omega) (by omega)
      rcases hno u u0 u1 with h | h <;> omega
  obtain rfl : k = m := by omega
  have hz : negs num = 0 := by omega
  have hall : ∀ u : Int, 0 ≤ u → u < n → 0 ≤ gt num (gt block u) := fun u u0 u1 => by
    have hbu := hB.rng u u0 u1
    unfold negs at hz
    rw [List.countP_eq_zero] at hz
    have := hz _ (gt_mem (xs := num) hbu.1 (by omega))
    simpa using this
  refine ggx ?_
  refine gmk vi 0 rfl rfl rfl rfl rfl rfl rfl rfl rfl rfl rfl (by omega) (Int.le_refl _) (by omega) (by omega) ?_
  intro ob
  rw [Int.toNat_natCast]
  refine ggx ?_
  refine glp (fun y : NX => 0 ≤ y.k ∧ y.k ≤ n ∧ y.W.length = n ∧ ∀ u : Int, 0 ≤ u → u < y.k → gt y.W u = gt num (gt block u)) (fun y => [(4, .slice (some ⟨nb, 0, none⟩) m m), (9, .slice (some ⟨ob, 0, none⟩) n n), (90, .slice (some ⟨b3, 0, none⟩) n n), (91, vi n), (92, vi y.k)])
    (fun y => [osl TI vi (some ⟨nb, 0, none⟩) m num, osl TI vi (some ⟨b3, 0, none⟩) n block, osl TI vi (some ⟨ob, 0, none⟩) n y.W]) (fun y => (n - y.k).toNat) ⟨[], List.replicate n 0, 0⟩ ⟨by simp, by simp, by simp, fun i i0 i1 => by dsimp only at i1; omega⟩ ?_
  rintro ⟨_, O, v⟩ ⟨hv0, hv1, hO, hval⟩
  dsimp only at hv0 hv1 hO hval ⊢
  by_cases hv : v < n
  · have hbv := hB.rng v hv0 hv
    refine ggx ?_
    exact gnx (⟨[], O.set v.toNat (gt num (gt block v)), v + 1⟩ : NX) ⟨by dsimp only; omega, by dsimp only; omega, by dsimp only; rw [List.length_set]; exact hO, fun i i0 i1 => by
      dsimp only at i1 ⊢
      rw [gt_setI hv0 (by omega) i0]
      by_cases e : i = v
      · rw [if_pos e, e]
      · rw [if_neg e]; exact hval i i0 (by omega)⟩ (by dsimp only; omega)
  · obtain rfl : v = n := by omega
    have hfin : NumOK p n O := ⟨hO, ⟨_, hN.alike (fun u u0 u1 => (hval u u0 u1).symm)⟩, fun u u0 u1 => by
      show 0 ≤ gt O u
      rw [hval u u0 u1]; exact hall u u0 u1⟩
    refine ggx ?_
    exact grt (⟨some ⟨ob, 0, none⟩, n, O⟩ : RX) hfin (h1 := ⟨.t (look_to rfl (by rw [hO])), trivial⟩)
end
theorem gmk0 {n : Nat} {w0 : World} {D : List Nat} {ops : Array Oper} {o : Oper} {Γ : Tm} {σ : List Res} {K : Tm → List Res → Prop} {α : Type} (f : α → Value) (z : α) {t e : TypeId} {x y : Operand} {l c : Int} {bytes dd : Nat} (hop : o.op = .makeSlice t x y) (hx : ev Γ x = some (.int .i64 l)) (hy : ev Γ y = some (.int .i64 c))
    (hg : gd Γ ops o = some true) (hd : o.dst = some dd) (hdn : Nat.blt dd n = true) (ht : lookN elT t = some e) (hz : lookN zeT e = some (f z)) (hz1 : (f z).cells = #[f z]) (hs : lookN szT e = some 1) (hb : lookN byT e = some bytes)
    (h0 : 0 ≤ l) (hlc : l ≤ c) (hcb : (bytes : Int) * c ≤ 281474976710656) (hc : c ≤ 281474976710656)
    (h : ∀ b, K ((dd, .slice (some ⟨b, 0, none⟩) l.toNat c.toNat) :: Γ) (osl e f (some ⟨b, 0, none⟩) c.toNat (List.replicate l.toNat z) :: σ)) : OpOK Try.prog n w0 D ops o K Γ σ :=
  ok_makeSlice f z hop hx hy hg hd hdn (el_of ht) (ze_of hz) hz1 (sz_of hs) (by_of hb) h0 hlc hcb hc (fun b => by rw [List.length_replicate]; exact h b)
structure BkX where
  g : Nat
  b1 : Nat
  b2 : Nat
  b3 : Nat
structure BkY where
  s : WS
  at_ : List Int
  k : Int
open Classical in
noncomputable def blkE (p : Pat) : Int := if ¬ May p then 180 else if ¬ p.rows = p.width then 7 else 0
section
variable {p : Pat} {x : PA} {n : Nat}
theorem FOK.zero {A : Option Addr} {c : Nat} (hn : p.rows = n) : FOK p n ⟨List.replicate n 0, List.replicate n 0, List.replicate n (-1), [], A, c, 0, 0⟩ [] (List.replicate n 0) := ⟨TInv.zero hn, WB.zero⟩
theorem FOK.blocks {s : WS} {at_ : List Int} (h : FOK p n s [] at_) (hs : ∀ u : Int, 0 ≤ u → u < n → gt s.seen u ≠ 0) : BkI p n s.block s.ct.toNat ∧ s.ct = s.ct.toNat ∧ s.ct.toNat ≤ n := by
  have ht := h.t
  have he := ht.empty
  have hall : ∀ u : Int, 0 ≤ u → u < n → 0 ≤ gt s.block u ∧ gt s.block u < s.ct := fun u u0 u1 => by
    rw [he] at ht
    exact ht.all hs u0 u1
  have hc0 := ht.ct0
  have hb := h.b.b
  refine ⟨⟨ht.l3, fun u u0 u1 => by have := hall u u0 u1; omega, fun u v u0 u1 v0 v1 => ht.I2 u v u0 u1 v0 v1 (hall u u0 u1).1 (hall v v0 v1).1, fun b b0 b1 => ht.used b b0 (by omega)⟩, by omega, by omega⟩
theorem blocks_c (w : World) (hp : RdP w x p) :
    Calls Try.prog 39 [pvl x p].toArray w (Ret [] (fun y : RX => .tuple #[.slice y.A y.xs.length y.c, vi (blkE p)]) (fun y => [osl TI vi y.A y.c y.xs]) (fun y => (blkE p = 0 → NumOK p p.rows.toNat y.xs) ∧ (blkE p ≠ 0 → y.xs = [])) w) := by
  have op := hp.old
  unfold pvl patV
  by_cases hm : May p
  · obtain ⟨h1, h2, h3, h4, h5, h6, h7, h8⟩ := hm.toHead
    by_cases hsq : p.rows = p.width
    · have he : blkE p = 0 := by unfold blkE; rw [if_neg (by simp [hm]), if_neg (by simp [hsq])]
      rw [he]
      obtain ⟨n, hn⟩ := Int.eq_ofNat_of_zero_le h1
      have hn2 : n ≤ 128 := by omega
      rw [show p.rows.toNat = n by omega]
      refine calls_wc [] [] [.tmp 2, .tmp 3] (fun y : RX => [.slice y.A y.xs.length y.c, vi 0]) Try.func39 rfl rfl (fun _ => rfl) Try.ntmps39 rfl (Own.nil w) rfl ?_
      refine gnil ?_
      refine gg ?_
      refine wl_op (ok_box rfl rfl rfl rfl rfl ?_); intro bp
      refine gg ?_
      refine gc1 (fun w hst => may_t (op.s.now hst) (op.c.now hst) hm) (by exact rfl) ?_
      refine gg ?_
      refine wc_meetK (fun _ : BkX => True) (fun z => [(4, .pointer (some ⟨z.g, 0, none⟩))]) (fun z => [blk z.g (wkC x p n z.b1 z.b2 z.b3 none 0 0 0 0) TW, osl TI vi (some ⟨z.b1, 0, none⟩) n (List.replicate n 0), osl TI vi (some ⟨z.b2, 0, none⟩) n (List.replicate n 0), osl TI vi (some ⟨z.b3, 0, none⟩) n (List.replicate n 0), osl TI vi none 0 []]) ?_ ?_
      · refine gwa [] ?_
        (repeat (first | refine gk1 ?_ | refine gk2 ?_ | refine gk3 ?_ | refine gk0 ?_ | refine gk4 ?_))
        dsimp only [List.cons_append, List.nil_append]
        (first | refine ga1 0 (by exact rfl) (by exact rfl) ?_ | refine ga2 0 (by exact rfl) (by exact rfl) ?_ | refine ga3 0 (by exact rfl) (by exact rfl) ?_ | refine ga4 0 (by exact rfl) (by exact rfl) ?_)
        (first | refine ga1 1 (by exact rfl) (by exact rfl) ?_ | refine ga2 1 (by exact rfl) (by exact rfl) ?_ | refine ga3 1 (by exact rfl) (by exact rfl) ?_ | refine ga4 1 (by exact rfl) (by exact rfl) ?_)
        (first | refine ga1 2 (by exact rfl) (by exact rfl) ?_ | refine ga2 2 (by exact rfl) (by exact rfl) ?_ | refine ga3 2 (by exact rfl) (by exact rfl) ?_ | refine ga4 2 (by exact rfl) (by exact rfl) ?_)
        (first | refine ga1 4 (by exact rfl) (by exact rfl) ?_ | refine ga2 4 (by exact rfl) (by exact rfl) ?_ | refine ga3 4 (by exact rfl) (by exact rfl) ?_ | refine ga4 4 (by exact rfl) (by exact rfl) ?_)
        (first | refine ga1 5 (by exact rfl) (by exact rfl) ?_ | refine ga2 5 (by exact rfl) (by exact rfl) ?_ | refine ga3 5 (by exact rfl) (by exact rfl) ?_ | refine ga4 5 (by exact rfl) (by exact rfl) ?_)
        (first | refine ga1 7 (by exact rfl) (by exact rfl) ?_ | refine ga2 7 (by exact rfl) (by exact rfl) ?_ | refine ga3 7 (by exact rfl) (by exact rfl) ?_ | refine ga4 7 (by exact rfl) (by exact rfl) ?_)
        (first | refine ga1 8 (by exact rfl) (by exact rfl) ?_ | refine ga2 8 (by exact rfl) (by exact rfl) ?_ | refine ga3 8 (by exact rfl) (by exact rfl) ?_ | refine ga4 8 (by exact rfl) (by exact rfl) ?_)
        refine gaAll [3, 6, 9] ?_
        intro j hj
        simp only [List.mem_cons, List.not_mem_nil, or_false] at hj
        rcases hj with rfl | rfl | rfl
        · refine ⟨_, rfl, ?_⟩
          refine gmk0 vi 0 rfl rfl rfl rfl rfl rfl rfl rfl rfl rfl rfl (by omega) (Int.le_refl _) (by omega) (by omega) ?_
          intro b1
          rw [show p.rows.toNat = n by omega]
          refine ⟨by (repeat (first | exact Suf.refl | exact Suf.nil | exact Suf.app _ _ | apply Suf.cons)), ?_⟩
          refine gaAll [6, 9] ?_
          intro j hj
          simp only [List.mem_cons, List.not_mem_nil, or_false] at hj
          rcases hj with rfl | rfl
          · refine ⟨_, rfl, ?_⟩
            refine gmk0 vi 0 rfl rfl rfl rfl rfl rfl rfl rfl rfl rfl rfl (by omega) (Int.le_refl _) (by omega) (by omega) ?_
            intro b2
            rw [show p.rows.toNat = n by omega]
            refine ⟨by (repeat (first | exact Suf.refl | exact Suf.nil | exact Suf.app _ _ | apply Suf.cons)), ?_⟩
            refine gaOne 9 rfl ?_
            refine gmk0 vi 0 rfl rfl rfl rfl rfl rfl rfl rfl rfl rfl rfl (by omega) (Int.le_refl _) (by omega) (by omega) ?_
            intro b3
            rw [show p.rows.toNat = n by omega]
            refine ⟨by (repeat (first | exact Suf.refl | exact Suf.nil | exact Suf.app _ _ | apply Suf.cons)), ?_⟩
            refine wa_v 10 [_, _, _] rfl (by kernel_rfl) rfl rfl rfl rfl (val_build (ps := [(0, patV p x.A x.c x.B x.d), (1, .slice (some ⟨b1, 0, none⟩) n n), (2, .slice (some ⟨b2, 0, none⟩) n n), (3, .slice (some ⟨b3, 0, none⟩) n n)]) (cells := wkC x p n b1 b2 b3 none 0 0 0 0) rfl rfl (by kernel_rfl)) ?_
            refine gaOne 11 rfl ?_
            refine ok_box rfl rfl rfl rfl rfl ?_
            intro g
            refine ⟨by (repeat (first | exact Suf.refl | exact Suf.nil | exact Suf.app _ _ | apply Suf.cons)), ?_⟩
            (first | refine ga1 12 (by exact rfl) (by exact rfl) ?_ | refine ga2 12 (by exact rfl) (by exact rfl) ?_ | refine ga3 12 (by exact rfl) (by exact rfl) ?_ | refine ga4 12 (by exact rfl) (by exact rfl) ?_)
            refine gaDone ?_
            exact ⟨(⟨g, b1, b2, b3⟩ : BkX), trivial, .cons rfl .nil, by refine SubK.e ?_; (repeat (first | refine gk1 ?_ | refine gk2 ?_ | refine gk3 ?_ | refine gk0 ?_ | refine gk4 ?_)); trivial⟩
          · refine ⟨_, rfl, ?_⟩
            refine gmk0 vi 0 rfl rfl rfl rfl rfl rfl rfl rfl rfl rfl rfl (by omega) (Int.le_refl _) (by omega) (by omega) ?_
            intro b3
            rw [show p.rows.toNat = n by omega]
            refine ⟨by (repeat (first | exact Suf.refl | exact Suf.nil | exact Suf.app _ _ | apply Suf.cons)), ?_⟩
            refine gaOne 6 rfl ?_
            refine gmk0 vi 0 rfl rfl rfl rfl rfl rfl rfl rfl rfl rfl rfl (by omega) (Int.le_refl _) (by omega) (by omega) ?_
            intro b2
            rw [show p.rows.toNat = n by omega]
            refine ⟨by (repeat (first | exact Suf.refl | exact Suf.nil | exact Suf.app _ _ | apply Suf.cons)), ?_⟩
            refine wa_v 10 [_, _, _] rfl (by kernel_rfl) rfl rfl rfl rfl (val_build (ps := [(0, patV p x.A x.c x.B x.d), (1, .slice (some ⟨b1, 0, none⟩) n n), (2, .slice (some ⟨b2, 0, none⟩) n n), (3, .slice (some ⟨b3, 0, none⟩) n n)]) (cells := wkC x p n b1 b2 b3 none 0 0 0 0) rfl rfl (by kernel_rfl)) ?_
            refine gaOne 11 rfl ?_
            refine ok_box rfl rfl rfl rfl rfl ?_
            intro g
            refine ⟨by (repeat (first | exact Suf.refl | exact Suf.nil | exact Suf.app _ _ | apply Suf.cons)), ?_⟩
            (first | refine ga1 12 (by exact rfl) (by exact rfl) ?_ | refine ga2 12 (by exact rfl) (by exact rfl) ?_ | refine ga3 12 (by exact rfl) (by exact rfl) ?_ | refine ga4 12 (by exact rfl) (by exact rfl) ?_)
            refine gaDone ?_
            exact ⟨(⟨g, b1, b2, b3⟩ : BkX), trivial, .cons rfl .nil, by refine SubK.e ?_; (repeat (first | refine gk1 ?_ | refine gk2 ?_ | refine gk3 ?_ | refine gk0 ?_ | refine gk4 ?_)); trivial⟩
        · refine ⟨_, rfl, ?_⟩
          refine gmk0 vi 0 rfl rfl rfl rfl rfl rfl rfl rfl rfl rfl rfl (by omega) (Int.le_refl _) (by omega) (by omega) ?_
          intro b2
          rw [show p.rows.toNat = n by omega]
          refine ⟨by (repeat (first | exact Suf.refl | exact Suf.nil | exact Suf.app _ _ | apply Suf.cons)), ?_⟩
          refine gaAll [3, 9] ?_
          intro j hj
          simp only [List.mem_cons, List.not_mem_nil, or_false] at hj
          rcases hj with rfl | rfl
          · refine ⟨_, rfl, ?_⟩
            refine gmk0 vi 0 rfl rfl rfl rfl rfl rfl rfl rfl rfl rfl rfl (by omega) (Int.le_refl _) (by omega) (by omega) ?_
            intro b1
            rw [show p.rows.toNat = n by omega]
            refine ⟨by (repeat (first | exact Suf.refl | exact Suf.nil | exact Suf.app _ _ | apply Suf.cons)), ?_⟩
            refine gaOne 9 rfl ?_
            refine gmk0 vi 0 rfl rfl rfl rfl rfl rfl rfl rfl rfl rfl rfl (by omega) (Int.le_refl _) (by omega) (by omega) ?_
            intro b3
            rw [show p.rows.toNat = n by omega]
            refine ⟨by (repeat (first | exact Suf.refl | exact Suf.nil | exact Suf.app _ _ | apply Suf.cons)), ?_⟩
            refine wa_v 10 [_, _, _] rfl (by kernel_rfl) rfl rfl rfl rfl (val_build (ps := [(0, patV p x.A x.c x.B x.d), (1, .slice (some ⟨b1, 0, none⟩) n n), (2, .slice (some ⟨b2, 0, none⟩) n n), (3, .slice (some ⟨b3, 0, none⟩) n n)]) (cells := wkC x p n b1 b2 b3 none 0 0 0 0) rfl rfl (by kernel_rfl)) ?_
            refine gaOne 11 rfl ?_
            refine ok_box rfl rfl rfl rfl rfl ?_
            intro g
            refine ⟨by (repeat (first | exact Suf.refl | exact Suf.nil | exact Suf.app _ _ | apply Suf.cons)), ?_⟩
            (first | refine ga1 12 (by exact rfl) (by exact rfl) ?_ | refine ga2 12 (by exact rfl) (by exact rfl) ?_ | refine ga3 12 (by exact rfl) (by exact rfl) ?_ | refine ga4 12 (by exact rfl) (by exact rfl) ?_)
            refine gaDone ?_
            exact ⟨(⟨g, b1, b2, b3⟩ : BkX), trivial, .cons rfl .nil, by refine SubK.e ?_; (repeat (first | refine gk1 ?_ | refine gk2 ?_ | refine gk3 ?_ | refine gk0 ?_ | refine gk4 ?_)); trivial⟩
          · refine ⟨_, rfl, ?_⟩
            refine gmk0 vi 0 rfl rfl rfl rfl rfl rfl rfl rfl rfl rfl rfl (by omega) (Int.le_refl _) (by omega) (by omega) ?_
            intro b3
            rw [show p.rows.toNat = n by omega]
            refine ⟨by (repeat (first | exact Suf.refl | exact Suf.nil | exact Suf.app _ _ | apply Suf.cons)), ?_⟩
            refine gaOne 3 rfl ?_
            refine gmk0 vi 0 rfl rfl rfl rfl rfl rfl rfl rfl rfl rfl rfl (by omega) (Int.le_refl _) (by omega) (by omega) ?_
            intro b1
            rw [show p.rows.toNat = n by omega]
            refine ⟨by (repeat (first | exact Suf.refl | exact Suf.nil | exact Suf.app _ _ | apply Suf.cons)), ?_⟩
            refine wa_v 10 [_, _, _] rfl (by kernel_rfl) rfl rfl rfl rfl (val_build (ps := [(0, patV p x.A x.c x.B x.d), (1, .slice (some ⟨b1, 0, none⟩) n n), (2, .slice (some ⟨b2, 0, none⟩) n n), (3, .slice (some ⟨b3, 0, none⟩) n n)]) (cells := wkC x p n b1 b2 b3 none 0 0 0 0) rfl rfl (by kernel_rfl)) ?_
            refine gaOne 11 rfl ?_
            refine ok_box rfl rfl rfl rfl rfl ?_
            intro g
            refine ⟨by (repeat (first | exact Suf.refl | exact Suf.nil | exact Suf.app _ _ | apply Suf.cons)), ?_⟩
            (first | refine ga1 12 (by exact rfl) (by exact rfl) ?_ | refine ga2 12 (by exact rfl) (by exact rfl) ?_ | refine ga3 12 (by exact rfl) (by exact rfl) ?_ | refine ga4 12 (by exact rfl) (by exact rfl) ?_)
            refine gaDone ?_
            exact ⟨(⟨g, b1, b2, b3⟩ : BkX), trivial, .cons rfl .nil, by refine SubK.e ?_; (repeat (first | refine gk1 ?_ | refine gk2 ?_ | refine gk3 ?_ | refine gk0 ?_ | refine gk4 ?_)); trivial⟩
        · refine ⟨_, rfl, ?_⟩
          refine gmk0 vi 0 rfl rfl rfl rfl rfl rfl rfl rfl rfl rfl rfl (by omega) (Int.le_refl _) (by omega) (by omega) ?_
          intro b3
          rw [show p.rows.toNat = n by omega]
          refine ⟨by (repeat (first | exact Suf.refl | exact Suf.nil | exact Suf.app _ _ | apply Suf.cons)), ?_⟩
          refine gaAll [3, 6] ?_
          intro j hj
          simp only [List.mem_cons, List.not_mem_nil, or_false] at hj
          rcases hj with rfl | rfl
          · refine ⟨_, rfl, ?_⟩
            refine gmk0 vi 0 rfl rfl rfl rfl rfl rfl rfl rfl rfl rfl rfl (by omega) (Int.le_refl _) (by omega) (by omega) ?_
            intro b1
            rw [show p.rows.toNat = n by omega]
            refine ⟨by (repeat (first | exact Suf.refl | exact Suf.nil | exact Suf.app _ _ | apply Suf.cons)), ?_⟩
            refine gaOne 6 rfl ?_
            refine gmk0 vi 0 rfl rfl rfl rfl rfl rfl rfl rfl rfl rfl rfl (by omega) (Int.le_refl _) (by omega) (by omega) ?_
            intro b2
            rw [show p.rows.toNat = n by omega]
            refine ⟨by (repeat (first | exact Suf.refl | exact Suf.nil | exact Suf.app _ _ | apply Suf.cons)), ?_⟩
            refine wa_v 10 [_, _, _] rfl (by kernel_rfl) rfl rfl rfl rfl (val_build (ps := [(0, patV p x.A x.c x.B x.d), (1, .slice (some ⟨b1, 0, none⟩) n n), (2, .slice (some ⟨b2, 0, none⟩) n n), (3, .slice (some ⟨b3, 0, none⟩) n n)]) (cells := wkC x p n b1 b2 b3 none 0 0 0 0) rfl rfl (by kernel_rfl)) ?_
            refine gaOne 11 rfl ?_
            refine ok_box rfl rfl rfl rfl rfl ?_
            intro g
            refine ⟨by (repeat (first | exact Suf.refl | exact Suf.nil | exact Suf.app _ _ | apply Suf.cons)), ?_⟩
            (first | refine ga1 12 (by exact rfl) (by exact rfl) ?_ | refine ga2 12 (by exact rfl) (by exact rfl) ?_ | refine ga3 12 (by exact rfl) (by exact rfl) ?_ | refine ga4 12 (by exact rfl) (by exact rfl) ?_)
            refine gaDone ?_
            exact ⟨(⟨g, b1, b2, b3⟩ : BkX), trivial, .cons rfl .nil, by refine SubK.e ?_; (repeat (first | refine gk1 ?_ | refine gk2 ?_ | refine gk3 ?_ | refine gk0 ?_ | refine gk4 ?_)); trivial⟩
          · refine ⟨_, rfl, ?_⟩
            refine gmk0 vi 0 rfl rfl rfl rfl rfl rfl rfl rfl rfl rfl rfl (by omega) (Int.le_refl _) (by omega) (by omega) ?_
            intro b2
            rw [show p.rows.toNat = n by omega]
            refine ⟨by (repeat (first | exact Suf.refl | exact Suf.nil | exact Suf.app _ _ | apply Suf.cons)), ?_⟩
            refine gaOne 3 rfl ?_
            refine gmk0 vi 0 rfl rfl rfl rfl rfl rfl rfl rfl rfl rfl rfl (by omega) (Int.le_refl _) (by omega) (by omega) ?_
            intro b1
            rw [show p.rows.toNat = n by omega]
            refine ⟨by (repeat (first | exact Suf.refl | exact Suf.nil | exact Suf.app _ _ | apply Suf.cons)), ?_⟩
            refine wa_v 10 [_, _, _] rfl (by kernel_rfl) rfl rfl rfl rfl (val_build (ps := [(0, patV p x.A x.c x.B x.d), (1, .slice (some ⟨b1, 0, none⟩) n n), (2, .slice (some ⟨b2, 0, none⟩) n n), (3, .slice (some ⟨b3, 0, none⟩) n n)]) (cells := wkC x p n b1 b2 b3 none 0 0 0 0) rfl rfl (by kernel_rfl)) ?_
            refine gaOne 11 rfl ?_
            refine ok_box rfl rfl rfl rfl rfl ?_
            intro g
            refine ⟨by (repeat (first | exact Suf.refl | exact Suf.nil | exact Suf.app _ _ | apply Suf.cons)), ?_⟩
            (first | refine ga1 12 (by exact rfl) (by exact rfl) ?_ | refine ga2 12 (by exact rfl) (by exact rfl) ?_ | refine ga3 12 (by exact rfl) (by exact rfl) ?_ | refine ga4 12 (by exact rfl) (by exact rfl) ?_)
            refine gaDone ?_
            exact ⟨(⟨g, b1, b2, b3⟩ : BkX), trivial, .cons rfl .nil, by refine SubK.e ?_; (repeat (first | refine gk1 ?_ | refine gk2 ?_ | refine gk3 ?_ | refine gk0 ?_ | refine gk4 ?_)); trivial⟩
      rintro ⟨g, b1, b2, b3⟩ _
      dsimp only
      refine gg ?_
      refine glp (fun y : BkY => 0 ≤ y.k ∧ y.k ≤ n ∧ y.at_.length = n ∧ ∀ i, 0 ≤ i → i < y.k → gt y.at_ i = -1) (fun y => [(4, .pointer (some ⟨g, 0, none⟩)), (31, vi n), (32, vi y.k)])
        (fun y => [blk g (wkC x p n b1 b2 b3 none 0 0 0 0) TW, osl TI vi (some ⟨b1, 0, none⟩) n (List.replicate n 0), osl TI vi (some ⟨b2, 0, none⟩) n (List.replicate n 0), osl TI vi (some ⟨b3, 0, none⟩) n y.at_, osl TI vi none 0 []]) (fun y => (n - y.k).toNat) ⟨⟨[], [], [], [], none, 0, 0, 0⟩, List.replicate n 0, 0⟩ ⟨by simp, by simp, by simp, fun i i0 i1 => by dsimp only at i1; omega⟩ ?_
      rintro ⟨_, L, k⟩ ⟨hk0, hk1, hL, hneg⟩
      dsimp only at hk0 hk1 hL hneg ⊢
      by_cases hk : k < n
      · refine gg ?_
        exact gnx (⟨⟨[], [], [], [], none, 0, 0, 0⟩, L.set k.toNat (-1), k + 1⟩ : BkY) ⟨by dsimp only; omega, by dsimp only; omega, by dsimp only; rw [List.length_set]; exact hL, fun i i0 i1 => by
          dsimp only at i1 ⊢
          rw [gt_setI hk0 (by omega) i0]
          by_cases e : i = k
          · rw [if_pos e]
          · rw [if_neg e]; exact hneg i i0 (by omega)⟩ (by dsimp only; omega)
      obtain rfl : k = n := by omega
      obtain rfl : L = List.replicate n (-1) := ext_gt (by simpa using hL) fun i i0 i1 => by
        rw [hneg i i0 (by omega), gt_rep i0 (by omega)]
      clear hneg hk0 hk1 hL hk
      refine gg ?_
      refine glp (fun y : BkY => 0 ≤ y.k ∧ y.k ≤ n ∧ FOK p n y.s [] y.at_ ∧ ∀ u : Int, 0 ≤ u → u < y.k → gt y.s.seen u ≠ 0) (fun y => [(4, .pointer (some ⟨g, 0, none⟩)), (46, vi n), (47, vi y.k)])
        (fun y => [blk g (wkC x p n b1 b2 b3 y.s.A y.s.S.length y.s.c y.s.clk y.s.ct) TW, osl TI vi (some ⟨b1, 0, none⟩) n y.s.seen, osl TI vi (some ⟨b2, 0, none⟩) n y.s.low, osl TI vi (some ⟨b3, 0, none⟩) n y.s.block, osl TI vi y.s.A y.s.c y.s.S]) (fun y => (n - y.k).toNat) ⟨⟨List.replicate n 0, List.replicate n 0, List.replicate n (-1), [], none, 0, 0, 0⟩, List.replicate n 0, 0⟩ ⟨by simp, by simp, FOK.zero hn, fun i i0 i1 => by dsimp only at i1; omega⟩ ?_
      rintro ⟨s, at_, v⟩ ⟨hv0, hv1, hF, hsn⟩
      dsimp only at hv0 hv1 hF hsn ⊢
      have hl1 := hF.t.l1
      by_cases hv : v < n
      · by_cases hz : gt s.seen v = 0
        · refine gg ?_
          refine gc3 (WkI g b1 b2 b3 n x p s) (fun w hst hst1 => from_c w hm hn hsq (op.later hst1) hv0 hv hz hF hst1.own) (by exact rfl) ?_
          dsimp only [WkI]
          (repeat (first | refine gk1 ?_ | refine gk2 ?_ | refine gk3 ?_ | refine gk0 ?_ | refine gk4 ?_))
          rintro y ⟨hF', hMon, hsv⟩
          dsimp only [WkI, List.cons_append, List.nil_append]
          refine gg ?_
          exact gnx (⟨y.s, y.at_, v + 1⟩ : BkY) ⟨by dsimp only; omega, by dsimp only; omega, hF', fun u u0 u1 => by
            dsimp only at u1 ⊢
            by_cases e : u = v
            · rw [e]; exact hsv
            · exact hMon u u0 (by omega) (hsn u u0 (by omega))⟩ (by dsimp only; omega)
        · refine gg ?_
          exact gnx (⟨s, at_, v + 1⟩ : BkY) ⟨by dsimp only; omega, by dsimp only; omega, hF, fun u u0 u1 => by
            dsimp only at u1 ⊢
            by_cases e : u = v
            · rw [e]; exact hz
            · exact hsn u u0 (by omega)⟩ (by dsimp only; omega)
      obtain rfl : v = n := by omega
      obtain ⟨hB, hct, hmn⟩ := hF.blocks hsn
      refine gg ?_
      refine gc3 (WkI g b1 b2 b3 n x p s) (fun w hst hst1 => numbered_c w hm hn hsq hB hct hmn (op.later hst1) hst1.own) (by exact rfl) ?_
      dsimp only [WkI]
      (repeat (first | refine gk1 ?_ | refine gk2 ?_ | refine gk3 ?_ | refine gk0 ?_ | refine gk4 ?_))
      rintro y hy
      dsimp only [List.cons_append, List.nil_append]
      refine gg ?_
      exact grt y ⟨fun _ => hy, fun h => (h rfl).elim⟩
    · have he : blkE p = 7 := by unfold blkE; rw [if_neg (by simp [hm]), if_pos hsq]
      rw [he]
      refine calls_wc [] [] [.tmp 2, .tmp 3] (fun y : RX => [.slice y.A y.xs.length y.c, vi 7]) Try.func39 rfl rfl (fun _ => rfl) Try.ntmps39 rfl (Own.nil w) rfl ?_
      refine gnil ?_
      refine gg ?_
      refine wl_op (ok_box rfl rfl rfl rfl rfl ?_); intro bp
      refine gg ?_
      refine gc1 (fun w hst => may_t (op.s.now hst) (op.c.now hst) hm) (by exact rfl) ?_
      refine gg ?_
      exact grt (⟨none, 0, []⟩ : RX) ⟨fun h => absurd h (by decide), fun _ => rfl⟩
  · have he : blkE p = 180 := by unfold blkE; rw [if_pos hm]
    rw [he]
    refine calls_wc [] [] [.tmp 2, .tmp 3] (fun y : RX => [.slice y.A y.xs.length y.c, vi 180]) Try.func39 rfl rfl (fun _ => rfl) Try.ntmps39 rfl (Own.nil w) rfl ?_
    refine gnil ?_
    refine gg ?_
    refine wl_op (ok_box rfl rfl rfl rfl rfl ?_); intro bp
    refine gg ?_
    refine gc1 (fun w hst => may_f (op.s.now hst) (op.c.now hst) hm) (by exact rfl) ?_
    refine gg ?_
    exact grt (⟨none, 0, []⟩ : RX) ⟨fun h => absurd h (by decide), fun _ => rfl⟩
end
end Go.Proofs.Ytofngbaefbbeiaa
