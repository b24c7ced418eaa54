/- Walks: the walk that finds blocks: enter. Walks: the walk that finds blocks: close. Walks: the walk that finds blocks: close (under way). -/
import Derived.Test.YtofngbaefbbeiaaC1
set_option linter.unusedVariables false
set_option linter.unusedSimpArgs false
set_option maxHeartbeats 8000000
namespace Go.Proofs.Ytofngbaefbbeiaa
open Go.RowKit
abbrev TW : TypeId := 125
abbrev wkC (x : PA) (p : Pat) (n b1 b2 b3 : Nat) (SA : Option Addr) (sl Sc : Nat) (clk ct : Int) : List Value := [vi p.rows, vi p.width, .slice x.A p.start.length x.c, .slice x.B p.cols.length x.d, .slice (some ⟨b1, 0, none⟩) n n, .slice (some ⟨b2, 0, none⟩) n n, .slice (some ⟨b3, 0, none⟩) n n, .slice SA sl Sc, vi clk, vi ct]
/-- what the walk knows -/
structure WS where
  seen : List Int
  low : List Int
  block : List Int
  S : List Int
  A : Option Addr
  c : Nat
  clk : Int
  ct : Int
abbrev WkI (g b1 b2 b3 n : Nat) (x : PA) (p : Pat) (s : WS) : List Res := [blk g (wkC x p n b1 b2 b3 s.A s.S.length s.c s.clk s.ct) TW, osl TI vi (some ⟨b1, 0, none⟩) n s.seen, osl TI vi (some ⟨b2, 0, none⟩) n s.low, osl TI vi (some ⟨b3, 0, none⟩) n s.block, osl TI vi s.A s.c s.S]
structure WLen (n : Nat) (s : WS) : Prop where
  seen : s.seen.length = n
  low : s.low.length = n
  block : s.block.length = n
  clk0 : 0 ≤ s.clk
  clk1 : s.clk ≤ 1000
  S : s.S.length ≤ 1000
  ct0 : 0 ≤ s.ct
  ct1 : s.ct ≤ 1000
def entS (s : WS) (v : Int) (A : Option Addr) (c : Nat) : WS := ⟨s.seen.set v.toNat (s.clk + 1), s.low.set v.toNat (s.clk + 1), s.block, s.S ++ [v], A, c, s.clk + 1, s.ct⟩
section
variable {g b1 b2 b3 n ab : Nat} {x : PA} {p : Pat} {s : WS} {v : Int} {at_ : List Int}
theorem enter_c (w : World) (hm : May p) (hn : p.rows = n) (hs : WLen n s) (hat : at_.length = n) (h0 : 0 ≤ v) (h1 : v < n) (op : RdPO w ((WkI g b1 b2 b3 n x p s ++ [osl TI vi (some ⟨ab, 0, none⟩) n at_]).flatMap Res.fp) x p) (hw : Own (WkI g b1 b2 b3 n x p s ++ [osl TI vi (some ⟨ab, 0, none⟩) n at_]) w) :
    Calls Try.prog 116 [.pointer (some ⟨g, 0, none⟩), vi v, .slice (some ⟨ab, 0, none⟩) n n].toArray w (Ret (WkI g b1 b2 b3 n x p s ++ [osl TI vi (some ⟨ab, 0, none⟩) n at_]) (fun _ : Option Addr × Nat => .tuple #[]) (fun y => WkI g b1 b2 b3 n x p (entS s v y.1 y.2) ++ [osl TI vi (some ⟨ab, 0, none⟩) n (at_.set v.toNat (gt p.start v))]) (fun _ => True) w) := by
  obtain ⟨l1, l2, l3, l4, l5, l6, l7, l8⟩ := hs
  have hl := hm.toHead.len
  have os := op.s
  refine calls_wc ((WkI g b1 b2 b3 n x p s ++ [osl TI vi (some ⟨ab, 0, none⟩) n at_]).flatMap Res.fp) (WkI g b1 b2 b3 n x p s ++ [osl TI vi (some ⟨ab, 0, none⟩) n at_]) [] (fun _ => []) Try.func116 rfl rfl (fun _ => rfl) Try.ntmps116 rfl hw rfl ?_
  dsimp only [List.cons_append, List.nil_append]
  refine gg ?_
  refine gwa [osl TI vi (some ⟨b1, 0, none⟩) n s.seen, osl TI vi (some ⟨b2, 0, none⟩) n s.low, osl TI vi (some ⟨ab, 0, none⟩) n at_] ?_
  (repeat (first | refine gk1 ?_ | refine gk2 ?_ | refine gk3 ?_ | refine gk0 ?_ | refine gk4 ?_))
  dsimp only [List.cons_append, List.nil_append]
  (first | refine ga1 0 (by exact rfl) (by exact rfl) ?_ | refine ga2 0 (by exact rfl) (by exact rfl) ?_ | refine ga3 0 (by exact rfl) (by exact rfl) ?_ | refine ga4 0 (by exact rfl) (by exact rfl) ?_)
  (first | refine ga1 1 (by exact rfl) (by exact rfl) ?_ | refine ga2 1 (by exact rfl) (by exact rfl) ?_ | refine ga3 1 (by exact rfl) (by exact rfl) ?_ | refine ga4 1 (by exact rfl) (by exact rfl) ?_)
  (first | refine ga1 2 (by exact rfl) (by exact rfl) ?_ | refine ga2 2 (by exact rfl) (by exact rfl) ?_ | refine ga3 2 (by exact rfl) (by exact rfl) ?_ | refine ga4 2 (by exact rfl) (by exact rfl) ?_)
  (first | refine ga1 3 (by exact rfl) (by exact rfl) ?_ | refine ga2 3 (by exact rfl) (by exact rfl) ?_ | refine ga3 3 (by exact rfl) (by exact rfl) ?_ | refine ga4 3 (by exact rfl) (by exact rfl) ?_)
  (first | refine ga1 4 (by exact rfl) (by exact rfl) ?_ | refine ga2 4 (by exact rfl) (by exact rfl) ?_ | refine ga3 4 (by exact rfl) (by exact rfl) ?_ | refine ga4 4 (by exact rfl) (by exact rfl) ?_)
  (first | refine ga1 5 (by exact rfl) (by exact rfl) ?_ | refine ga2 5 (by exact rfl) (by exact rfl) ?_ | refine ga3 5 (by exact rfl) (by exact rfl) ?_ | refine ga4 5 (by exact rfl) (by exact rfl) ?_)
  (first | refine ga1 6 (by exact rfl) (by exact rfl) ?_ | refine ga2 6 (by exact rfl) (by exact rfl) ?_ | refine ga3 6 (by exact rfl) (by exact rfl) ?_ | refine ga4 6 (by exact rfl) (by exact rfl) ?_)
  (first | refine ga1 7 (by exact rfl) (by exact rfl) ?_ | refine ga2 7 (by exact rfl) (by exact rfl) ?_ | refine ga3 7 (by exact rfl) (by exact rfl) ?_ | refine ga4 7 (by exact rfl) (by exact rfl) ?_)
  (first | refine ga1 8 (by exact rfl) (by exact rfl) ?_ | refine ga2 8 (by exact rfl) (by exact rfl) ?_ | refine ga3 8 (by exact rfl) (by exact rfl) ?_ | refine ga4 8 (by exact rfl) (by exact rfl) ?_)
  (first | refine ga1 9 (by exact rfl) (by exact rfl) ?_ | refine ga2 9 (by exact rfl) (by exact rfl) ?_ | refine ga3 9 (by exact rfl) (by exact rfl) ?_ | refine ga4 9 (by exact rfl) (by exact rfl) ?_)
  (first | refine ga1 10 (by exact rfl) (by exact rfl) ?_ | refine ga2 10 (by exact rfl) (by exact rfl) ?_ | refine ga3 10 (by exact rfl) (by exact rfl) ?_ | refine ga4 10 (by exact rfl) (by exact rfl) ?_)
  (first | refine ga1 11 (by exact rfl) (by exact rfl) ?_ | refine ga2 11 (by exact rfl) (by exact rfl) ?_ | refine ga3 11 (by exact rfl) (by exact rfl) ?_ | refine ga4 11 (by exact rfl) (by exact rfl) ?_)
  (first | refine ga1 12 (by exact rfl) (by exact rfl) ?_ | refine ga2 12 (by exact rfl) (by exact rfl) ?_ | refine ga3 12 (by exact rfl) (by exact rfl) ?_ | refine ga4 12 (by exact rfl) (by exact rfl) ?_)
  (first | refine ga1 13 (by exact rfl) (by exact rfl) ?_ | refine ga2 13 (by exact rfl) (by exact rfl) ?_ | refine ga3 13 (by exact rfl) (by exact rfl) ?_ | refine ga4 13 (by exact rfl) (by exact rfl) ?_)
  (first | refine ga1 14 (by exact rfl) (by exact rfl) ?_ | refine ga2 14 (by exact rfl) (by exact rfl) ?_ | refine ga3 14 (by exact rfl) (by exact rfl) ?_ | refine ga4 14 (by exact rfl) (by exact rfl) ?_)
  (first | refine ga1 15 (by exact rfl) (by exact rfl) ?_ | refine ga2 15 (by exact rfl) (by exact rfl) ?_ | refine ga3 15 (by exact rfl) (by exact rfl) ?_ | refine ga4 15 (by exact rfl) (by exact rfl) ?_)
  (first | refine ga1 16 (by exact rfl) (by exact rfl) ?_ | refine ga2 16 (by exact rfl) (by exact rfl) ?_ | refine ga3 16 (by exact rfl) (by exact rfl) ?_ | refine ga4 16 (by exact rfl) (by exact rfl) ?_)
  (first | refine ga1 17 (by exact rfl) (by exact rfl) ?_ | refine ga2 17 (by exact rfl) (by exact rfl) ?_ | refine ga3 17 (by exact rfl) (by exact rfl) ?_ | refine ga4 17 (by exact rfl) (by exact rfl) ?_)
  (first | refine ga1 18 (by exact rfl) (by exact rfl) ?_ | refine ga2 18 (by exact rfl) (by exact rfl) ?_ | refine ga3 18 (by exact rfl) (by exact rfl) ?_ | refine ga4 18 (by exact rfl) (by exact rfl) ?_)
  (first | refine ga1 19 (by exact rfl) (by exact rfl) ?_ | refine ga2 19 (by exact rfl) (by exact rfl) ?_ | refine ga3 19 (by exact rfl) (by exact rfl) ?_ | refine ga4 19 (by exact rfl) (by exact rfl) ?_)
  (first | refine ga1 20 (by exact rfl) (by exact rfl) ?_ | refine ga2 20 (by exact rfl) (by exact rfl) ?_ | refine ga3 20 (by exact rfl) (by exact rfl) ?_ | refine ga4 20 (by exact rfl) (by exact rfl) ?_)
  (first | refine ga1 21 (by exact rfl) (by exact rfl) ?_ | refine ga2 21 (by exact rfl) (by exact rfl) ?_ | refine ga3 21 (by exact rfl) (by exact rfl) ?_ | refine ga4 21 (by exact rfl) (by exact rfl) ?_)
  (first | refine ga1 22 (by exact rfl) (by exact rfl) ?_ | refine ga2 22 (by exact rfl) (by exact rfl) ?_ | refine ga3 22 (by exact rfl) (by exact rfl) ?_ | refine ga4 22 (by exact rfl) (by exact rfl) ?_)
  (first | refine ga1 23 (by exact rfl) (by exact rfl) ?_ | refine ga2 23 (by exact rfl) (by exact rfl) ?_ | refine ga3 23 (by exact rfl) (by exact rfl) ?_ | refine ga4 23 (by exact rfl) (by exact rfl) ?_)
  (first | refine ga1 24 (by exact rfl) (by exact rfl) ?_ | refine ga2 24 (by exact rfl) (by exact rfl) ?_ | refine ga3 24 (by exact rfl) (by exact rfl) ?_ | refine ga4 24 (by exact rfl) (by exact rfl) ?_)
  (first | refine ga1 25 (by exact rfl) (by exact rfl) ?_ | refine ga2 25 (by exact rfl) (by exact rfl) ?_ | refine ga3 25 (by exact rfl) (by exact rfl) ?_ | refine ga4 25 (by exact rfl) (by exact rfl) ?_)
  (first | refine ga1 26 (by exact rfl) (by exact rfl) ?_ | refine ga2 26 (by exact rfl) (by exact rfl) ?_ | refine ga3 26 (by exact rfl) (by exact rfl) ?_ | refine ga4 26 (by exact rfl) (by exact rfl) ?_)
  (first | refine ga1 27 (by exact rfl) (by exact rfl) ?_ | refine ga2 27 (by exact rfl) (by exact rfl) ?_ | refine ga3 27 (by exact rfl) (by exact rfl) ?_ | refine ga4 27 (by exact rfl) (by exact rfl) ?_)
  (first | refine ga1 28 (by exact rfl) (by exact rfl) ?_ | refine ga2 28 (by exact rfl) (by exact rfl) ?_ | refine ga3 28 (by exact rfl) (by exact rfl) ?_ | refine ga4 28 (by exact rfl) (by exact rfl) ?_)
  refine gaOne 29 rfl ?_
  refine gt0 (by exact rfl) ?_
  refine ⟨by (repeat (first | exact Suf.refl | exact Suf.nil | exact Suf.app _ _ | apply Suf.cons)), ?_⟩
  (first | refine ga1 30 (by exact rfl) (by exact rfl) ?_ | refine ga2 30 (by exact rfl) (by exact rfl) ?_ | refine ga3 30 (by exact rfl) (by exact rfl) ?_ | refine ga4 30 (by exact rfl) (by exact rfl) ?_)
  refine gaOne 31 rfl ?_
  refine gt0 (by exact rfl) ?_
  refine ⟨by (repeat (first | exact Suf.refl | exact Suf.nil | exact Suf.app _ _ | apply Suf.cons)), ?_⟩
  (first | refine ga1 32 (by exact rfl) (by exact rfl) ?_ | refine ga2 32 (by exact rfl) (by exact rfl) ?_ | refine ga3 32 (by exact rfl) (by exact rfl) ?_ | refine ga4 32 (by exact rfl) (by exact rfl) ?_)
  refine gaOne 33 rfl ?_
  refine gt0 (by exact rfl) ?_
  refine ⟨by (repeat (first | exact Suf.refl | exact Suf.nil | exact Suf.app _ _ | apply Suf.cons)), ?_⟩
  refine gaDone ?_
  refine gg ?_
  refine gpush (by exact rfl) (fun _ => by exact rfl) ?_ (hl := by omega)
  intro _ A' c'
  refine gg ?_
  exact grt (A', c') trivial
end
def cloSt (s : WS) (S1 : List Int) (B : List Int) : WS := ⟨s.seen, s.low, B, S1, s.A, s.c, s.clk, s.ct⟩
structure CB (n : Nat) (block : List Int) (T : List Int) (ct : Int) (B : List Int) : Prop where
  len : B.length = n
  on : ∀ i ∈ T, gt B i = ct
  off : ∀ i : Int, 0 ≤ i → i < n → i ∉ T → gt B i = gt block i
structure CLX where
  S3 : List Int
  T : List Int
  B : List Int
section
variable {g b1 b2 b3 n : Nat} {x : PA} {p : Pat} {s : WS} {v : Int} {S1 S2 : List Int}
theorem CB.step {block T B : List Int} {ct a : Int} (h : CB n block T ct B) (h0 : 0 ≤ a) (h1 : a < n) (hT : ∀ i ∈ T, 0 ≤ i) : CB n block (a :: T) ct (B.set a.toNat ct) := by
  have hl := h.len
  refine ⟨by rw [List.length_set]; exact hl, fun i hi => ?_, fun i i0 i1 hi => ?_⟩
  · rcases List.mem_cons.1 hi with rfl | hi
    · rw [gt_setI h0 (by omega) h0, if_pos rfl]
    · rw [gt_setI h0 (by omega) (hT i hi)]
      split
      · rfl
      · exact h.on i hi
  · rw [gt_setI h0 (by omega) i0, if_neg (fun e => hi (by simp [e]))]
    exact h.off i i0 i1 (fun hm => hi (by simp [hm]))
end
section
variable {P : Program} {n : Nat} {w0 : World} {D : List Nat} {Γ : Tm} {σ : List Res} {Q : QQ}
theorem wc_short {α : Type} {e : TypeId} {f : α → Value} {A : Option Addr} {c : Nat} {cd : Code} (xs ys : List α) (h : PickK (osl e f A c (xs ++ ys)) σ (fun σ' => WC P n w0 D cd Q Γ (osl e f A c xs :: σ'))) : WC P n w0 D cd Q Γ σ := by
  obtain ⟨σ', hp, h⟩ := h
  refine .mk fun a w hs hst => h.run a w hs ?_
  have h1 := hst.perm hp
  have h0 : w.ownsRow 0 e 1 (.slice A (xs ++ ys).length c) (xs ++ ys).length ((xs ++ ys).map f) := h1.ok (osl e f A c (xs ++ ys)) List.mem_cons_self
  refine h1.set_ (r := osl e f A c (xs ++ ys)) (r' := osl e f A c xs) 0 rfl (Only.refl _ _) ?_ (fun b hb => ⟨.inl hb, h1.lt (osl e f A c (xs ++ ys)) (List.mem_cons_self) b hb⟩) (by have := h1.nd; rw [List.flatMap_cons, List.nodup_append] at this; exact this.1)
  refine ⟨by simp, ?_⟩
  rcases h0.2 with ⟨h2, h3⟩ | ⟨g, cap, cur, h2, h3, h4, h5, h6, h7, h8⟩
  · injection h2 with e1 e2 e3
    rw [List.length_append] at h3
    have : xs.length = 0 := by omega
    exact .inl ⟨by rw [e1, e3, this], this⟩
  · injection h2 with e1 e2 e3
    subst e1 e3
    rw [List.length_append] at h5 h8
    refine .inr ⟨g, c, cur, rfl, h3, h4, by omega, h6, h7, ?_⟩
    have := congrArg (List.take xs.length) h8
    rw [List.take_take, List.map_append, List.take_left' (by simp)] at this
    rw [← this]
    congr 1
    omega
end
section
variable {g b1 b2 b3 n : Nat} {x : PA} {p : Pat} {s : WS} {v : Int} {S1 S2 : List Int}
theorem walkClose_c (w : World) (hs : WLen n s) (hS : s.S = S1 ++ v :: S2) (hr : ∀ a ∈ v :: S2, 0 ≤ a ∧ a < n) (hv : v ∉ S2) (hw : Own (WkI g b1 b2 b3 n x p s) w) :
    Calls Try.prog 117 [.pointer (some ⟨g, 0, none⟩), vi v].toArray w (Ret (WkI g b1 b2 b3 n x p s) (fun _ : List Int => .tuple #[]) (fun B => WkI g b1 b2 b3 n x p ⟨s.seen, s.low, B, S1, s.A, s.c, s.clk, s.ct + 1⟩) (fun B => CB n s.block (v :: S2) s.ct B) w) := by
  obtain ⟨l1, l2, l3, l4, l5, l6, l7, l8⟩ := hs
  refine calls_wc ((WkI g b1 b2 b3 n x p s).flatMap Res.fp) (WkI g b1 b2 b3 n x p s) [] (fun _ => []) Try.func117 rfl rfl (fun _ => rfl) Try.ntmps117 rfl hw rfl ?_
  obtain ⟨seen, low, block, S, SA, Sc, clk, ct⟩ := s
  dsimp only at hS l1 l2 l3 l4 l5 l6 l7 l8 ⊢
  refine gg ?_
  refine glp (fun z : CLX => (∃ S4, z.S3 = S1 ++ v :: S4 ∧ S2 = S4 ++ z.T) ∧ z.S3.length ≤ 1000 ∧ CB n block z.T ct z.B) (fun _ => [(0, .pointer (some ⟨g, 0, none⟩)), (1, vi v)])
    (fun z => WkI g b1 b2 b3 n x p ⟨seen, low, z.B, z.S3, SA, Sc, clk, ct⟩) (fun z => z.S3.length) ⟨S, [], block⟩ ⟨⟨S2, hS, by simp⟩, l6, ⟨l3, by simp, fun _ _ _ _ => rfl⟩⟩ ?_
  rintro ⟨S3, T, B⟩ ⟨⟨S4, e, hST⟩, hsl, hB⟩
  dsimp only at e hST hsl hB ⊢
  obtain ⟨X, a, e1, hXa⟩ : ∃ X a, S3 = X ++ [a] ∧ ((a = v ∧ X = S1 ∧ S4 = []) ∨ ∃ S5, S4 = S5 ++ [a] ∧ X = S1 ++ v :: S5) := by
    rcases List.eq_nil_or_concat S4 with h | ⟨S5, a, h⟩
    · subst h
      exact ⟨S1, v, e, .inl ⟨rfl, rfl, rfl⟩⟩
    · rw [List.concat_eq_append] at h
      subst h
      exact ⟨S1 ++ v :: S5, a, by rw [e]; simp, .inr ⟨S5, rfl, rfl⟩⟩
  have har : 0 ≤ a ∧ a < n := by
    rcases hXa with ⟨h, _⟩ | ⟨S5, h, _⟩
    · rw [h]; exact hr v (by simp)
    · exact hr a (by rw [hST, h]; simp)
  have hTr : ∀ i ∈ T, 0 ≤ i := fun i hi => (hr i (by rw [hST]; simp [hi])).1
  clear e
  subst e1
  have hXl : (X ++ [a]).length = X.length + 1 := by simp
  have hga : gt (X ++ [a]) (((X ++ [a]).length : Int) - 1) = a := by
    rw [gt_elem (by omega) (by omega)]
    have : (((X ++ [a]).length : Int) - 1).toNat = X.length := by omega
    simp only [this]
    simp
  have hBl := hB.len
  dsimp only [WkI]
  refine gg ?_
  refine wc_quiet mixed (by kernel_rfl) ?_
  refine gg ?_
  rw [hga]
  refine gg ?_
  refine wc_meetK (fun _ : Unit => True) (fun _ => [(0, .pointer (some ⟨g, 0, none⟩)), (1, vi v), (4, vi a)]) (fun _ => [blk g (wkC x p n b1 b2 b3 SA X.length Sc clk ct) TW, osl TI vi (some ⟨b1, 0, none⟩) n seen, osl TI vi (some ⟨b2, 0, none⟩) n low, osl TI vi (some ⟨b3, 0, none⟩) n B, osl TI vi SA Sc (X ++ [a])]) ?_ ?_
  · refine gwa [blk g (wkC x p n b1 b2 b3 SA (X ++ [a]).length Sc clk ct) TW] ?_
    (repeat (first | refine gk1 ?_ | refine gk2 ?_ | refine gk3 ?_ | refine gk0 ?_ | refine gk4 ?_))
    dsimp only [List.cons_append, List.nil_append]
    (first | refine ga1 0 (by exact rfl) (by exact rfl) ?_ | refine ga2 0 (by exact rfl) (by exact rfl) ?_ | refine ga3 0 (by exact rfl) (by exact rfl) ?_ | refine ga4 0 (by exact rfl) (by exact rfl) ?_)
    (first | refine ga1 1 (by exact rfl) (by exact rfl) ?_ | refine ga2 1 (by exact rfl) (by exact rfl) ?_ | refine ga3 1 (by exact rfl) (by exact rfl) ?_ | refine ga4 1 (by exact rfl) (by exact rfl) ?_)
    (first | refine ga1 2 (by exact rfl) (by exact rfl) ?_ | refine ga2 2 (by exact rfl) (by exact rfl) ?_ | refine ga3 2 (by exact rfl) (by exact rfl) ?_ | refine ga4 2 (by exact rfl) (by exact rfl) ?_)
    (first | refine ga1 3 (by exact rfl) (by exact rfl) ?_ | refine ga2 3 (by exact rfl) (by exact rfl) ?_ | refine ga3 3 (by exact rfl) (by exact rfl) ?_ | refine ga4 3 (by exact rfl) (by exact rfl) ?_)
    (first | refine ga1 5 (by exact rfl) (by exact rfl) ?_ | refine ga2 5 (by exact rfl) (by exact rfl) ?_ | refine ga3 5 (by exact rfl) (by exact rfl) ?_ | refine ga4 5 (by exact rfl) (by exact rfl) ?_)
    (first | refine ga1 6 (by exact rfl) (by exact rfl) ?_ | refine ga2 6 (by exact rfl) (by exact rfl) ?_ | refine ga3 6 (by exact rfl) (by exact rfl) ?_ | refine ga4 6 (by exact rfl) (by exact rfl) ?_)
    (first | refine ga1 7 (by exact rfl) (by exact rfl) ?_ | refine ga2 7 (by exact rfl) (by exact rfl) ?_ | refine ga3 7 (by exact rfl) (by exact rfl) ?_ | refine ga4 7 (by exact rfl) (by exact rfl) ?_)
    refine gaAll [4, 8] ?_
    intro j hj
    simp only [List.mem_cons, List.not_mem_nil, or_false] at hj
    rcases hj with rfl | rfl
    · refine ⟨_, rfl, ?_⟩
      refine gl0 (by exact rfl) ?_
      refine ⟨by (repeat (first | exact Suf.refl | exact Suf.nil | exact Suf.app _ _ | apply Suf.cons)), ?_⟩
      refine gaOne 8 rfl ?_
      refine gl0 (by exact rfl) ?_
      refine ⟨by (repeat (first | exact Suf.refl | exact Suf.nil | exact Suf.app _ _ | apply Suf.cons)), ?_⟩
      (first | refine ga1 9 (by exact rfl) (by exact rfl) ?_ | refine ga2 9 (by exact rfl) (by exact rfl) ?_ | refine ga3 9 (by exact rfl) (by exact rfl) ?_ | refine ga4 9 (by exact rfl) (by exact rfl) ?_)
      (first | refine ga1 10 (by exact rfl) (by exact rfl) ?_ | refine ga2 10 (by exact rfl) (by exact rfl) ?_ | refine ga3 10 (by exact rfl) (by exact rfl) ?_ | refine ga4 10 (by exact rfl) (by exact rfl) ?_)
      refine wa_v 11 [_] rfl (by kernel_rfl) rfl rfl rfl rfl (val_pre (f := vi) (xs := X ++ [a]) rfl rfl rfl (fun w hst => grd hst) (el_of rfl) (sz_of rfl) (by omega) (by omega)) ?_
      rw [show (((X ++ [a]).length : Int) - 1).toNat = X.length by omega]
      (first | refine ga1 12 (by exact rfl) (by exact rfl) ?_ | refine ga2 12 (by exact rfl) (by exact rfl) ?_ | refine ga3 12 (by exact rfl) (by exact rfl) ?_ | refine ga4 12 (by exact rfl) (by exact rfl) ?_)
      (first | refine ga1 13 (by exact rfl) (by exact rfl) ?_ | refine ga2 13 (by exact rfl) (by exact rfl) ?_ | refine ga3 13 (by exact rfl) (by exact rfl) ?_ | refine ga4 13 (by exact rfl) (by exact rfl) ?_)
      refine gaOne 14 rfl ?_
      refine gt0 (by exact rfl) ?_
      refine ⟨by (repeat (first | exact Suf.refl | exact Suf.nil | exact Suf.app _ _ | apply Suf.cons)), ?_⟩
      refine gaDone ?_
      exact ⟨(), trivial, .cons rfl (.cons rfl (.cons rfl .nil)), by refine SubK.e ?_; (repeat (first | refine gk1 ?_ | refine gk2 ?_ | refine gk3 ?_ | refine gk0 ?_ | refine gk4 ?_)); trivial⟩
    · refine ⟨_, rfl, ?_⟩
      refine gl0 (by exact rfl) ?_
      refine ⟨by (repeat (first | exact Suf.refl | exact Suf.nil | exact Suf.app _ _ | apply Suf.cons)), ?_⟩
      (first | refine ga1 9 (by exact rfl) (by exact rfl) ?_ | refine ga2 9 (by exact rfl) (by exact rfl) ?_ | refine ga3 9 (by exact rfl) (by exact rfl) ?_ | refine ga4 9 (by exact rfl) (by exact rfl) ?_)
      (first | refine ga1 10 (by exact rfl) (by exact rfl) ?_ | refine ga2 10 (by exact rfl) (by exact rfl) ?_ | refine ga3 10 (by exact rfl) (by exact rfl) ?_ | refine ga4 10 (by exact rfl) (by exact rfl) ?_)
      refine gaOne 4 rfl ?_
      refine gl0 (by exact rfl) ?_
      refine ⟨by (repeat (first | exact Suf.refl | exact Suf.nil | exact Suf.app _ _ | apply Suf.cons)), ?_⟩
      refine wa_v 11 [_] rfl (by kernel_rfl) rfl rfl rfl rfl (val_pre (f := vi) (xs := X ++ [a]) rfl rfl rfl (fun w hst => grd hst) (el_of rfl) (sz_of rfl) (by omega) (by omega)) ?_
      rw [show (((X ++ [a]).length : Int) - 1).toNat = X.length by omega]
      (first | refine ga1 12 (by exact rfl) (by exact rfl) ?_ | refine ga2 12 (by exact rfl) (by exact rfl) ?_ | refine ga3 12 (by exact rfl) (by exact rfl) ?_ | refine ga4 12 (by exact rfl) (by exact rfl) ?_)
      (first | refine ga1 13 (by exact rfl) (by exact rfl) ?_ | refine ga2 13 (by exact rfl) (by exact rfl) ?_ | refine ga3 13 (by exact rfl) (by exact rfl) ?_ | refine ga4 13 (by exact rfl) (by exact rfl) ?_)
      refine gaOne 14 rfl ?_
      refine gt0 (by exact rfl) ?_
      refine ⟨by (repeat (first | exact Suf.refl | exact Suf.nil | exact Suf.app _ _ | apply Suf.cons)), ?_⟩
      refine gaDone ?_
      exact ⟨(), trivial, .cons rfl (.cons rfl (.cons rfl .nil)), by refine SubK.e ?_; (repeat (first | refine gk1 ?_ | refine gk2 ?_ | refine gk3 ?_ | refine gk0 ?_ | refine gk4 ?_)); trivial⟩
  rintro _ _
  refine wc_short (e := TI) (f := vi) (A := SA) (c := Sc) X [a] ?_
  (repeat (first | refine gk1 ?_ | refine gk2 ?_ | refine gk3 ?_ | refine gk0 ?_ | refine gk4 ?_))
  refine gg ?_
  refine gwa [osl TI vi (some ⟨b3, 0, none⟩) n B] ?_
  (repeat (first | refine gk1 ?_ | refine gk2 ?_ | refine gk3 ?_ | refine gk0 ?_ | refine gk4 ?_))
  dsimp only [List.cons_append, List.nil_append]
  (first | refine ga1 0 (by exact rfl) (by exact rfl) ?_ | refine ga2 0 (by exact rfl) (by exact rfl) ?_ | refine ga3 0 (by exact rfl) (by exact rfl) ?_ | refine ga4 0 (by exact rfl) (by exact rfl) ?_)
  (first | refine ga1 1 (by exact rfl) (by exact rfl) ?_ | refine ga2 1 (by exact rfl) (by exact rfl) ?_ | refine ga3 1 (by exact rfl) (by exact rfl) ?_ | refine ga4 1 (by exact rfl) (by exact rfl) ?_)
  (first | refine ga1 2 (by exact rfl) (by exact rfl) ?_ | refine ga2 2 (by exact rfl) (by exact rfl) ?_ | refine ga3 2 (by exact rfl) (by exact rfl) ?_ | refine ga4 2 (by exact rfl) (by exact rfl) ?_)
  (first | refine ga1 3 (by exact rfl) (by exact rfl) ?_ | refine ga2 3 (by exact rfl) (by exact rfl) ?_ | refine ga3 3 (by exact rfl) (by exact rfl) ?_ | refine ga4 3 (by exact rfl) (by exact rfl) ?_)
  (first | refine ga1 4 (by exact rfl) (by exact rfl) ?_ | refine ga2 4 (by exact rfl) (by exact rfl) ?_ | refine ga3 4 (by exact rfl) (by exact rfl) ?_ | refine ga4 4 (by exact rfl) (by exact rfl) ?_)
  (first | refine ga1 5 (by exact rfl) (by exact rfl) ?_ | refine ga2 5 (by exact rfl) (by exact rfl) ?_ | refine ga3 5 (by exact rfl) (by exact rfl) ?_ | refine ga4 5 (by exact rfl) (by exact rfl) ?_)
  (first | refine ga1 6 (by exact rfl) (by exact rfl) ?_ | refine ga2 6 (by exact rfl) (by exact rfl) ?_ | refine ga3 6 (by exact rfl) (by exact rfl) ?_ | refine ga4 6 (by exact rfl) (by exact rfl) ?_)
  (first | refine ga1 7 (by exact rfl) (by exact rfl) ?_ | refine ga2 7 (by exact rfl) (by exact rfl) ?_ | refine ga3 7 (by exact rfl) (by exact rfl) ?_ | refine ga4 7 (by exact rfl) (by exact rfl) ?_)
  (first | refine ga1 8 (by exact rfl) (by exact rfl) ?_ | refine ga2 8 (by exact rfl) (by exact rfl) ?_ | refine ga3 8 (by exact rfl) (by exact rfl) ?_ | refine ga4 8 (by exact rfl) (by exact rfl) ?_)
  (first | refine ga1 9 (by exact rfl) (by exact rfl) ?_ | refine ga2 9 (by exact rfl) (by exact rfl) ?_ | refine ga3 9 (by exact rfl) (by exact rfl) ?_ | refine ga4 9 (by exact rfl) (by exact rfl) ?_)
  refine gaOne 10 rfl ?_
  refine gt0 (by exact rfl) ?_
  refine ⟨by (repeat (first | exact Suf.refl | exact Suf.nil | exact Suf.app _ _ | apply Suf.cons)), ?_⟩
  refine gaDone ?_
  have hB2 := hB.step har.1 har.2 hTr
  rcases hXa with ⟨rfl, rfl, rfl⟩ | ⟨S5, rfl, rfl⟩
  · refine gg ?_
    exact grt (B.set a.toNat ct) (by rw [hST]; exact hB2)
  · have hne : a ≠ v := fun e => hv (by rw [hST, ← e]; simp)
    refine gg ?_
    exact gnx (⟨S1 ++ v :: S5, a :: T, B.set a.toNat ct⟩ : CLX) ⟨⟨S5, rfl, by rw [hST]; simp⟩, by dsimp only; omega, hB2⟩ (by dsimp only; omega)
end
end Go.Proofs.Ytofngbaefbbeiaa
