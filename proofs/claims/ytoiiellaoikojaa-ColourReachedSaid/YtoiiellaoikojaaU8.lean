/- Walks: colours: Least. -/
import Derived.Test.YtoiiellaoikojaaUB
set_option linter.unusedVariables false
set_option linter.unusedSimpArgs false
set_option maxHeartbeats 8000000
namespace Go.Proofs.Ytoiiellaoikojaa
open Go.RowKit Classical
/-! ### all lists of colours, each a new one or one that was there -/
def SomeU (kd : Int) (F : Int → Int → Bool) (n : Nat) : Nat → List Int → Int → Int → Prop
  | 0, l, used, k => Fine kd F n l ∧ k = used
  | m + 1, l, used, k => ∃ c : Int, 0 ≤ c ∧ c ≤ used ∧ SomeU kd F n m (l ++ [c]) (max used (c + 1)) k
theorem SomeU.le {kd : Int} {F : Int → Int → Bool} {n : Nat} : ∀ {m : Nat} {l : List Int} {used k : Int}, SomeU kd F n m l used k → used ≤ k
  | 0, _, _, _, h => Int.le_of_eq h.2.symm
  | m + 1, _, _, _, ⟨c, _, _, h⟩ => by have := SomeU.le h; omega
/-- the least number -/
def IsLe (kd : Int) (F : Int → Int → Bool) (n : Nat) (k : Int) : Prop := k ≤ n ∧ (k = n ∨ SomeU kd F n n [] 0 k) ∧ ∀ j, SomeU kd F n n [] 0 j → k ≤ j
theorem IsLe.uniq {kd : Int} {F : Int → Int → Bool} {n : Nat} {k k' : Int} (h : IsLe kd F n k) (h' : IsLe kd F n k') : k = k' := by
  obtain ⟨h1, h2, h3⟩ := h
  obtain ⟨g1, g2, g3⟩ := h'
  rcases h2 with h2 | h2
  · rcases g2 with g2 | g2
    · omega
    · have := h3 _ g2; omega
  · have := g3 _ h2
    rcases g2 with g2 | g2
    · omega
    · have := h3 _ g2; omega
theorem IsLe.low {kd : Int} {F : Int → Int → Bool} {n : Nat} {k : Int} (h : IsLe kd F n k) : 0 ≤ k := by
  rcases h.2.1 with h2 | h2
  · omega
  · have := h2.le; omega
/-- the program's answer so far -/
def BestP (kd : Int) (F : Int → Int → Bool) (n m : Nat) (l : List Int) (used b0 b1 : Int) : Prop := b1 ≤ b0 ∧ (b1 = b0 ∨ SomeU kd F n m l used b1) ∧ ∀ j, SomeU kd F n m l used j → b1 ≤ j
def BestC (kd : Int) (F : Int → Int → Bool) (n m : Nat) (l : List Int) (used c b0 b1 : Int) : Prop := b1 ≤ b0 ∧ (b1 = b0 ∨ ∃ c', 0 ≤ c' ∧ c' < c ∧ SomeU kd F n m (l ++ [c']) (max used (c' + 1)) b1) ∧ ∀ c', 0 ≤ c' → c' < c → ∀ j, SomeU kd F n m (l ++ [c']) (max used (c' + 1)) j → b1 ≤ j
theorem BestC.next {kd : Int} {F : Int → Int → Bool} {n m : Nat} {l : List Int} {used c b0 b1 b2 : Int} (h : BestC kd F n m l used c b0 b1) (c0 : 0 ≤ c) (k : BestP kd F n m (l ++ [c]) (max used (c + 1)) b1 b2) : BestC kd F n m l used (c + 1) b0 b2 := by
  obtain ⟨h1, h2, h3⟩ := h
  obtain ⟨k1, k2, k3⟩ := k
  refine ⟨by omega, ?_, fun c' c0' c1' j hj => ?_⟩
  · rcases k2 with k2 | k2
    · rw [k2]
      exact h2.imp id fun ⟨c', e1, e2, e3⟩ => ⟨c', e1, by omega, e3⟩
    · exact .inr ⟨c, c0, by omega, k2⟩
  · by_cases e : c' = c
    · rw [e] at hj; exact k3 j hj
    · have := h3 c' c0' (by omega) j hj; omega
theorem BestC.end_ {kd : Int} {F : Int → Int → Bool} {n m : Nat} {l : List Int} {used b0 b1 : Int} (h : BestC kd F n m l used (used + 1) b0 b1) : BestP kd F n (m + 1) l used b0 b1 := by
  obtain ⟨h1, h2, h3⟩ := h
  refine ⟨h1, h2.imp id fun ⟨c', e1, e2, e3⟩ => ⟨c', e1, by omega, e3⟩, fun j ⟨c', e1, e2, e3⟩ => h3 c' e1 (by omega) j e3⟩
abbrev TThp : TypeId := 100
abbrev TFnI : TypeId := 127
/-- a piece of ours, read while others turn -/
theorem grO {w0 w : World} {D : List Nat} {σ σ1 : List Res} {α : Type} {f : α → Value} {e : TypeId} {A : Option Addr} {c : Nat} {xs : List α} (hst : St w0 D σ w) (h : SubE (osl e f A c xs :: σ1) σ) : RdO f w (σ1.flatMap Res.fp) A c xs := by
  obtain ⟨rest, hp⟩ := h
  have h2 := hst.perm hp
  have hrd : Rds f w A c xs := osl_reads (h2.ok (osl e f A c xs) (by simp))
  refine hrd.oldD fun ad hA hin => ?_
  have hnd := h2.nd
  rw [List.cons_append, List.flatMap_cons, List.nodup_append] at hnd
  refine hnd.2.2 ad.block (by rw [hA]; simp [osl, ownB]) ad.block ?_ rfl
  rw [List.flatMap_append]
  exact List.mem_append_left _ hin
section
variable {n : Nat} {w0 : World} {D : List Nat} {Γ : Tm} {σ : List Res} {ops : Array Oper} {o : Oper} {K : Tm → List Res → Prop}
theorem gcv0 {α : Type} (σ1 : List Res) {dd : Nat} {gO : Operand} {f : FuncId} {first captured : List Value} {args : Array Operand} {tys : Array TypeId} {vs : List Value} {vf : α → Value} {ρ : α → List Res} {φ : α → Prop} (hc : ∀ w, St w0 D σ w → St w0 D σ1 w → Calls Try.prog f (first ++ vs ++ captured).toArray w (Ret σ1 vf ρ φ w)) (hop : o.op = .call { callee := .value gO, args := args, argTypes := tys })
    (hgv : ev Γ gO = some (.func (.func f) first.toArray captured.toArray)) (ha : args.toList.map (ev Γ) = vs.map some) (hb : bodied Try.prog f = true) (hg : gd Γ ops o = some true) (hd : o.dst = some dd) (hdn : Nat.blt dd n = true) (k : SubK σ1 σ (fun σ2 => ∀ x, φ x → K ((dd, vf x) :: Γ) (ρ x ++ σ2))) : OpOK Try.prog n w0 D ops o K Γ σ := by
  obtain ⟨σ2, hp, k⟩ := k
  exact ok_callv σ1 σ2 hop hgv ha hb hg hd hdn hp (fun w hst => hc w hst (St.keep (hst.perm hp))) k
end
structure LsX where
  b : Int
  cs : List Int
  c : Int
section
variable {g : Pat} {y : PA} {kd : Int} {NA : Option Addr} {nc tb n b8 b6 b9 b10 cb : Nat} {R : List Res}
/-- all that Least's inner function holds -/
abbrev LsI (b8 b6 b9 b10 cb n tb : Nat) (NA : Option Addr) (nc : Nat) (y : PA) (kd : Int) (g : Pat) (R : List Res) (b : Int) (cs : List Int) : List Res :=
  blk b8 [vi b] TI :: osl TI vi (some ⟨cb, 0, none⟩) n cs :: blk b9 [.slice (some ⟨cb, 0, none⟩) n n] TIs :: blk b6 [.pointer (some ⟨tb, 0, none⟩)] TThp :: blk b10 [.func (.func 75) #[] #[.pointer (some ⟨b8, 0, none⟩), .pointer (some ⟨b6, 0, none⟩), .pointer (some ⟨b9, 0, none⟩), .pointer (some ⟨b10, 0, none⟩)]] TFnI :: ThI tb NA nc y kd g R
theorem fine_fa {p : Pat} {l xs ys : List Int} (hg : IsGr g) (hn : g.rows = n) (h1 : AlOK g n l xs) (h2 : xs = [] → (kd ≠ 4 → kd ≠ 5 → ys = []) ∧ (kd = 4 → PaOK (hasB g) l ys) ∧ (kd = 5 → CiOK (hasB g) n l ys)) : (xs ≠ [] → ¬ Fine kd (hasB g) n l) ∧ (xs = [] → (ys = [] ↔ Fine kd (hasB g) n l)) := by
  constructor
  · intro hx hf
    rcases h1 with ⟨h, _⟩ | ⟨u, v, _, _, _, _, hb, he, _⟩
    · exact hx h
    · exact hf.1 u v hb he
  · intro hx
    have h3 := h2 hx
    rcases h1 with ⟨_, hno⟩ | ⟨u, v, h, _⟩
    · exact FaOK.nil_iff (p := g) hg hn (.inl ⟨hno, h3.1, h3.2.1, h3.2.2⟩)
    · rw [hx] at h; cases h
set_option maxRecDepth 100000 in
theorem try_c (hm : May g) (hn : g.rows = n) (hg : IsGr g) (hn8 : n ≤ 8) : ∀ (m : Nat) (v used b : Int) (cs : List Int) (w : World), v + m = n → 0 ≤ v → 0 ≤ used → used ≤ v → cs.length = n → b ≤ n → (∀ i : Int, 0 ≤ i → i < v → 0 ≤ gt cs i ∧ gt cs i ≤ 8) → RdB w ((LsI b8 b6 b9 b10 cb n tb NA nc y kd g R b cs).flatMap Res.fp) R y g → Own (LsI b8 b6 b9 b10 cb n tb NA nc y kd g R b cs) w →
    Calls Try.prog 75 [vi v, vi used, .pointer (some ⟨b8, 0, none⟩), .pointer (some ⟨b6, 0, none⟩), .pointer (some ⟨b9, 0, none⟩), .pointer (some ⟨b10, 0, none⟩)].toArray w
      (Ret (LsI b8 b6 b9 b10 cb n tb NA nc y kd g R b cs) (fun _ : LsX => .tuple #[]) (fun z => LsI b8 b6 b9 b10 cb n tb NA nc y kd g R z.b z.cs) (fun z => z.cs.length = n ∧ z.cs.take v.toNat = cs.take v.toNat ∧ BestP kd (hasB g) n m (cs.take v.toNat) used b z.b) w) := by
  have hsq := hg.1.2.1
  have hev : ∀ a b, hasB g a b = true → hasB g b a = true := fun a b h => by rw [← hg.sym]; exact h
  have hin : ∀ x y, hasB g x y = true → (0 ≤ x ∧ x < n) ∧ 0 ≤ y ∧ y < n := fun x y h => by
    have := (hasB_iff.1 h).in_ hm
    omega
  intro m
  induction m with
  | zero =>
    intro v used b cs w hvm v0 us0 us1 hcl hbn hcs hrd hw
    refine calls_wc ((LsI b8 b6 b9 b10 cb n tb NA nc y kd g R b cs).flatMap Res.fp) (LsI b8 b6 b9 b10 cb n tb NA nc y kd g R b cs) [] (fun _ => []) Try.func75 rfl rfl (fun _ => rfl) Try.ntmps75 rfl hw rfl ?_
    dsimp only [LsI, ThI]
    obtain rfl : v = n := by omega
    have htk : cs.take (n : Int).toNat = cs := List.take_of_length_le (by omega)
    by_cases hp : b ≤ used
    · refine gg ?_
      exact grt (⟨b, cs, 0⟩ : LsX) ⟨hcl, rfl, Int.le_refl _, .inl rfl, fun j hj => by have := hj.le; dsimp only; omega⟩
    · have hcc : ∀ i : Int, 0 ≤ i → i < cs.length → 0 ≤ gt cs i ∧ gt cs i ≤ 65536 := fun i i0 i1 => by have := hcs i i0 (by omega); omega
      have hA := fun (w : World) (h : RdO vi w ((ThI tb NA nc y kd g R).flatMap Res.fp) (some ⟨cb, 0, none⟩) n cs) (h2 : RdB w ((ThI tb NA nc y kd g R).flatMap Res.fp) R y g) (h3 : Own (ThI tb NA nc y kd g R) w) => alike_col_c (n := n) (l := cs) w hm hn hsq h hcl h2 h3
      have hP := fun (w : World) (h : RdO vi w ((ThI tb NA nc y 4 g R).flatMap Res.fp) (some ⟨cb, 0, none⟩) n cs) (h2 : RdB w ((ThI tb NA nc y 4 g R).flatMap Res.fp) R y g) (h3 : Own (ThI tb NA nc y 4 g R) w) => path_c (n := n) (l := cs) w hm hn hsq h hcl h2 h3
      have hC := fun (w : World) (h : RdO vi w ((ThI tb NA nc y 5 g R).flatMap Res.fp) (some ⟨cb, 0, none⟩) n cs) (hp : ∀ x y, hasB g x y = true → gt cs x ≠ gt cs y) (h2 : RdB w ((ThI tb NA nc y 5 g R).flatMap Res.fp) R y g) (h3 : Own (ThI tb NA nc y 5 g R) w) => circle_c (n := n) (l := cs) w hm hn hsq hev h hcl hcc hp h2 h3
      rw [hcl] at hA hP hC
      refine gg ?_
      refine gwa (ThI tb NA nc y kd g R) ?_
      dsimp only [ThI]
      (repeat (first | refine gk1 ?_ | refine gk2 ?_ | refine gk3 ?_ | refine gk0 ?_ | refine gk4 ?_))
      dsimp only [List.cons_append, List.nil_append]
      (first | refine ga1 0 (by exact rfl) (by exact rfl) ?_ | refine ga2 0 (by exact rfl) (by exact rfl) ?_ | refine ga3 0 (by exact rfl) (by exact rfl) ?_ | refine ga4 0 (by exact rfl) (by exact rfl) ?_)
      (first | refine ga1 1 (by exact rfl) (by exact rfl) ?_ | refine ga2 1 (by exact rfl) (by exact rfl) ?_ | refine ga3 1 (by exact rfl) (by exact rfl) ?_ | refine ga4 1 (by exact rfl) (by exact rfl) ?_)
      refine gaOne 2 rfl ?_
      refine gc30 (ThI tb NA nc y kd g R) (fun w hst hst1 => hA w (grO hst (by dsimp only [ThI]; refine SubK.e ?_; (repeat (first | refine gk1 ?_ | refine gk2 ?_ | refine gk3 ?_ | refine gk0 ?_ | refine gk4 ?_)); trivial)) (hrd.later hst1) hst1.own) (by exact rfl) ?_
      dsimp only [ThI]
      (repeat (first | refine gk1 ?_ | refine gk2 ?_ | refine gk3 ?_ | refine gk0 ?_ | refine gk4 ?_))
      rintro ⟨B, d, xs⟩ hal
      dsimp only [ThI, List.cons_append, List.nil_append] at hal ⊢
      refine ⟨by (repeat (first | exact Suf.refl | exact Suf.nil | exact Suf.app _ _ | apply Suf.cons)), ?_⟩
      by_cases hx : xs = []
      rotate_left
      · have hnf := (fine_fa (kd := kd) (p := g) (ys := []) hg hn hal (fun h => (hx h).elim)).1 hx
        have hxl : 0 < xs.length := List.length_pos_iff.2 hx
        (first | refine ga1 3 (by exact rfl) (by exact rfl) ?_ | refine ga2 3 (by exact rfl) (by exact rfl) ?_ | refine ga3 3 (by exact rfl) (by exact rfl) ?_ | refine ga4 3 (by exact rfl) (by exact rfl) ?_)
        (first | refine ga1 4 (by exact rfl) (by exact rfl) ?_ | refine ga2 4 (by exact rfl) (by exact rfl) ?_ | refine ga3 4 (by exact rfl) (by exact rfl) ?_ | refine ga4 4 (by exact rfl) (by exact rfl) ?_)
        (first | refine ga1 5 (by exact rfl) (by exact rfl) ?_ | refine ga2 5 (by exact rfl) (by exact rfl) ?_ | refine ga3 5 (by exact rfl) (by exact rfl) ?_ | refine ga4 5 (by exact rfl) (by exact rfl) ?_)
        (first | refine ga1 6 (by exact rfl) (by exact rfl) ?_ | refine ga2 6 (by exact rfl) (by exact rfl) ?_ | refine ga3 6 (by exact rfl) (by exact rfl) ?_ | refine ga4 6 (by exact rfl) (by exact rfl) ?_)
        (first | refine ga1 7 (by exact rfl) (by exact rfl) ?_ | refine ga2 7 (by exact rfl) (by exact rfl) ?_ | refine ga3 7 (by exact rfl) (by exact rfl) ?_ | refine ga4 7 (by exact rfl) (by exact rfl) ?_)
        (first | refine ga1 8 (by exact rfl) (by exact rfl) ?_ | refine ga2 8 (by exact rfl) (by exact rfl) ?_ | refine ga3 8 (by exact rfl) (by exact rfl) ?_ | refine ga4 8 (by exact rfl) (by exact rfl) ?_)
        (first | refine ga1 9 (by exact rfl) (by exact rfl) ?_ | refine ga2 9 (by exact rfl) (by exact rfl) ?_ | refine ga3 9 (by exact rfl) (by exact rfl) ?_ | refine ga4 9 (by exact rfl) (by exact rfl) ?_)
        (first | refine ga1 10 (by exact rfl) (by exact rfl) ?_ | refine ga2 10 (by exact rfl) (by exact rfl) ?_ | refine ga3 10 (by exact rfl) (by exact rfl) ?_ | refine ga4 10 (by exact rfl) (by exact rfl) ?_)
        (first | refine ga1 11 (by exact rfl) (by exact rfl) ?_ | refine ga2 11 (by exact rfl) (by exact rfl) ?_ | refine ga3 11 (by exact rfl) (by exact rfl) ?_ | refine ga4 11 (by exact rfl) (by exact rfl) ?_)
        (first | refine ga1 12 (by exact rfl) (by exact rfl) ?_ | refine ga2 12 (by exact rfl) (by exact rfl) ?_ | refine ga3 12 (by exact rfl) (by exact rfl) ?_ | refine ga4 12 (by exact rfl) (by exact rfl) ?_)
        refine gaDone ?_
        refine gg ?_
        exact grt (⟨b, cs, 0⟩ : LsX) ⟨hcl, rfl, Int.le_refl _, .inl rfl, fun j hj => by rw [htk] at hj; exact (hnf hj.1).elim⟩
      have hxl : xs.length = 0 := by rw [hx]; rfl
      have hno : NoAl g cs n 0 := by
        rcases hal with ⟨_, h⟩ | ⟨_, _, h, _⟩
        · exact h
        · rw [hx] at h; cases h
      have hpr := noAl_proper hev hin hg.irr hno
      have fin : ∀ ys : List Int, (kd ≠ 4 → kd ≠ 5 → ys = []) → (kd = 4 → PaOK (hasB g) cs ys) → (kd = 5 → CiOK (hasB g) n cs ys) → (ys = [] ↔ Fine kd (hasB g) n cs) := fun ys h1 h2 h3 => (fine_fa (kd := kd) (p := g) hg hn hal (fun _ => ⟨h1, h2, h3⟩)).2 hx
      have yes : Fine kd (hasB g) n cs → cs.length = n ∧ cs.take (n : Int).toNat = cs.take (n : Int).toNat ∧ BestP kd (hasB g) n 0 (cs.take (n : Int).toNat) used b used := fun h => ⟨hcl, rfl, by omega, .inr (by rw [htk]; exact ⟨h, rfl⟩), fun j hj => by rw [hj.2]; exact Int.le_refl _⟩
      have noo : ¬ Fine kd (hasB g) n cs → cs.length = n ∧ cs.take (n : Int).toNat = cs.take (n : Int).toNat ∧ BestP kd (hasB g) n 0 (cs.take (n : Int).toNat) used b b := fun h => ⟨hcl, rfl, Int.le_refl _, .inl rfl, fun j hj => by rw [htk] at hj; exact (h hj.1).elim⟩
      (first | refine ga1 3 (by exact rfl) (by exact rfl) ?_ | refine ga2 3 (by exact rfl) (by exact rfl) ?_ | refine ga3 3 (by exact rfl) (by exact rfl) ?_ | refine ga4 3 (by exact rfl) (by exact rfl) ?_)
      (first | refine ga1 4 (by exact rfl) (by exact rfl) ?_ | refine ga2 4 (by exact rfl) (by exact rfl) ?_ | refine ga3 4 (by exact rfl) (by exact rfl) ?_ | refine ga4 4 (by exact rfl) (by exact rfl) ?_)
      (first | refine ga1 5 (by exact rfl) (by exact rfl) ?_ | refine ga2 5 (by exact rfl) (by exact rfl) ?_ | refine ga3 5 (by exact rfl) (by exact rfl) ?_ | refine ga4 5 (by exact rfl) (by exact rfl) ?_)
      (first | refine ga1 6 (by exact rfl) (by exact rfl) ?_ | refine ga2 6 (by exact rfl) (by exact rfl) ?_ | refine ga3 6 (by exact rfl) (by exact rfl) ?_ | refine ga4 6 (by exact rfl) (by exact rfl) ?_)
      (first | refine ga1 8 (by exact rfl) (by exact rfl) ?_ | refine ga2 8 (by exact rfl) (by exact rfl) ?_ | refine ga3 8 (by exact rfl) (by exact rfl) ?_ | refine ga4 8 (by exact rfl) (by exact rfl) ?_)
      by_cases k4 : kd = 4
      · subst k4
        refine gaOne 7 rfl ?_
        refine gc30 [blk tb (thC g.rows NA (nearTo y g g.rows).length nc 4) TTh] (fun w hst hst1 => further4_c (N := g.rows) w hst1.own) (by exact rfl) ?_
        (repeat (first | refine gk1 ?_ | refine gk2 ?_ | refine gk3 ?_ | refine gk0 ?_ | refine gk4 ?_))
        rintro _ _
        dsimp only [List.cons_append, List.nil_append]
        refine ⟨by (repeat (first | exact Suf.refl | exact Suf.nil | exact Suf.app _ _ | apply Suf.cons)), ?_⟩
        refine gaOne 9 rfl ?_
        refine gcv0 (ThI tb NA nc y 4 g R) (first := [.pointer (some ⟨tb, 0, none⟩)]) (captured := []) (vs := [.slice (some ⟨cb, 0, none⟩) n n]) (f := 104) (fun w hst hst1 => hP w (grO hst (by dsimp only [ThI]; refine SubK.e ?_; (repeat (first | refine gk1 ?_ | refine gk2 ?_ | refine gk3 ?_ | refine gk0 ?_ | refine gk4 ?_)); trivial)) (hrd.later hst1) hst1.own) (by rfl) (by rfl) (by rfl) (bod_of rfl) (by rfl) (by rfl) (by rfl) ?_
        dsimp only [ThI]
        (repeat (first | refine gk1 ?_ | refine gk2 ?_ | refine gk3 ?_ | refine gk0 ?_ | refine gk4 ?_))
        rintro ⟨B2, d2, ys⟩ hpa
        dsimp only [ThI, List.cons_append, List.nil_append] at hpa ⊢
        refine ⟨by (repeat (first | exact Suf.refl | exact Suf.nil | exact Suf.app _ _ | apply Suf.cons)), ?_⟩
        have hfi := fin ys (fun h => (h rfl).elim) (fun _ => hpa) (fun h => by omega)
        by_cases hy : ys = []
        · have hyl : ys.length = 0 := by rw [hy]; rfl
          (first | refine ga1 10 (by exact rfl) (by exact rfl) ?_ | refine ga2 10 (by exact rfl) (by exact rfl) ?_ | refine ga3 10 (by exact rfl) (by exact rfl) ?_ | refine ga4 10 (by exact rfl) (by exact rfl) ?_)
          (first | refine ga1 11 (by exact rfl) (by exact rfl) ?_ | refine ga2 11 (by exact rfl) (by exact rfl) ?_ | refine ga3 11 (by exact rfl) (by exact rfl) ?_ | refine ga4 11 (by exact rfl) (by exact rfl) ?_)
          (first | refine ga1 12 (by exact rfl) (by exact rfl) ?_ | refine ga2 12 (by exact rfl) (by exact rfl) ?_ | refine ga3 12 (by exact rfl) (by exact rfl) ?_ | refine ga4 12 (by exact rfl) (by exact rfl) ?_)
          refine gaDone ?_
          refine gg ?_
          exact grt (⟨used, cs, 0⟩ : LsX) (yes (hfi.1 hy))
        · have hyl : 0 < ys.length := List.length_pos_iff.2 hy
          (first | refine ga1 10 (by exact rfl) (by exact rfl) ?_ | refine ga2 10 (by exact rfl) (by exact rfl) ?_ | refine ga3 10 (by exact rfl) (by exact rfl) ?_ | refine ga4 10 (by exact rfl) (by exact rfl) ?_)
          (first | refine ga1 11 (by exact rfl) (by exact rfl) ?_ | refine ga2 11 (by exact rfl) (by exact rfl) ?_ | refine ga3 11 (by exact rfl) (by exact rfl) ?_ | refine ga4 11 (by exact rfl) (by exact rfl) ?_)
          (first | refine ga1 12 (by exact rfl) (by exact rfl) ?_ | refine ga2 12 (by exact rfl) (by exact rfl) ?_ | refine ga3 12 (by exact rfl) (by exact rfl) ?_ | refine ga4 12 (by exact rfl) (by exact rfl) ?_)
          refine gaDone ?_
          refine gg ?_
          exact grt (⟨b, cs, 0⟩ : LsX) (noo fun h => hy (hfi.2 h))
      by_cases k5 : kd = 5
      · subst k5
        refine gaOne 7 rfl ?_
        refine gc30 [blk tb (thC g.rows NA (nearTo y g g.rows).length nc 5) TTh] (fun w hst hst1 => further5_c (N := g.rows) w hst1.own) (by exact rfl) ?_
        (repeat (first | refine gk1 ?_ | refine gk2 ?_ | refine gk3 ?_ | refine gk0 ?_ | refine gk4 ?_))
        rintro _ _
        dsimp only [List.cons_append, List.nil_append]
        refine ⟨by (repeat (first | exact Suf.refl | exact Suf.nil | exact Suf.app _ _ | apply Suf.cons)), ?_⟩
        refine gaOne 9 rfl ?_
        refine gcv0 (ThI tb NA nc y 5 g R) (first := [.pointer (some ⟨tb, 0, none⟩)]) (captured := []) (vs := [.slice (some ⟨cb, 0, none⟩) n n]) (f := 105) (fun w hst hst1 => hC w (grO hst (by dsimp only [ThI]; refine SubK.e ?_; (repeat (first | refine gk1 ?_ | refine gk2 ?_ | refine gk3 ?_ | refine gk0 ?_ | refine gk4 ?_)); trivial)) hpr (hrd.later hst1) hst1.own) (by rfl) (by rfl) (by rfl) (bod_of rfl) (by rfl) (by rfl) (by rfl) ?_
        dsimp only [ThI]
        (repeat (first | refine gk1 ?_ | refine gk2 ?_ | refine gk3 ?_ | refine gk0 ?_ | refine gk4 ?_))
        rintro ⟨B2, d2, ys⟩ hpa
        dsimp only [ThI, List.cons_append, List.nil_append] at hpa ⊢
        refine ⟨by (repeat (first | exact Suf.refl | exact Suf.nil | exact Suf.app _ _ | apply Suf.cons)), ?_⟩
        have hfi := fin ys (fun _ h => (h rfl).elim) (fun h => by omega) (fun _ => hpa)
        by_cases hy : ys = []
        · have hyl : ys.length = 0 := by rw [hy]; rfl
          (first | refine ga1 10 (by exact rfl) (by exact rfl) ?_ | refine ga2 10 (by exact rfl) (by exact rfl) ?_ | refine ga3 10 (by exact rfl) (by exact rfl) ?_ | refine ga4 10 (by exact rfl) (by exact rfl) ?_)
          (first | refine ga1 11 (by exact rfl) (by exact rfl) ?_ | refine ga2 11 (by exact rfl) (by exact rfl) ?_ | refine ga3 11 (by exact rfl) (by exact rfl) ?_ | refine ga4 11 (by exact rfl) (by exact rfl) ?_)
          (first | refine ga1 12 (by exact rfl) (by exact rfl) ?_ | refine ga2 12 (by exact rfl) (by exact rfl) ?_ | refine ga3 12 (by exact rfl) (by exact rfl) ?_ | refine ga4 12 (by exact rfl) (by exact rfl) ?_)
          refine gaDone ?_
          refine gg ?_
          exact grt (⟨used, cs, 0⟩ : LsX) (yes (hfi.1 hy))
        · have hyl : 0 < ys.length := List.length_pos_iff.2 hy
          (first | refine ga1 10 (by exact rfl) (by exact rfl) ?_ | refine ga2 10 (by exact rfl) (by exact rfl) ?_ | refine ga3 10 (by exact rfl) (by exact rfl) ?_ | refine ga4 10 (by exact rfl) (by exact rfl) ?_)
          (first | refine ga1 11 (by exact rfl) (by exact rfl) ?_ | refine ga2 11 (by exact rfl) (by exact rfl) ?_ | refine ga3 11 (by exact rfl) (by exact rfl) ?_ | refine ga4 11 (by exact rfl) (by exact rfl) ?_)
          (first | refine ga1 12 (by exact rfl) (by exact rfl) ?_ | refine ga2 12 (by exact rfl) (by exact rfl) ?_ | refine ga3 12 (by exact rfl) (by exact rfl) ?_ | refine ga4 12 (by exact rfl) (by exact rfl) ?_)
          refine gaDone ?_
          refine gg ?_
          exact grt (⟨b, cs, 0⟩ : LsX) (noo fun h => hy (hfi.2 h))
      refine gaOne 7 rfl ?_
      refine gc30 [blk tb (thC g.rows NA (nearTo y g g.rows).length nc kd) TTh] (fun w hst hst1 => further_c (N := g.rows) w k4 k5 hst1.own) (by exact rfl) ?_
      (repeat (first | refine gk1 ?_ | refine gk2 ?_ | refine gk3 ?_ | refine gk0 ?_ | refine gk4 ?_))
      rintro _ _
      dsimp only [List.cons_append, List.nil_append]
      refine ⟨by (repeat (first | exact Suf.refl | exact Suf.nil | exact Suf.app _ _ | apply Suf.cons)), ?_⟩
      refine gaOne 9 rfl ?_
      refine gcv0 [] (first := []) (captured := []) (vs := [.slice (some ⟨cb, 0, none⟩) n n]) (f := 106) (fun w hst hst1 => further1_c w (.slice (some ⟨cb, 0, none⟩) n n)) (by rfl) (by rfl) (by rfl) (bod_of rfl) (by rfl) (by rfl) (by rfl) ?_
      (repeat (first | refine gk1 ?_ | refine gk2 ?_ | refine gk3 ?_ | refine gk0 ?_ | refine gk4 ?_))
      rintro _ _
      dsimp only [List.cons_append, List.nil_append]
      refine ⟨by (repeat (first | exact Suf.refl | exact Suf.nil | exact Suf.app _ _ | apply Suf.cons)), ?_⟩
      (first | refine ga1 10 (by exact rfl) (by exact rfl) ?_ | refine ga2 10 (by exact rfl) (by exact rfl) ?_ | refine ga3 10 (by exact rfl) (by exact rfl) ?_ | refine ga4 10 (by exact rfl) (by exact rfl) ?_)
      (first | refine ga1 11 (by exact rfl) (by exact rfl) ?_ | refine ga2 11 (by exact rfl) (by exact rfl) ?_ | refine ga3 11 (by exact rfl) (by exact rfl) ?_ | refine ga4 11 (by exact rfl) (by exact rfl) ?_)
      (first | refine ga1 12 (by exact rfl) (by exact rfl) ?_ | refine ga2 12 (by exact rfl) (by exact rfl) ?_ | refine ga3 12 (by exact rfl) (by exact rfl) ?_ | refine ga4 12 (by exact rfl) (by exact rfl) ?_)
      refine gaDone ?_
      refine gg ?_
      exact grt (⟨used, cs, 0⟩ : LsX) (yes ((fin [] (fun _ _ => rfl) (fun h => (k4 h).elim) (fun h => (k5 h).elim)).1 rfl))
  | succ m ih =>
    intro v used b cs w hvm v0 us0 us1 hcl hbn hcs hrd hw
    refine calls_wc ((LsI b8 b6 b9 b10 cb n tb NA nc y kd g R b cs).flatMap Res.fp) (LsI b8 b6 b9 b10 cb n tb NA nc y kd g R b cs) [] (fun _ => []) Try.func75 rfl rfl (fun _ => rfl) Try.ntmps75 rfl hw rfl ?_
    dsimp only [LsI, ThI]
    by_cases hp : b ≤ used
    · refine gg ?_
      exact grt (⟨b, cs, 0⟩ : LsX) ⟨hcl, rfl, Int.le_refl _, .inl rfl, fun j hj => by have := hj.le; dsimp only; omega⟩
    · refine gg ?_
      refine glp (fun z : LsX => (0 ≤ z.c ∧ z.c ≤ used + 1) ∧ z.cs.length = n ∧ z.cs.take v.toNat = cs.take v.toNat ∧ BestC kd (hasB g) n m (cs.take v.toNat) used z.c b z.b) (fun z => [(0, vi v), (1, vi used), (2, .pointer (some ⟨b8, 0, none⟩)), (3, .pointer (some ⟨b6, 0, none⟩)), (4, .pointer (some ⟨b9, 0, none⟩)), (5, .pointer (some ⟨b10, 0, none⟩)), (8, vi z.c)])
        (fun z => LsI b8 b6 b9 b10 cb n tb NA nc y kd g R z.b z.cs) (fun z => (used + 1 - z.c).toNat) ⟨b, cs, 0⟩ ⟨by simp; omega, hcl, rfl, Int.le_refl _, .inl rfl, fun c' c0 c1 => by dsimp only at c1; omega⟩ ?_
      rintro ⟨b', cs', c⟩ ⟨⟨hc0, hc1⟩, hl', htk, hbe⟩
      dsimp only [LsI, ThI] at hc0 hc1 hl' htk hbe ⊢
      have hb' : b' ≤ n := by have := hbe.1; omega
      by_cases hc : c ≤ used
      · have hgs : ∀ i : Int, 0 ≤ i → i < v → gt cs' i = gt cs i := fun i i0 i1 => by
          have e1 : (cs'.take v.toNat)[i.toNat]? = (cs.take v.toNat)[i.toNat]? := by rw [htk]
          rw [List.getElem?_take_of_lt (by omega), List.getElem?_take_of_lt (by omega), List.getElem?_eq_getElem (by omega), List.getElem?_eq_getElem (by omega), Option.some.injEq] at e1
          rw [gt_elem i0 (by omega), gt_elem i0 (by omega)]
          exact e1
        have hset : (cs'.set v.toNat c).take (v + 1).toNat = cs.take v.toNat ++ [c] := by
          rw [show (v + 1).toNat = v.toNat + 1 by omega, List.take_add_one, List.take_set_of_le (Nat.le_refl _), htk, List.getElem?_set_self (by omega)]
          rfl
        have hih := fun w => ih (v + 1) (max used (c + 1)) b' (cs'.set v.toNat c) w (by omega) (by omega) (by omega) (by omega) (by rw [List.length_set]; exact hl') hb' (fun i i0 i1 => by
          rw [gt_setI v0 (by omega) i0]
          by_cases e : i = v
          · rw [if_pos e]; omega
          · rw [if_neg e, hgs i i0 (by omega)]; exact hcs i i0 (by omega))
        rw [hset] at hih
        refine gg ?_
        refine wl_v rfl rfl rfl (val_max rfl rfl rfl) ?_
        refine gcv (LsI b8 b6 b9 b10 cb n tb NA nc y kd g R b' (cs'.set v.toNat c)) (first := []) (captured := [.pointer (some ⟨b8, 0, none⟩), .pointer (some ⟨b6, 0, none⟩), .pointer (some ⟨b9, 0, none⟩), .pointer (some ⟨b10, 0, none⟩)]) (vs := [vi (v + 1), vi (max used (c + 1))]) (f := 75) (fun w hst hst1 => hih w (hrd.later hst1) hst1.own) (by rfl) (by rfl) (by rfl) (bod_of rfl) (by rfl) (by rfl) (by rfl) ?_
        dsimp only [LsI, ThI]
        (repeat (first | refine gk1 ?_ | refine gk2 ?_ | refine gk3 ?_ | refine gk0 ?_ | refine gk4 ?_))
        rintro ⟨b2, cs2, _⟩ ⟨hl2, htk2, hbe2⟩
        dsimp only [LsI, ThI, List.cons_append, List.nil_append] at hl2 htk2 hbe2 ⊢
        have htk3 : cs2.take v.toNat = cs.take v.toNat := by
          have := congrArg (List.take v.toNat) htk2
          rw [List.take_take, show min v.toNat (v + 1).toNat = v.toNat by omega, List.take_left' (by rw [List.length_take]; omega)] at this
          exact this
        refine gg ?_
        exact gnx (⟨b2, cs2, c + 1⟩ : LsX) ⟨by dsimp only; omega, hl2, htk3, hbe.next hc0 hbe2⟩ (by dsimp only; omega)
      · obtain rfl : c = used + 1 := by omega
        refine gg ?_
        exact grt (⟨b', cs', 0⟩ : LsX) ⟨hl', htk, hbe.end_⟩
end
noncomputable def leE (kd : Int) (p : Pat) : Int := if thE kd p ≠ 0 then thE kd p else if 8 < thN kd p then 1 else 0
section
variable {g p : Pat} {x : PA} {kd : Int} {n : Nat} {R : TX → List Res} {yf : TX → PA}
theorem leastE_c (w : World) (hp : RdP w x p) (he : thE kd p ≠ 0) :
    Calls Try.prog 35 [vi kd, pvl x p].toArray w (Ret [] (fun k : Int => .tuple #[vi k, vi (thE kd p)]) (fun _ => []) (fun k => k = 0) w) := by
  have op := hp.old
  have htk : ∀ w, RdP w x p → _ := fun w h => takenE_c (k := kd) (p := p) (x := x) w h he
  generalize thE kd p = e at *
  unfold pvl patV at *
  refine calls_wc [] [] [.tmp 4, .tmp 5] (fun k : Int => [vi k, vi e]) Try.func35 rfl rfl (fun _ => rfl) Try.ntmps35 rfl (Own.nil w) rfl ?_
  refine gg ?_
  refine wl_op (ok_box rfl rfl rfl rfl rfl ?_); intro bp
  refine gg ?_
  refine gc1 (fun w hst => htk w (op.now hst)) (by exact rfl) ?_
  refine gg ?_
  refine wl_op (ok_alloc rfl rfl rfl rfl (ze_of rfl) ?_); intro q
  refine gg ?_
  exact grt (0 : Int) rfl
theorem leastN_c (w : World) (hp : RdP w x p) (hn8 : 8 < g.rows)
    (htk : ∀ w', Only [] w w' → Calls Try.prog 67 [vi kd, pvl x p].toArray w' (Ret [] (fun t : TX => .tuple #[.pointer (some ⟨t.tb, 0, none⟩), vi 0]) (ThR R yf kd g) (fun _ => True) w')) :
    Calls Try.prog 35 [vi kd, pvl x p].toArray w (Ret [] (fun k : Int => .tuple #[vi k, vi 1]) (fun _ => []) (fun k => k = 0) w) := by
  have op := hp.old
  unfold pvl patV at *
  refine calls_wc [] [] [.tmp 4, .tmp 5] (fun k : Int => [vi k, vi 1]) Try.func35 rfl rfl (fun _ => rfl) Try.ntmps35 rfl (Own.nil w) rfl ?_
  refine gg ?_
  refine wl_op (ok_box rfl rfl rfl rfl rfl ?_); intro bp
  refine gg ?_
  refine gc3 [] (fun w hst hst1 => htk w hst1.only) (by exact rfl) ?_
  (repeat (first | refine gk1 ?_ | refine gk2 ?_ | refine gk3 ?_ | refine gk0 ?_ | refine gk4 ?_))
  rintro ⟨tb, NA, nc, y⟩ _
  dsimp only [List.cons_append, List.nil_append]
  refine gg ?_
  refine wl_op (ok_alloc rfl rfl rfl rfl (ze_of rfl) ?_); intro q
  refine gg ?_
  exact grt (0 : Int) rfl
theorem least_ok (w : World) (hm : May g) (hn : g.rows = n) (hg : IsGr g) (hn8 : n ≤ 8) (hp : RdP w x p)
    (htk : ∀ w', Only [] w w' → Calls Try.prog 67 [vi kd, pvl x p].toArray w' (Ret [] (fun t : TX => .tuple #[.pointer (some ⟨t.tb, 0, none⟩), vi 0]) (ThR R yf kd g) (fun _ => True) w')) (hrd : ∀ t, RdB w [] (R t) (yf t) g) :
    Calls Try.prog 35 [vi kd, pvl x p].toArray w (Ret [] (fun k : Int => .tuple #[vi k, vi 0]) (fun _ => []) (fun k => IsLe kd (hasB g) n k) w) := by
  have op := hp.old
  unfold pvl patV at *
  refine calls_wc [] [] [.tmp 4, .tmp 5] (fun k : Int => [vi k, vi 0]) Try.func35 rfl rfl (fun _ => rfl) Try.ntmps35 rfl (Own.nil w) rfl ?_
  refine gg ?_
  refine wl_op (ok_box rfl rfl rfl rfl rfl ?_); intro bp
  refine gg ?_
  refine gc3 [] (fun w hst hst1 => htk w hst1.only) (by exact rfl) ?_
  (repeat (first | refine gk1 ?_ | refine gk2 ?_ | refine gk3 ?_ | refine gk0 ?_ | refine gk4 ?_))
  rintro ⟨tb, NA, nc, y⟩ _
  dsimp only [List.cons_append, List.nil_append]
  generalize hRy : R ⟨tb, NA, nc, y⟩ = RR
  have hrd' := hrd ⟨tb, NA, nc, y⟩
  rw [hRy] at hrd'
  generalize yf ⟨tb, NA, nc, y⟩ = yy at hrd'
  refine gg ?_
  refine wl_op (ok_alloc rfl rfl rfl rfl (ze_of rfl) ?_); intro b6
  refine gg ?_
  refine wl_op (ok_alloc rfl rfl rfl rfl (ze_of rfl) ?_); intro b8
  refine gg ?_
  refine gmk vi 0 rfl rfl rfl rfl rfl rfl rfl rfl rfl rfl rfl (by omega) (Int.le_refl _) (by omega) (by omega) ?_
  intro cb
  rw [show g.rows.toNat = n by omega]
  refine gg ?_
  refine wl_op (ok_alloc rfl rfl rfl rfl (ze_of rfl) ?_); intro b9
  refine gg ?_
  refine wl_op (ok_alloc rfl rfl rfl rfl (ze_of rfl) ?_); intro b10
  refine gg ?_
  refine gcv (LsI b8 b6 b9 b10 cb n tb NA nc yy kd g RR g.rows (List.replicate n 0)) (first := []) (captured := [.pointer (some ⟨b8, 0, none⟩), .pointer (some ⟨b6, 0, none⟩), .pointer (some ⟨b9, 0, none⟩), .pointer (some ⟨b10, 0, none⟩)]) (vs := [vi 0, vi 0]) (f := 75) (fun w hst hst1 => try_c hm hn hg hn8 n 0 0 g.rows (List.replicate n 0) w (by omega) (by omega) (by omega) (by omega) (by simp) (by omega) (fun i i0 i1 => by omega) (hrd'.later hst1) hst1.own) (by rfl) (by rfl) (by rfl) (bod_of rfl) (by rfl) (by rfl) (by rfl) ?_
  dsimp only [LsI, ThI]
  (repeat (first | refine gk1 ?_ | refine gk2 ?_ | refine gk3 ?_ | refine gk0 ?_ | refine gk4 ?_))
  rintro ⟨k, cs, _⟩ ⟨_, _, hb1, hb2, hb3⟩
  dsimp only [LsI, ThI, List.cons_append, List.nil_append] at hb1 hb2 hb3 ⊢
  refine gg ?_
  exact grt k ⟨by omega, hb2.imp (fun h => by omega) id, hb3⟩
end
section
variable {p : Pat} {x : PA} {kd : Int}
/-- Least of every kind and pattern -/
theorem least_c (w : World) (hp : RdP w x p) :
    Calls Try.prog 35 [vi kd, pvl x p].toArray w (Ret [] (fun k : Int => .tuple #[vi k, vi (leE kd p)]) (fun _ => []) (fun k => (leE kd p = 0 → IsLe kd (hasB (gr kd p)) (gr kd p).rows.toNat k) ∧ (leE kd p ≠ 0 → k = 0)) w) := by
  by_cases he : thE kd p = 0
  · obtain ⟨hm, h⟩ := thE_zero he
    obtain ⟨g1, g2, g3⟩ := gr_gr he
    have h0 := g1.1.1.toHead.r0
    have key : ∀ {R : TX → List Res} {yf : TX → PA}, (∀ w', Only [] w w' → Calls Try.prog 67 [vi kd, pvl x p].toArray w' (Ret [] (fun t : TX => .tuple #[.pointer (some ⟨t.tb, 0, none⟩), vi 0]) (ThR R yf kd (gr kd p)) (fun _ => True) w')) → (∀ t, RdB w [] (R t) (yf t) (gr kd p)) → Calls Try.prog 35 [vi kd, pvl x p].toArray w (Ret [] (fun k : Int => .tuple #[vi k, vi (leE kd p)]) (fun _ => []) (fun k => (leE kd p = 0 → IsLe kd (hasB (gr kd p)) (gr kd p).rows.toNat k) ∧ (leE kd p ≠ 0 → k = 0)) w) := by
      intro R yf htk hrd
      by_cases h8 : 8 < thN kd p
      · have hE : leE kd p = 1 := by unfold leE; rw [if_neg (not_not_intro he), if_pos h8]
        rw [hE]
        exact (leastN_c w hp (by omega) htk).mono fun e w' h => ret_val h fun z hz => ⟨rfl, fun h => (by cases h), fun _ => hz⟩
      · have hE : leE kd p = 0 := by unfold leE; rw [if_neg (not_not_intro he), if_neg h8]
        rw [hE]
        exact (least_ok (n := (gr kd p).rows.toNat) w g1.1.1 (by omega) g1 (by omega) hp htk hrd).mono fun e w' h => ret_val h fun z hz => ⟨rfl, fun _ => hz, fun h => (h rfl).elim⟩
    rcases h with ⟨hk1, hg⟩ | hk2 | hk3
    · have e : gr kd p = p := by unfold gr; rw [if_neg (by omega), if_neg (by omega)]
      rw [e] at key
      rw [e]
      exact key (R := fun _ => []) (yf := fun _ => x) (fun w' ho' => tkG_c w' ⟨hp.s.only ho', hp.c.only ho'⟩ hm hg hk1) (fun t => RdB.nil hp.old)
    · have e : gr kd p = (colsS p).1 := by unfold gr; rw [if_pos hk2]
      rw [e] at key
      rw [e]
      exact key (R := fun t => PatR t.y (colsS p).1) (yf := fun t => t.y) (fun w' ho' => tkcols_c w' ⟨hp.s.only ho', hp.c.only ho'⟩ hm hk2) (fun t => RdB.own)
    · have e : gr kd p = (rowsS p).1 := by unfold gr; rw [if_neg (by omega), if_pos hk3]
      rw [e] at key
      rw [e]
      exact key (R := fun t => PatR t.y (rowsS p).1) (yf := fun t => t.y) (fun w' ho' => tkrows_c w' ⟨hp.s.only ho', hp.c.only ho'⟩ hm hk3) (fun t => RdB.own)
  · have hE : leE kd p = thE kd p := by unfold leE; rw [if_pos he]
    rw [hE]
    exact (leastE_c w hp he).mono fun e w' h => ret_val h fun z hz => ⟨rfl, fun h => (he h).elim, fun _ => hz⟩
end
end Go.Proofs.Ytoiiellaoikojaa
