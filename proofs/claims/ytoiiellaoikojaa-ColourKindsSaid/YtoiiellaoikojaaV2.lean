/- Walks: colours: the law ColourKinds. -/
import Derived.Test.YtoiiellaoikojaaV1
set_option linter.unusedVariables false
set_option linter.unusedSimpArgs false
set_option maxHeartbeats 8000000
namespace Go.Proofs.Ytoiiellaoikojaa
open Go.RowKit Classical
/-! ### bits -/
def xorI (x y : Int) : Int := IntKind.wrap .i64 ((BitVec.ofInt 64 x ^^^ BitVec.ofInt 64 y).toNat : Int)
def andI (x y : Int) : Int := IntKind.wrap .i64 ((BitVec.ofInt 64 x &&& BitVec.ofInt 64 y).toNat : Int)
theorem xorI_toInt (x y : Int) : xorI x y = (BitVec.ofInt 64 x ^^^ BitVec.ofInt 64 y).toInt := by
  unfold xorI
  rw [IntKind.wrap_i64, BitVec.toInt_eq_toNat_bmod, Int.bmod_def]
  have := (BitVec.ofInt 64 x ^^^ BitVec.ofInt 64 y).isLt
  split <;> omega
theorem xorI_inj {x y s : Int} (x0 : 0 ≤ x) (x1 : x ≤ 65536) (y0 : 0 ≤ y) (y1 : y ≤ 65536) (h : xorI x s = xorI y s) : x = y := by
  rw [xorI_toInt, xorI_toInt] at h
  have h1 := BitVec.eq_of_toInt_eq h
  have h2 : BitVec.ofInt 64 x = BitVec.ofInt 64 y := by
    have := congrArg (fun z => z ^^^ BitVec.ofInt 64 s) h1
    simpa [BitVec.xor_assoc] using this
  have h3 := congrArg BitVec.toInt h2
  rw [BitVec.toInt_ofInt, BitVec.toInt_ofInt, Int.bmod_def, Int.bmod_def] at h3
  split at h3 <;> split at h3 <;> omega
theorem val_and {P : Program} {w0 : World} {D : List Nat} {Γ : Tm} {σ : List Res} {o : Oper} {t t2 : TypeId} {x y : Operand} {a b : Int} (hop : o.op = .binOp .and t x y t2) (hx : ev Γ x = some (.int .i64 a)) (hy : ev Γ y = some (.int .i64 b)) : ValOK P w0 D σ Γ o (.int .i64 (andI a b)) :=
  val_of_bi hop hx hy fun P w => by simp [binOp, Op.intBits]; rfl
theorem val_xor {P : Program} {w0 : World} {D : List Nat} {Γ : Tm} {σ : List Res} {o : Oper} {t t2 : TypeId} {x y : Operand} {a b : Int} (hop : o.op = .binOp .xor t x y t2) (hx : ev Γ x = some (.int .i64 a)) (hy : ev Γ y = some (.int .i64 b)) : ValOK P w0 D σ Γ o (.int .i64 (xorI a b)) :=
  val_of_bi hop hx hy fun P w => by simp [binOp, Op.intBits]; rfl
theorem val_quo {P : Program} {w0 : World} {D : List Nat} {Γ : Tm} {σ : List Res} {o : Oper} {t t2 : TypeId} {x y : Operand} {a b : Int} (hop : o.op = .binOp .quo t x y t2) (hx : ev Γ x = some (.int .i64 a)) (hy : ev Γ y = some (.int .i64 b)) (a0 : 0 ≤ a) (a1 : a ≤ 1000000) (b0 : 0 < b) : ValOK P w0 D σ Γ o (.int .i64 (a / b)) :=
  val_of_bi hop hx hy fun P w => by
    have hd := Int.tdiv_eq_ediv_of_nonneg (b := b) a0
    have h0 := Int.ediv_nonneg a0 (Int.le_of_lt b0)
    have h1 : a / b ≤ a := Int.ediv_le_self b a0
    have hb : b ≠ 0 := by omega
    simp [binOp, Op.intDiv, hb, hd, IntWalk.i64_in (a / b) (by omega)]
theorem near_facts {p : Pat} (hg : IsGr p) : ∃ nr : Pat, nearS p = (nr, 0) ∧ IsGr nr ∧ nr.rows = p.rows ∧ hasB nr = nearB p := by
  have hm := hg.1.1
  have HG := hm.toHead
  have h0 := HG.r0
  have h1 := HG.r1
  have hsq := hg.1.2.1
  have he : thE 1 p = 0 := by unfold thE; rw [if_neg (not_not_intro hm), if_neg (by decide), if_pos (.inl rfl), if_pos hg]
  have hin : ∀ u v, nearB p u v = true → (0 ≤ u ∧ u < p.rows) ∧ 0 ≤ v ∧ v < p.rows := fun u v h => by
    unfold nearB at h
    obtain ⟨_, h | ⟨k, h, h'⟩⟩ := of_decide_eq_true h
    · have := h.in_ hm; omega
    · have := h.in_ hm; have := h'.in_ hm; omega
  have hS : Within p.rows.toNat p.rows (nearB p) := fun r _ c h => (hin _ _ h).2
  refine ⟨shutP p.rows.toNat p.rows (nearB p), by rw [nearE, if_pos he], ?_, ?_, ?_⟩
  · refine gr_of (f := nearB p) (shut_may (by omega) h0 h1 hS) ?_ ?_ (fun a b h => ?_) (fun v => ?_)
    · show ((p.rows.toNat : Nat) : Int) = p.rows; omega
    · funext a b
      rw [Bool.eq_iff_iff, hasB_iff, has_shut h1 hS]
      exact ⟨And.right, fun h => ⟨by have := hin a b h; omega, h⟩⟩
    · unfold nearB at h ⊢
      rw [decide_eq_true_iff] at h ⊢
      obtain ⟨e, h⟩ := h
      refine ⟨fun e' => e e'.symm, ?_⟩
      rcases h with h | ⟨k, h, h'⟩
      · exact .inl (hg.1.2.2 _ _ h)
      · exact .inr ⟨k, hg.1.2.2 _ _ h', hg.1.2.2 _ _ h⟩
    · unfold nearB
      exact decide_eq_false fun h => h.1 rfl
  · show ((p.rows.toNat : Nat) : Int) = p.rows; omega
  · funext a b
    rw [Bool.eq_iff_iff, hasB_iff, has_shut h1 hS]
    exact ⟨And.right, fun h => ⟨by have := hin a b h; omega, h⟩⟩
theorem th_gr {g : Pat} (hg : IsGr g) {k : Int} (hk : k = 1 ∨ k = 4 ∨ k = 5) : thE k g = 0 ∧ thN k g = g.rows ∧ thF k g = hasB g ∧ gr k g = g := by
  refine ⟨?_, if_neg (by omega), (if_neg (by omega)).trans (if_neg (by omega)), ?_⟩
  · unfold thE
    rw [if_neg (not_not_intro hg.1.1), if_neg (by omega), if_pos hk, if_pos hg]
  · unfold gr
    rw [if_neg (by omega), if_neg (by omega)]
theorem ck_gr {g : Pat} (hg : IsGr g) {k : Int} (hk : k = 1 ∨ k = 4 ∨ k = 5) (l : List Int) : ckA k g l = if ColOK g.rows l then (if Fine k (hasB g) g.rows.toNat l then 0 else 241) else 240 := by
  obtain ⟨h1, h2, h3, _⟩ := th_gr hg hk
  unfold ckA
  rw [if_neg (not_not_intro h1), h2, h3]
theorem ck_zero {g : Pat} (hg : IsGr g) {k : Int} (hk : k = 1 ∨ k = 4 ∨ k = 5) {l : List Int} : ckA k g l = 0 ↔ ColOK g.rows l ∧ Fine k (hasB g) g.rows.toNat l := by
  rw [ck_gr hg hk]
  by_cases h1 : ColOK g.rows l
  · rw [if_pos h1]
    by_cases h2 : Fine k (hasB g) g.rows.toNat l
    · rw [if_pos h2]; exact ⟨fun _ => ⟨h1, h2⟩, fun _ => rfl⟩
    · rw [if_neg h2]; exact ⟨fun h => by omega, fun h => (h2 h.2).elim⟩
  · rw [if_neg h1]; exact ⟨fun h => by omega, fun h => (h1 h.1).elim⟩
theorem le_gr {g : Pat} (hg : IsGr g) {k : Int} (hk : k = 1 ∨ k = 4 ∨ k = 5) : leE k g = if 8 < g.rows then 1 else 0 := by
  obtain ⟨h1, h2, _, _⟩ := th_gr hg hk
  unfold leE
  rw [if_neg (not_not_intro h1), h2]
structure OtX where
  A : Option Addr
  c : Nat
  o : List Int
section
variable {p : Pat} {x : PA} {A B : Option Addr} {c d : Nat} {l ord : List Int} {s : Int}
theorem kindsE_c (w : World) (hp : RdP w x p) (hA : Rds vi w A c l) (hl3 : l.length ≤ 17592186043904) (hg : ¬ IsGr p) :
    Calls Try.prog 11 [pvl x p, .slice A l.length c, .slice B ord.length d, vi s].toArray w (one (.bool true) w) := by
  have op := hp.old
  have oA := hA.old
  have e4 : thE 4 p = thE 1 p := by unfold thE; simp
  have e1 : thE 1 p ≠ 0 := fun h => by
    obtain ⟨_, h2 | h2 | h2⟩ := thE_zero h
    · exact hg h2.2
    · omega
    · omega
  have hn : nearS p = (zP, thE 1 p) := by rw [nearE, if_neg e1]
  have hth : ∀ w, RdP w x p → _ := fun w h => things_c (p := p) (x := x) (k := 4) w h
  rw [e4, if_neg e1] at hth
  have hnr : ∀ w, RdP w x p → _ := fun w h => near_c (p := p) (x := x) w h
  rw [hn] at hnr
  dsimp only at hnr
  have hck : ∀ w, RdP w x p → Rds vi w A c l → _ := fun w h1 h2 => check_c (p := p) (kd := 4) (l := l) (x := x) (A := A) (c := c) w h1 h2 hl3
  have hc4 : ckA 4 p l = thE 1 p := by unfold ckA; rw [e4, if_pos e1]
  rw [hc4] at hck
  have hz : ([] : List Int).length = 0 := rfl
  rw [show zP = ⟨0, 0, [], []⟩ from rfl] at hn hnr
  generalize thE 1 p = e at *
  unfold pvl patV at *
  refine calls_wc [] [] [.tmp 8] (fun _ => [.bool true]) Try.func11 rfl rfl (fun _ => rfl) Try.ntmps11 rfl (Own.nil w) rfl ?_
  refine gg ?_
  refine wl_op (ok_box rfl rfl rfl rfl rfl ?_); intro bp
  refine gg ?_
  refine gc1 (fun w hst => alive_c w) (by exact rfl) ?_
  refine gg ?_
  refine gc3 [] (fun w hst hst1 => hnr w (op.now hst)) (by exact rfl) ?_
  (repeat (first | refine gk1 ?_ | refine gk2 ?_ | refine gk3 ?_ | refine gk0 ?_ | refine gk4 ?_))
  rintro y1 _
  dsimp only [List.cons_append, List.nil_append]
  refine gg ?_
  refine wl_op (ok_alloc rfl rfl rfl rfl (ze_of rfl) ?_); intro q9
  refine gg ?_
  refine gc3 [] (fun w hst hst1 => hth w (op.now hst)) (by exact rfl) ?_
  (repeat (first | refine gk1 ?_ | refine gk2 ?_ | refine gk3 ?_ | refine gk0 ?_ | refine gk4 ?_))
  rintro y2 _
  dsimp only [List.cons_append, List.nil_append]
  refine gg ?_
  refine wl_op (ok_alloc rfl rfl rfl rfl (ze_of rfl) ?_); intro q11
  refine gg ?_
  refine gc1 (fun w hst => num_c _ w) (by exact rfl) ?_
  refine gg ?_
  refine gc1 (fun w hst => num_c _ w) (by exact rfl) ?_
  refine gg ?_
  refine gc1 (fun w hst => hck w (op.now hst) (oA.now hst)) (by exact rfl) ?_
  refine gg ?_
  refine gc1 (fun w hst => num_c _ w) (by exact rfl) ?_
  refine gg ?_
  exact grt () trivial
set_option maxRecDepth 100000 in
theorem kinds_c (w : World) (hp : RdP w x p) (hA : Rds vi w A c l) (hB : Rds vi w B d ord) (hl3 : l.length ≤ 17592186043904) (hg : IsGr p) :
    Calls Try.prog 11 [pvl x p, .slice A l.length c, .slice B ord.length d, vi s].toArray w (one (.bool true) w) := by
  have op := hp.old
  have oA := hA.old
  have oB := hB.old
  have hm := hg.1.1
  have HG := hm.toHead
  have r0 := HG.r0
  have r1 := HG.r1
  obtain ⟨nr, hn, gn, nrows, nhas⟩ := near_facts hg
  have hev : ∀ a b, hasB p a b = true → hasB p b a = true := fun a b h => by rw [← hg.sym]; exact h
  have hon : On p.rows.toNat (hasB p) := fun a b h => by
    have := (hasB_iff.1 h).in_ hm
    have := hg.1.2.1
    omega
  have hin : ∀ x y, hasB p x y = true → (0 ≤ x ∧ x < (p.rows.toNat : Int)) ∧ 0 ≤ y ∧ y < (p.rows.toNat : Int) := fun x y h => by have := hon x y h; omega
  have i1 : ckA 4 p l = 0 → ckA 5 p l = 0 := fun h => by
    obtain ⟨h1, h2⟩ := (ck_zero hg (by omega)).1 h
    exact (ck_zero hg (by omega)).2 ⟨h1, fine_star hev h2⟩
  have i2 : ckA 5 p l = 0 → ckA 1 p l = 0 := fun h => by
    obtain ⟨h1, h2⟩ := (ck_zero hg (by omega)).1 h
    exact (ck_zero hg (by omega)).2 ⟨h1, fine_proper h2⟩
  have i3 : ckA 1 nr l = 0 → ckA 4 p l = 0 := fun h => by
    obtain ⟨h1, h2⟩ := (ck_zero gn (by omega)).1 h
    rw [nrows] at h1 h2
    rw [nhas] at h2
    exact (ck_zero hg (by omega)).2 ⟨h1, fine_near hg h2⟩
  have i4 : grE 1 nr ord = 0 → ckA 4 p (grL 1 nr ord) = 0 ∧ (grL 1 nr ord).length ≤ 17592186043904 := fun h => by
    obtain ⟨t1, t2, t3, _⟩ := th_gr gn (k := 1) (.inl rfl)
    have ho : IsOrd ord (thN 1 nr) := by
      unfold grE at h
      rw [if_neg (not_not_intro t1)] at h
      by_cases ho : IsOrd ord (thN 1 nr)
      · exact ho
      · rw [if_pos ho] at h; cases h
    have hL : grL 1 nr ord = greedyS 1 (nearB p) p.rows.toNat ord := by
      unfold grL
      rw [if_neg (not_not_intro t1), if_neg (not_not_intro ho), t2, t3, nrows, nhas]
    rw [t2, nrows] at ho
    have hon2 : On p.rows.toNat (nearB p) := fun a b h => by
      rw [← nhas] at h
      have := (hasB_iff.1 h).in_ gn.1.1
      have := gn.1.2.1
      omega
    obtain ⟨f1, f2, f3⟩ := greedy_fine (kd := 1) (F := nearB p) (n := p.rows.toNat) (ord := ord) hon2 (fun a b h => by rw [← nhas] at h ⊢; rw [← gn.sym]; exact h) (fun u => by rw [← nhas]; exact gn.irr u) (by rw [show ((p.rows.toNat : Nat) : Int) = p.rows by omega]; exact ho)
    rw [hL]
    refine ⟨(ck_zero hg (by omega)).2 ⟨⟨by omega, fun i i0 i1 => by have := f2 i i0 (by omega); omega⟩, fine_near hg f3⟩, by omega⟩
  have i5 : ∀ o : List Int, o.length = l.length → (∀ i : Int, 0 ≤ i → i < l.length → gt o i = xorI (gt l i) (andI s 15)) → ckA 1 p l ≠ 240 → ckA 4 p o ≠ 240 → ckA 4 p o = ckA 4 p l := fun o ol oi h1 h2 => by
    have c1 : ColOK p.rows l := Classical.byContradiction fun h => h1 (by rw [ck_gr hg (.inl rfl), if_neg h])
    have c2 : ColOK p.rows o := Classical.byContradiction fun h => h2 (by rw [ck_gr hg (by omega), if_neg h])
    have cl := c1.1
    rw [ck_gr hg (by omega), ck_gr hg (by omega), if_pos c1, if_pos c2]
    have hr : ∀ x y : Int, 0 ≤ x → x < (p.rows.toNat : Int) → 0 ≤ y → y < (p.rows.toNat : Int) → (gt o x = gt o y ↔ gt l x = gt l y) := fun x y x0 x1 y0 y1 => by
      have hx := c1.2 x x0 (by omega)
      have hy := c1.2 y y0 (by omega)
      rw [oi x x0 (by omega), oi y y0 (by omega)]
      exact ⟨fun h => xorI_inj hx.1 hx.2 hy.1 hy.2 h, fun h => by rw [h]⟩
    by_cases hf : Fine 4 (hasB p) p.rows.toNat l
    · rw [if_pos hf, if_pos (hf.ren hin hr)]
    · rw [if_neg hf, if_neg (fun h => hf (h.ren hin fun x y x0 x1 y0 y1 => (hr x y x0 x1 y0 y1).symm))]
  have i6 : ∀ (j : Int) (k : Int), k = 4 ∨ k = 5 → ckA k p l = 0 → ckA k (partP 4 p ord j) l = 0 := fun j k hk h => by
    obtain ⟨g1, g2⟩ := part_gr (kd := 4) (ord := ord) (i := j) hg (by decide) (by decide)
    obtain ⟨h1, h2⟩ := (ck_zero hg (by omega)).1 h
    refine (ck_zero g1 (by omega)).2 ⟨by rw [part_rows hm]; exact h1, ?_⟩
    rw [part_rows hm, g2]
    exact h2.mono fun x y h => (resF_iff.1 h).1
  have j1 : ∀ a b : Int, IsLe 1 (hasB p) p.rows.toNat a → IsLe 5 (hasB p) p.rows.toNat b → a ≤ b := fun a b h k => h.le (fun l => fine_proper) k
  have j2 : ∀ a b : Int, IsLe 5 (hasB p) p.rows.toNat a → IsLe 4 (hasB p) p.rows.toNat b → a ≤ b := fun a b h k => h.le (fun l => fine_star hev) k
  have j3 : ∀ a b : Int, IsLe 4 (hasB p) p.rows.toNat a → IsLe 1 (nearB p) p.rows.toNat b → a ≤ b := fun a b h k => h.le (fun l => fine_near hg) k
  have cN : ∀ w, RdP w x p → _ := fun w h => near_c (p := p) (x := x) w h
  rw [hn] at cN
  dsimp only at cN
  have cT : ∀ w, RdP w x p → _ := fun w h => things_c (p := p) (x := x) (k := 4) w h
  rw [(th_gr hg (k := 4) (by omega)).1, if_pos rfl, (th_gr hg (k := 4) (by omega)).2.1] at cT
  have cL : ∀ (k : Int), k = 1 ∨ k = 4 ∨ k = 5 → ∀ w, RdP w x p → _ := fun k _ w h => least_c (p := p) (x := x) (kd := k) w h
  have cL1 := cL 1 (by omega)
  have cL4 := cL 4 (by omega)
  have cL5 := cL 5 (by omega)
  rw [le_gr hg (by omega), (th_gr hg (by omega)).2.2.2] at cL1 cL4 cL5
  have cLn : ∀ (y : PA) w, RdP w y nr → _ := fun y w h => least_c (p := nr) (x := y) (kd := 1) w h
  rw [le_gr gn (by omega), (th_gr gn (by omega)).2.2.2, nrows, nhas] at cLn
  have cC : ∀ (k : Int) (o : List Int) (A : Option Addr) (c : Nat), o.length ≤ 17592186043904 → ∀ w, RdP w x p → Rds vi w A c o → _ := fun k o A c ho w h1 h2 => check_c (p := p) (x := x) (kd := k) (l := o) (A := A) (c := c) w h1 h2 ho
  have cCn : ∀ (y : PA) w, RdP w y nr → Rds vi w A c l → _ := fun y w h1 h2 => check_c (p := nr) (x := y) (kd := 1) (l := l) (A := A) (c := c) w h1 h2 hl3
  have cG : ∀ (y : PA) w, RdP w y nr → Rds vi w B d ord → _ := fun y w h1 h2 => greedyA_c (p := nr) (x := y) (kd := 1) (l := ord) (A := B) (c := d) w h1 h2
  have cC1 := cC 1 l A c hl3
  have cC4 := cC 4 l A c hl3
  have cC5 := cC 5 l A c hl3
  have cP : ∀ (j : Int), IsOrd ord p.rows → ∀ w, RdP w x p → Rds vi w B d ord → _ := fun j ho w h1 h2 => part_c (kd := 4) (i := j) (ord := ord) w h1 hm (by omega) (fun _ _ => hg.1.2.1) h2 (by rw [(th_gr hg (k := 4) (by omega)).2.1]; exact ho)
  have cQ : ∀ (j k : Int) (y : PA) w, RdP w y (partP 4 p ord j) → Rds vi w A c l → _ := fun j k y w h1 h2 => check_c (p := partP 4 p ord j) (x := y) (kd := k) (l := l) (A := A) (c := c) w h1 h2 hl3
  have hprl : p.rows ≤ 128 := r1
  have i64' : ∀ j : Int, _ := fun j => i6 j 4 (.inl rfl)
  have i65' : ∀ j : Int, _ := fun j => i6 j 5 (.inr rfl)
  generalize ckA 1 p l = pr at *
  generalize ckA 4 p l = st at *
  generalize ckA 5 p l = ac at *
  generalize ckA 1 nr l = fa at *
  generalize grE 1 nr ord = ge at *
  generalize grL 1 nr ord = gl at *
  unfold pvl patV at *
  refine calls_wc [] [] [.tmp 8] (fun _ => [.bool true]) Try.func11 rfl rfl (fun _ => rfl) Try.ntmps11 rfl (Own.nil w) rfl ?_
  refine gg ?_
  refine wl_op (ok_box rfl rfl rfl rfl rfl ?_); intro bp
  refine gg ?_
  refine gc1 (fun w hst => alive_c w) (by exact rfl) ?_
  refine gg ?_
  refine gc3 [] (fun w hst hst1 => cN w (op.now hst)) (by exact rfl) ?_
  (repeat (first | refine gk1 ?_ | refine gk2 ?_ | refine gk3 ?_ | refine gk0 ?_ | refine gk4 ?_))
  rintro y1 _
  dsimp only [List.cons_append, List.nil_append]
  refine gg ?_
  refine wl_op (ok_alloc rfl rfl rfl rfl (ze_of rfl) ?_); intro q9
  refine gg ?_
  refine gc3 [] (fun w hst hst1 => cT w (op.now hst)) (by exact rfl) ?_
  (repeat (first | refine gk1 ?_ | refine gk2 ?_ | refine gk3 ?_ | refine gk0 ?_ | refine gk4 ?_))
  rintro y2 _
  dsimp only [List.cons_append, List.nil_append]
  refine gg ?_
  refine wl_op (ok_alloc rfl rfl rfl rfl (ze_of rfl) ?_); intro q11
  refine gg ?_
  refine gc1 (fun w hst => num_c _ w) (by exact rfl) ?_
  refine gg ?_
  refine gc1 (fun w hst => cC1 w (op.now hst) (oA.now hst)) (by exact rfl) ?_
  refine gg ?_
  refine gc1 (fun w hst => cC4 w (op.now hst) (oA.now hst)) (by exact rfl) ?_
  refine gg ?_
  refine gc1 (fun w hst => cC5 w (op.now hst) (oA.now hst)) (by exact rfl) ?_
  refine gg ?_
  refine gc1 (fun w hst => cCn y1 w (grdP hst) (oA.now hst)) (by exact rfl) ?_
  refine gp1 (by exact rfl) ?_
  refine wl_nil ?_
  refine thenQ_normal ?_
  refine wc_seq ?_
  refine wc_meetK (fun _ : Unit => True) (fun _ => [(1, .slice A l.length c), (2, .slice B ord.length d), (3, vi s), (4, .pointer (some ⟨bp, 0, none⟩)), (9, .pointer (some ⟨q9, 0, none⟩)), (13, vi pr), (14, vi st), (15, vi ac)]) (fun _ => [blk bp (pcs x p) TP, blk q9 (pcs y1 nr) TP, osl TI vi y1.A y1.c nr.start, osl TI vi y1.B y1.d nr.cols]) ?_ ?_
  · by_cases h4 : st = 0
    · have h5 := i1 h4
      have h1 := i2 h5
      subst h4 h5 h1
      by_cases hf : fa = 0
      · subst hf
        refine gg ?_
        exact ⟨(), trivial, by (repeat (first | exact .nil | refine .cons rfl ?_)), by refine SubK.e ?_; (repeat (first | refine gk1 ?_ | refine gk2 ?_ | refine gk3 ?_ | refine gk0 ?_ | refine gk4 ?_)); trivial⟩
      · refine gg ?_
        exact ⟨(), trivial, by (repeat (first | exact .nil | refine .cons rfl ?_)), by refine SubK.e ?_; (repeat (first | refine gk1 ?_ | refine gk2 ?_ | refine gk3 ?_ | refine gk0 ?_ | refine gk4 ?_)); trivial⟩
    · have hf : fa ≠ 0 := fun h => h4 (i3 h)
      by_cases h5 : ac = 0
      · have h1 := i2 h5
        subst h5 h1
        refine gg ?_
        exact ⟨(), trivial, by (repeat (first | exact .nil | refine .cons rfl ?_)), by refine SubK.e ?_; (repeat (first | refine gk1 ?_ | refine gk2 ?_ | refine gk3 ?_ | refine gk0 ?_ | refine gk4 ?_)); trivial⟩
      · refine gg ?_
        exact ⟨(), trivial, by (repeat (first | exact .nil | refine .cons rfl ?_)), by refine SubK.e ?_; (repeat (first | refine gk1 ?_ | refine gk2 ?_ | refine gk3 ?_ | refine gk0 ?_ | refine gk4 ?_)); trivial⟩
  rintro _ _
  try dsimp only
  refine gg ?_
  refine gc3 [] (fun w hst hst1 => cG y1 w (grdP hst) (oB.now hst)) (by exact rfl) ?_
  (repeat (first | refine gk1 ?_ | refine gk2 ?_ | refine gk3 ?_ | refine gk0 ?_ | refine gk4 ?_))
  rintro ⟨A2, c2, xs2⟩ hx2
  dsimp only at hx2
  subst hx2
  dsimp only [List.cons_append, List.nil_append]
  refine gp1 (by exact rfl) ?_
  refine wl_nil ?_
  refine thenQ_normal ?_
  refine wc_seq ?_
  refine wc_meetK (fun _ : Unit => True) (fun _ => [(1, .slice A l.length c), (2, .slice B ord.length d), (3, vi s), (4, .pointer (some ⟨bp, 0, none⟩)), (9, .pointer (some ⟨q9, 0, none⟩)), (13, vi pr), (14, vi st), (15, vi ac)]) (fun _ => [blk bp (pcs x p) TP, blk q9 (pcs y1 nr) TP, osl TI vi y1.A y1.c nr.start, osl TI vi y1.B y1.d nr.cols]) ?_ ?_
  · by_cases hge : ge = 0
    · obtain ⟨g1, g2⟩ := i4 hge
      subst hge
      refine gg ?_
      refine gc1 (fun w hst => num_c _ w) (by exact rfl) ?_
      refine gg ?_
      refine gc1 (fun w hst => cC 4 xs2 A2 c2 g2 w (op.now hst) (grd hst)) (by exact rfl) ?_
      rw [g1]
      refine gg ?_
      exact ⟨(), trivial, by (repeat (first | exact .nil | refine .cons rfl ?_)), by refine SubK.e ?_; (repeat (first | refine gk1 ?_ | refine gk2 ?_ | refine gk3 ?_ | refine gk0 ?_ | refine gk4 ?_)); trivial⟩
    · refine gg ?_
      refine gc1 (fun w hst => num_c _ w) (by exact rfl) ?_
      refine gg ?_
      exact ⟨(), trivial, by (repeat (first | exact .nil | refine .cons rfl ?_)), by refine SubK.e ?_; (repeat (first | refine gk1 ?_ | refine gk2 ?_ | refine gk3 ?_ | refine gk0 ?_ | refine gk4 ?_)); trivial⟩
  rintro _ _
  try dsimp only
  refine wc_seq ?_
  refine wc_region ?_
  refine gp1 (by exact rfl) ?_
  refine wl_nil ?_
  refine thenQ_normal ?_
  refine wc_seq ?_
  refine wc_meetK (fun z : OtX => z.o.length = l.length ∧ ∀ i : Int, 0 ≤ i → i < l.length → gt z.o i = xorI (gt l i) (andI s 15)) (fun z => [(1, .slice A l.length c), (2, .slice B ord.length d), (4, .pointer (some ⟨bp, 0, none⟩)), (9, .pointer (some ⟨q9, 0, none⟩)), (13, vi pr), (14, vi st), (15, vi ac), (20, .slice z.A z.o.length z.c)]) (fun z => [blk bp (pcs x p) TP, blk q9 (pcs y1 nr) TP, osl TI vi y1.A y1.c nr.start, osl TI vi y1.B y1.d nr.cols, osl TI vi z.A z.c z.o]) ?_ ?_
  · refine gnil ?_
    refine gg ?_
    refine glp (fun z : OtX => z.o.length ≤ l.length ∧ ∀ i : Int, 0 ≤ i → i < z.o.length → gt z.o i = xorI (gt l i) (andI s 15)) (fun z => [(1, .slice A l.length c), (2, .slice B ord.length d), (3, vi s), (4, .pointer (some ⟨bp, 0, none⟩)), (9, .pointer (some ⟨q9, 0, none⟩)), (13, vi pr), (14, vi st), (15, vi ac), (20, .slice z.A z.o.length z.c), (21, vi z.o.length)])
      (fun z => [osl TI vi z.A z.c z.o, blk bp (pcs x p) TP, blk q9 (pcs y1 nr) TP, osl TI vi y1.A y1.c nr.start, osl TI vi y1.B y1.d nr.cols]) (fun z => l.length - z.o.length) ⟨none, 0, []⟩ ⟨by simp, fun i i0 i1 => by simp at i1; omega⟩ ?_
    rintro ⟨A3, c3, o⟩ ⟨hol, hoi⟩
    dsimp only at hol hoi ⊢
    by_cases hk : (o.length : Int) < l.length
    · refine gg ?_
      refine wl_v rfl rfl rfl (val_and rfl rfl rfl) ?_
      refine wl_v rfl rfl rfl (val_xor rfl rfl rfl) ?_
      refine gpush (by exact rfl) (fun _ => by exact rfl) ?_ (hl := by omega)
      intro _ A' c'
      refine gg ?_
      exact gnx (⟨A', c', o ++ [xorI (gt l o.length) (andI s 15)]⟩ : OtX) ⟨by dsimp only; rw [List.length_append, List.length_singleton]; omega, fun i i0 i1 => by
        dsimp only at i1 ⊢
        rw [List.length_append, List.length_singleton] at i1
        by_cases e : i = o.length
        · rw [e, (gt_snoc (xs := o) (i := (o.length : Int))).2 rfl]
        · rw [(gt_snoc (xs := o)).1 i0 (by omega)]; exact hoi i i0 (by omega)⟩ (by dsimp only; rw [List.length_append, List.length_singleton]; omega)
    · refine gg ?_
      exact ⟨⟨A3, c3, o⟩, ⟨by dsimp only; omega, fun i i0 i1 => hoi i i0 (by omega)⟩, by (repeat (first | exact .nil | refine .cons rfl ?_)), by refine SubK.e ?_; (repeat (first | refine gk1 ?_ | refine gk2 ?_ | refine gk3 ?_ | refine gk0 ?_ | refine gk4 ?_)); trivial⟩
  rintro ⟨A3, c3, o⟩ ⟨hol, hoi⟩
  dsimp only at hol hoi ⊢
  have i5' := i5 o hol hoi
  have cCo := cC 4 o A3 c3 (by omega)
  generalize ckA 4 p o = so at *
  refine wc_seq ?_
  refine wc_meetK (fun _ : Unit => True) (fun _ => [(1, .slice A l.length c), (2, .slice B ord.length d), (4, .pointer (some ⟨bp, 0, none⟩)), (9, .pointer (some ⟨q9, 0, none⟩)), (14, vi st), (15, vi ac)]) (fun _ => [blk bp (pcs x p) TP, blk q9 (pcs y1 nr) TP, osl TI vi y1.A y1.c nr.start, osl TI vi y1.B y1.d nr.cols]) ?_ ?_
  · by_cases hp0 : pr = 240
    · subst hp0
      refine gg ?_
      refine gc1 (fun w hst => num_c _ w) (by exact rfl) ?_
      refine gg ?_
      exact ⟨(), trivial, by (repeat (first | exact .nil | refine .cons rfl ?_)), by refine SubK.e ?_; (repeat (first | refine gk1 ?_ | refine gk2 ?_ | refine gk3 ?_ | refine gk0 ?_ | refine gk4 ?_)); trivial⟩
    · by_cases hs0 : so = 240
      · by_cases hss : so = st
        · refine gg ?_
          refine gc1 (fun w hst => num_c _ w) (by exact rfl) ?_
          refine gg ?_
          refine gc1 (fun w hst => cCo w (op.now hst) (grd hst)) (by exact rfl) ?_
          refine gg ?_
          exact ⟨(), trivial, by (repeat (first | exact .nil | refine .cons rfl ?_)), by refine SubK.e ?_; (repeat (first | refine gk1 ?_ | refine gk2 ?_ | refine gk3 ?_ | refine gk0 ?_ | refine gk4 ?_)); trivial⟩
        · refine gg ?_
          refine gc1 (fun w hst => num_c _ w) (by exact rfl) ?_
          refine gg ?_
          refine gc1 (fun w hst => cCo w (op.now hst) (grd hst)) (by exact rfl) ?_
          refine gg ?_
          refine gc1 (fun w hst => cCo w (op.now hst) (grd hst)) (by exact rfl) ?_
          refine gg ?_
          refine gc1 (fun w hst => num_c _ w) (by exact rfl) ?_
          refine gg ?_
          exact ⟨(), trivial, by (repeat (first | exact .nil | refine .cons rfl ?_)), by refine SubK.e ?_; (repeat (first | refine gk1 ?_ | refine gk2 ?_ | refine gk3 ?_ | refine gk0 ?_ | refine gk4 ?_)); trivial⟩
      · have hss := i5' hp0 hs0
        refine gg ?_
        refine gc1 (fun w hst => num_c _ w) (by exact rfl) ?_
        refine gg ?_
        refine gc1 (fun w hst => cCo w (op.now hst) (grd hst)) (by exact rfl) ?_
        refine gg ?_
        exact ⟨(), trivial, by (repeat (first | exact .nil | refine .cons rfl ?_)), by refine SubK.e ?_; (repeat (first | refine gk1 ?_ | refine gk2 ?_ | refine gk3 ?_ | refine gk0 ?_ | refine gk4 ?_)); trivial⟩
  rintro _ _
  try dsimp only
  refine wc_seq ?_
  refine wc_meetK (fun _ : Unit => True) (fun _ => [(1, .slice A l.length c), (4, .pointer (some ⟨bp, 0, none⟩)), (9, .pointer (some ⟨q9, 0, none⟩))]) (fun _ => [blk bp (pcs x p) TP, blk q9 (pcs y1 nr) TP, osl TI vi y1.A y1.c nr.start, osl TI vi y1.B y1.d nr.cols]) ?_ ?_
  · by_cases ho : IsOrd ord p.rows
    · by_cases hr : 0 < p.rows
      · have i64 := i64' ((p.rows - 1) / 2)
        have i65 := i65' ((p.rows - 1) / 2)
        have cP' := cP ((p.rows - 1) / 2) ho
        have cQ4 := cQ ((p.rows - 1) / 2) 4
        have cQ5 := cQ ((p.rows - 1) / 2) 5
        generalize partP 4 p ord ((p.rows - 1) / 2) = qp at *
        generalize ckA 4 qp l = q4 at *
        generalize ckA 5 qp l = q5 at *
        refine gg ?_
        refine gc1 (fun w hst => isOrder_c w (oB.now hst) r0 r1 true (by simp [ho])) (by exact rfl) ?_
        refine gg ?_
        refine wl_v rfl rfl rfl (val_quo rfl rfl rfl (by omega) (by omega) (by omega)) ?_
        refine gc3 [] (fun w hst hst1 => cP' w (op.now hst) (oB.now hst)) (by exact rfl) ?_
        (repeat (first | refine gk1 ?_ | refine gk2 ?_ | refine gk3 ?_ | refine gk0 ?_ | refine gk4 ?_))
        rintro y3 _
        dsimp only [List.cons_append, List.nil_append]
        refine wl_op (ok_alloc rfl rfl rfl rfl (ze_of rfl) ?_); intro q22
        refine gg ?_
        by_cases h4 : st = 0
        · have h5 := i1 h4
          have e4 := i64 h4
          have e5 := i65 h5
          subst h4 h5 e4 e5
          refine gg ?_
          refine gc1 (fun w hst => cQ4 y3 w (grdP hst) (oA.now hst)) (by exact rfl) ?_
          refine gg ?_
          refine gc1 (fun w hst => cQ5 y3 w (grdP hst) (oA.now hst)) (by exact rfl) ?_
          refine gg ?_
          exact ⟨(), trivial, by (repeat (first | exact .nil | refine .cons rfl ?_)), by refine SubK.e ?_; (repeat (first | refine gk1 ?_ | refine gk2 ?_ | refine gk3 ?_ | refine gk0 ?_ | refine gk4 ?_)); trivial⟩
        · by_cases h5 : ac = 0
          · have e5 := i65 h5
            subst h5 e5
            refine gg ?_
            refine gc1 (fun w hst => cQ5 y3 w (grdP hst) (oA.now hst)) (by exact rfl) ?_
            refine gg ?_
            exact ⟨(), trivial, by (repeat (first | exact .nil | refine .cons rfl ?_)), by refine SubK.e ?_; (repeat (first | refine gk1 ?_ | refine gk2 ?_ | refine gk3 ?_ | refine gk0 ?_ | refine gk4 ?_)); trivial⟩
          · refine gg ?_
            exact ⟨(), trivial, by (repeat (first | exact .nil | refine .cons rfl ?_)), by refine SubK.e ?_; (repeat (first | refine gk1 ?_ | refine gk2 ?_ | refine gk3 ?_ | refine gk0 ?_ | refine gk4 ?_)); trivial⟩
      · refine gg ?_
        refine gc1 (fun w hst => isOrder_c w (oB.now hst) r0 r1 true (by simp [ho])) (by exact rfl) ?_
        refine gg ?_
        exact ⟨(), trivial, by (repeat (first | exact .nil | refine .cons rfl ?_)), by refine SubK.e ?_; (repeat (first | refine gk1 ?_ | refine gk2 ?_ | refine gk3 ?_ | refine gk0 ?_ | refine gk4 ?_)); trivial⟩
    · refine gg ?_
      refine gc1 (fun w hst => isOrder_c w (oB.now hst) r0 r1 false (by simp [ho])) (by exact rfl) ?_
      refine gg ?_
      exact ⟨(), trivial, by (repeat (first | exact .nil | refine .cons rfl ?_)), by refine SubK.e ?_; (repeat (first | refine gk1 ?_ | refine gk2 ?_ | refine gk3 ?_ | refine gk0 ?_ | refine gk4 ?_)); trivial⟩
  rintro _ _
  try dsimp only
  by_cases h8 : 8 < p.rows
  · rw [if_pos h8] at cL1 cL4 cL5 cLn
    refine gg ?_
    refine gc3 [] (fun w hst hst1 => cL1 w (op.now hst)) (by exact rfl) ?_
    (repeat (first | refine gk1 ?_ | refine gk2 ?_ | refine gk3 ?_ | refine gk0 ?_ | refine gk4 ?_))
    rintro k1 _
    dsimp only [List.cons_append, List.nil_append]
    refine gg ?_
    refine gc3 [] (fun w hst hst1 => cL5 w (op.now hst)) (by exact rfl) ?_
    (repeat (first | refine gk1 ?_ | refine gk2 ?_ | refine gk3 ?_ | refine gk0 ?_ | refine gk4 ?_))
    rintro k5 _
    dsimp only [List.cons_append, List.nil_append]
    refine gg ?_
    refine gc3 [] (fun w hst hst1 => cL4 w (op.now hst)) (by exact rfl) ?_
    (repeat (first | refine gk1 ?_ | refine gk2 ?_ | refine gk3 ?_ | refine gk0 ?_ | refine gk4 ?_))
    rintro k4 _
    dsimp only [List.cons_append, List.nil_append]
    refine gg ?_
    refine gc3 [] (fun w hst hst1 => cLn y1 w (grdP hst)) (by exact rfl) ?_
    (repeat (first | refine gk1 ?_ | refine gk2 ?_ | refine gk3 ?_ | refine gk0 ?_ | refine gk4 ?_))
    rintro kn _
    dsimp only [List.cons_append, List.nil_append]
    refine gg ?_
    refine gc1 (fun w hst => num_c _ w) (by exact rfl) ?_
    refine gg ?_
    refine gc1 (fun w hst => num_c _ w) (by exact rfl) ?_
    refine gg ?_
    refine gc1 (fun w hst => num_c _ w) (by exact rfl) ?_
    refine gg ?_
    refine gc1 (fun w hst => num_c _ w) (by exact rfl) ?_
    refine gg ?_
    exact grt () trivial
  · rw [if_neg h8] at cL1 cL4 cL5 cLn
    refine gg ?_
    refine gc3 [] (fun w hst hst1 => cL1 w (op.now hst)) (by exact rfl) ?_
    (repeat (first | refine gk1 ?_ | refine gk2 ?_ | refine gk3 ?_ | refine gk0 ?_ | refine gk4 ?_))
    rintro k1 ⟨z1, _⟩
    dsimp only [List.cons_append, List.nil_append]
    refine gg ?_
    refine gc3 [] (fun w hst hst1 => cL5 w (op.now hst)) (by exact rfl) ?_
    (repeat (first | refine gk1 ?_ | refine gk2 ?_ | refine gk3 ?_ | refine gk0 ?_ | refine gk4 ?_))
    rintro k5 ⟨z5, _⟩
    dsimp only [List.cons_append, List.nil_append]
    refine gg ?_
    refine gc3 [] (fun w hst hst1 => cL4 w (op.now hst)) (by exact rfl) ?_
    (repeat (first | refine gk1 ?_ | refine gk2 ?_ | refine gk3 ?_ | refine gk0 ?_ | refine gk4 ?_))
    rintro k4 ⟨z4, _⟩
    dsimp only [List.cons_append, List.nil_append]
    refine gg ?_
    refine gc3 [] (fun w hst hst1 => cLn y1 w (grdP hst)) (by exact rfl) ?_
    (repeat (first | refine gk1 ?_ | refine gk2 ?_ | refine gk3 ?_ | refine gk0 ?_ | refine gk4 ?_))
    rintro kn ⟨zn, _⟩
    dsimp only [List.cons_append, List.nil_append]
    have m1 := j1 _ _ (z1 rfl) (z5 rfl)
    have m2 := j2 _ _ (z5 rfl) (z4 rfl)
    have m3 := j3 _ _ (z4 rfl) (zn rfl)
    refine gg ?_
    refine gc1 (fun w hst => num_c _ w) (by exact rfl) ?_
    refine gg ?_
    refine gc1 (fun w hst => num_c _ w) (by exact rfl) ?_
    refine gg ?_
    refine gc1 (fun w hst => num_c _ w) (by exact rfl) ?_
    refine gg ?_
    refine gc1 (fun w hst => num_c _ w) (by exact rfl) ?_
    refine gg ?_
    exact grt () trivial
theorem lawColourKinds_c (w : World) (hp : RdP w x p) (hA : Rds vi w A c l) (hB : Rds vi w B d ord) (hl3 : l.length ≤ 17592186043904) :
    Calls Try.prog 11 [pvl x p, .slice A l.length c, .slice B ord.length d, vi s].toArray w (one (.bool true) w) := by
  by_cases hg : IsGr p
  · exact kinds_c w hp hA hB hl3 hg
  · exact kindsE_c w hp hA hl3 hg
end
end Go.Proofs.Ytoiiellaoikojaa
