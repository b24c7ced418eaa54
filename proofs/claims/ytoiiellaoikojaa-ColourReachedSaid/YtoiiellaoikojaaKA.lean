/- Small arrays; slices with three places; many read-only pieces as one. Walks: colours: orders, numbers. Walks: colours: what is coloured. -/
import Derived.Test.YtoiiellaoikojaaFA
import Derived.Test.YtoiiellaoikojaaF5
import Derived.Test.YtoiiellaoikojaaT26
set_option linter.unusedVariables false
set_option linter.unusedSimpArgs false
set_option maxHeartbeats 8000000
namespace Go.Proofs.Ytoiiellaoikojaa
open Go.RowKit
theorem nth_map {α : Type} [Inhabited α] {f : α → Value} {xs : List α} {i : Int} (h0 : 0 ≤ i) (h1 : i < xs.length) : nth (xs.map f) i.toNat = some (f (gt xs i)) := by
  rw [nth_get, List.getElem?_map, List.getElem?_eq_getElem (by omega), gt_elem h0 (by omega)]
  rfl
theorem splice_map {α : Type} {f : α → Value} {xs : List α} {k : Nat} {v : α} (h : k < xs.length) : splice (xs.map f) k [f v] = (xs.set k v).map f := by
  unfold splice
  rw [← List.map_take, List.set_eq_take_append_cons_drop, if_pos h, List.map_append, List.map_cons, ← List.map_drop]
  simp
section
variable {P : Program} {n : Nat} {w0 : World} {D : List Nat} {Γ : Tm} {σ : List Res} {o : Oper}
theorem val_arr {t e : TypeId} {m : Nat} {x y : Operand} {b : Nat} {i : Int} {k : IntKind} (hop : o.op = .indexAddr t x y) (hx : ev Γ x = some (.pointer (some ⟨b, 0, none⟩))) (hy : ev Γ y = some (.int k i)) (ht : P.underlying t = some (.array m e)) (hs : size? P e = some 1)
    (h0 : 0 ≤ i) (h1 : i < m) : ValOK P w0 D σ Γ o (.pointer (some ⟨b, i.toNat, none⟩)) := by
  refine ⟨fun w hst g hg => ?_⟩
  have e : (⟨b, 0, none⟩ : Addr).add i.toNat = ⟨b, i.toNat, none⟩ := by
    unfold Addr.add
    by_cases hi : i.toNat = 0 <;> simp [hi]
  simp [execOp, hop, hg _ _ hx, hg _ _ hy, Instr.indexAt, run_underlying ht, asIntOf, h0, h1, run_sizeOf' hs, Result.andThen, e, Instr.sureAddr]
theorem run_sub3 {α : Type} {f : α → Value} {w : World} {A : Option Addr} {c : Nat} {xs : List α} {t e : TypeId} (h : Rds f w A c xs) (ht : elem? P t = some e) (hs : size? P e = some 1) {lo hi : Int} (h0 : 0 ≤ lo) (h1 : lo ≤ hi) (h2 : hi ≤ xs.length) :
    (Instr.sliceAt t (.slice A xs.length c) (some (.int .i64 lo)) (some (.int .i64 hi)) (some (.int .i64 hi))).run P w = .ok (.slice (if hi.toNat = lo.toNat then A else A.map (·.add lo.toNat)) (hi.toNat - lo.toNat) (hi.toNat - lo.toNat)) w := by
  have hu := elem?_spec ht
  have hlc := h.1
  have hc : (hi : Int) ≤ c := by omega
  have e1 : 0 ≤ hi ∧ hi ≤ (c : Int) := by omega
  have e2 : 0 ≤ lo ∧ lo ≤ (hi.toNat : Int) := by omega
  have e3 : lo ≤ max hi 0 := by omega
  have e4 : 0 ≤ hi := by omega
  have e5 : hi ≤ max hi 0 := by omega
  simp [Instr.sliceAt, Instr.slice, run_underlying hu, Instr.sliceBounds, Instr.sliceBound, asIntOf, e1, e2, e3, e4, e5, h0, run_sizeOf' hs, Result.andThen]
end
/-- a row of a pattern's places as a slice -/
def rowA (B : Option Addr) (lo hi : Int) : Option Addr := if hi.toNat = lo.toNat then B else B.map (·.add lo.toNat)
theorem row_rd {w : World} {B : Option Addr} {d : Nat} {xs : List Int} {lo hi : Int} (h : Rds vi w B d xs) (h0 : 0 ≤ lo) (h1 : lo ≤ hi) (h2 : hi ≤ xs.length) : Rds vi w (rowA B lo hi) (hi.toNat - lo.toNat) (sub xs lo hi) := by
  have hsl := sub_length xs h0 h1 h2
  refine ⟨by omega, by have := h.1; have := h.2.1; omega, fun hn => ?_⟩
  rw [hsl] at hn
  obtain ⟨ad, rfl, hc⟩ := h.2.2 (by omega)
  unfold rowA
  rw [if_neg (by omega)]
  refine ⟨_, rfl, fun j hj => ?_⟩
  rw [hsl] at hj
  have e3 : (ad.add lo.toNat).add j = ad.add (lo.toNat + j) := by
    unfold Addr.add
    by_cases hi : lo.toNat = 0 <;> by_cases hj : j = 0 <;> simp [hi, hj, Nat.add_assoc]
  rw [e3, hc (lo.toNat + j) (by omega)]
  simp [sub]
/-- a pattern reads so as long as the pieces R stand -/
def RdB (w0 : World) (D : List Nat) (R : List Res) (x : PA) (p : Pat) : Prop := ∀ w, Only D w0 w → (bun R).ok w → RdP w x p
section
variable {w0 w : World} {D : List Nat} {R σ : List Res} {x : PA} {p : Pat}
theorem RdB.now (h : RdB w0 D R x p) (hst : St w0 D σ w) (hb : HasR σ (bun R) := by (repeat (first | exact .here | refine .there ?_)) <;> fail) : RdP w x p := h w hst.only (hb.st hst)
theorem only_later {w' : World} (hst : St w0 D σ w) (ho : Only (σ.flatMap Res.fp) w w') : Only D w0 w' := by
  have h := hst.only
  refine ⟨ho.os.trans h.os, ho.tape.trans h.tape, ho.output.trans h.output, Nat.le_trans h.size ho.size, fun b hb hD => ?_⟩
  refine (ho.block b (Nat.lt_of_lt_of_le hb h.size) (fun hm => ?_)).trans (h.block b hb hD)
  obtain ⟨r, hr, hbr⟩ := List.mem_flatMap.1 hm
  rcases hst.new r hr b hbr with h1 | h1
  · exact hD h1
  · omega
theorem RdB.later (h : RdB w0 D R x p) (hst : St w0 D σ w) : RdB w (σ.flatMap Res.fp) R x p := fun w' ho hok => h w' (only_later hst ho) hok
theorem RdB.nil (h : RdPO w0 D x p) : RdB w0 D [] x p := fun w ho _ => ⟨h.s w ho, h.c w ho⟩
theorem RdB.own : RdB w0 D (PatR x p) x p := fun w ho hok => ⟨osl_reads (hok (osl TI vi x.A x.c p.start) (by simp)), osl_reads (hok (osl TI vi x.B x.d p.cols) (by simp))⟩
end
abbrev TA128 : TypeId := 186
theorem arr128 : Try.prog.underlying TA128 = some (.array 128 TB) := by kernel_rfl
structure OcX where
  k : Int
  on : List Bool
/-- which have come so far -/
structure OcI (l : List Int) (n k : Int) (on : List Bool) : Prop where
  len : on.length = 128
  rng : ∀ i, 0 ≤ i → i < k → 0 ≤ gt l i ∧ gt l i < n
  inj : ∀ i j, 0 ≤ i → i < k → 0 ≤ j → j < k → gt l i = gt l j → i = j
  on : ∀ x : Int, 0 ≤ x → x < n → (gt on x = true ↔ ∃ i, 0 ≤ i ∧ i < k ∧ gt l i = x)
section
variable {A : Option Addr} {c : Nat} {l : List Int} {n : Int}
theorem OcI.next {k : Int} {on : List Bool} (h : OcI l n k on) (hn : n ≤ 128) (k0 : 0 ≤ k) (h0 : 0 ≤ gt l k) (h1 : gt l k < n) (hf : gt on (gt l k) = false) : OcI l n (k + 1) (on.set (gt l k).toNat true) := by
  have hl := h.len
  have no : ∀ i, 0 ≤ i → i < k → gt l i ≠ gt l k := fun i i0 i1 e => by
    have := (h.on (gt l k) h0 h1).2 ⟨i, i0, i1, e⟩
    rw [hf] at this; cases this
  refine ⟨by rw [List.length_set]; exact hl, fun i i0 i1 => ?_, fun i j i0 i1 j0 j1 e => ?_, fun x x0 x1 => ?_⟩
  · by_cases e : i = k
    · rw [e]; exact ⟨h0, h1⟩
    · exact h.rng i i0 (by omega)
  · by_cases e1 : i = k
    · by_cases e2 : j = k
      · rw [e1, e2]
      · rw [e1] at e; exact (no j j0 (by omega) e.symm).elim
    · by_cases e2 : j = k
      · rw [e2] at e; exact (no i i0 (by omega) e).elim
      · exact h.inj i j i0 (by omega) j0 (by omega) e
  · rw [gt_set h0 (by omega) x0]
    by_cases e : x = gt l k
    · rw [if_pos e]
      exact ⟨fun _ => ⟨k, k0, by omega, e.symm⟩, fun _ => rfl⟩
    · rw [if_neg e, h.on x x0 x1]
      exact ⟨fun ⟨i, i0, i1, h⟩ => ⟨i, i0, by omega, h⟩, fun ⟨i, i0, i1, h⟩ => ⟨i, i0, by
        by_cases e2 : i = k
        · rw [e2] at h; exact (e h.symm).elim
        · omega, h⟩⟩
theorem ordCheck_c (w : World) (hA : Rds vi w A c l) (h0 : 0 ≤ n) (h1 : n ≤ 128) (e : Int) (he : (IsOrd l n → e = 0) ∧ (¬ IsOrd l n → e = 182)) :
    Calls Try.prog 95 [vi n, .slice A l.length c].toArray w (one (vi e) w) := by
  have oA := hA.old
  refine calls_wc [] [] [.tmp 4] (fun _ => [vi e]) Try.func95 rfl rfl (fun _ => rfl) Try.ntmps95 rfl (Own.nil w) rfl ?_
  refine gg ?_
  by_cases hl : (l.length : Int) = n
  · refine gg ?_
    refine wl_op (ok_alloc rfl rfl rfl rfl (ze_of rfl) ?_); intro b
    refine gg ?_
    refine glp (fun y : OcX => 0 ≤ y.k ∧ y.k ≤ n ∧ OcI l n y.k y.on) (fun y => [(0, vi n), (5, .pointer (some ⟨b, 0, none⟩)), (18, .slice A l.length c), (19, vi l.length), (20, vi y.k)])
      (fun y => [blk b (y.on.map vb) TA128]) (fun y => (n - y.k).toNat) ⟨0, List.replicate 128 false⟩ ⟨by simp, h0, by simp, fun i i0 i1 => by dsimp only at i1; omega, fun i j i0 i1 => by dsimp only at i1; omega, fun x x0 x1 => by
        dsimp only
        rw [gt_elem x0 (by simp; omega)]
        simp only [List.getElem_replicate]
        exact ⟨fun h => (by cases h), fun ⟨i, i0, i1, _⟩ => by omega⟩⟩ ?_
    rintro ⟨k, on⟩ ⟨hk0, hk1, hO⟩
    dsimp only at hk0 hk1 hO ⊢
    have hol := hO.len
    by_cases hk : k < n
    · refine gg ?_
      by_cases hr : 0 ≤ gt l k ∧ gt l k < n
      · refine gg ?_
        refine wl_v rfl rfl rfl (val_arr rfl rfl rfl arr128 (sz_of rfl) hr.1 (by omega)) ?_
        refine gl1 (by exact rfl) ?_ (hv := .c (nth_map hr.1 (by omega)))
        cases hb : gt on (gt l k) with
        | true =>
          obtain rfl : e = 182 := he.2 fun ho => by
            obtain ⟨i, i0, i1, h⟩ := (hO.on _ hr.1 hr.2).1 hb
            have := ho.inj i k i0 (by omega) hk0 hk h
            omega
          refine gg ?_
          exact grt () trivial
        | false =>
          refine gg ?_
          refine wl_v rfl rfl rfl (val_arr rfl rfl rfl arr128 (sz_of rfl) hr.1 (by omega)) ?_
          refine gt1 (by exact rfl) ?_ (hv := .c rfl rfl rfl (by rw [List.length_map]; exact Nat.ble_eq_true_of_le (by show (gt l k).toNat + 1 ≤ _; omega)))
          rw [show splice (on.map vb) (gt l k).toNat (Value.bool true).cells.toList = (on.set (gt l k).toNat true).map vb from splice_map (by omega)]
          refine gg ?_
          exact gnx (⟨k + 1, on.set (gt l k).toNat true⟩ : OcX) ⟨by dsimp only; omega, by dsimp only; omega, hO.next h1 hk0 hr.1 hr.2 hb⟩ (by dsimp only; omega)
      · obtain rfl : e = 182 := he.2 fun ho => hr (ho.rng k hk0 hk)
        by_cases h2 : gt l k < 0
        · refine gg ?_
          exact grt () trivial
        · have h3 : n ≤ gt l k := by omega
          refine gg ?_
          exact grt () trivial
    · obtain rfl : k = n := by omega
      obtain rfl : e = 0 := he.1 ⟨hl, hO.rng, hO.inj⟩
      refine gg ?_
      exact grt () trivial
  · obtain rfl : e = 182 := he.2 fun ho => hl ho.len
    refine gg ?_
    exact grt () trivial
end
theorem val_max {P : Program} {w0 : World} {D : List Nat} {Γ : Tm} {σ : List Res} {o : Oper} {x y : Operand} {t1 t2 : TypeId} {k : IntKind} {a b : Int} (hop : o.op = .call { callee := .builtin .max, args := #[x, y], argTypes := #[t1, t2] }) (hx : ev Γ x = some (.int k a)) (hy : ev Γ y = some (.int k b)) : ValOK P w0 D σ Γ o (.int k (max a b)) := by
  refine ⟨fun w hst g hg => ?_⟩
  have e : (if a < b then b else a) = max a b := by
    by_cases h : a < b
    · rw [if_pos h]; omega
    · rw [if_neg h]; omega
  simp [execOp, hop, resolve, invoke, builtin, hg _ _ hx, hg _ _ hy, Builtin.max_, Builtin.max2, Result.andThen, e]
def numS (l : List Int) : Int := l.foldl (fun n c => max n (c + 1)) 0
theorem numS_snoc (l : List Int) (c : Int) : numS (l ++ [c]) = max (numS l) (c + 1) := by unfold numS; rw [List.foldl_append]; rfl
theorem numS_rng : ∀ (l : List Int) {m : Int}, (∀ c ∈ l, -1 ≤ c ∧ c < m) → 0 ≤ m → 0 ≤ numS l ∧ numS l ≤ m := by
  intro l
  have : ∀ (l : List Int) (a m : Int), (∀ c ∈ l, -1 ≤ c ∧ c < m) → 0 ≤ a → a ≤ m → 0 ≤ l.foldl (fun n c => max n (c + 1)) a ∧ l.foldl (fun n c => max n (c + 1)) a ≤ m := by
    intro l
    induction l with
    | nil => intro a m _ h0 h1; exact ⟨h0, h1⟩
    | cons c l ih =>
      intro a m h h0 h1
      have hc := h c (by simp)
      exact ih (max a (c + 1)) m (fun d hd => h d (by simp [hd])) (by omega) (by omega)
  intro m h h0
  exact this l 0 m h (Int.le_refl _) h0
theorem number_c {A : Option Addr} {c : Nat} {l : List Int} (w : World) (hA : Rds vi w A c l) (hr : ∀ c ∈ l, -1 ≤ c ∧ c < 100000) (hl : l.length ≤ 100000) :
    Calls Try.prog 63 [.slice A l.length c].toArray w (one (vi (numS l)) w) := by
  have oA := hA.old
  refine calls_wc [] [] [.tmp 2] (fun _ => [vi (numS l)]) Try.func63 rfl rfl (fun _ => rfl) Try.ntmps63 rfl (Own.nil w) rfl ?_
  refine gg ?_
  refine glp (fun k : Int => 0 ≤ k ∧ k ≤ l.length) (fun k => [(3, vi (numS (l.take k.toNat))), (6, .slice A l.length c), (7, vi l.length), (8, vi k)]) (fun _ => []) (fun k => (l.length - k).toNat) 0 ⟨by omega, by omega⟩ ?_
  rintro k ⟨hk0, hk1⟩
  by_cases hk : k < l.length
  · have hmem := gt_mem (xs := l) hk0 hk
    have hc := hr _ hmem
    have hn := numS_rng (l.take k.toNat) (m := 100000) (fun c hc => hr c (List.mem_of_mem_take hc)) (by omega)
    have e : l.take (k + 1).toNat = l.take k.toNat ++ [gt l k] := by
      rw [show (k + 1).toNat = k.toNat + 1 by omega, List.take_add_one, List.getElem?_eq_getElem (by omega), gt_elem hk0 (by omega)]
      rfl
    refine gg ?_
    refine wl_v rfl rfl rfl (val_max rfl rfl rfl) ?_
    refine gg ?_
    rw [← numS_snoc, ← e]
    exact gnx (k + 1) ⟨by omega, by omega⟩ (by omega)
  · obtain rfl : k = l.length := by omega
    rw [Int.toNat_natCast, List.take_of_length_le (Nat.le_refl _)]
    refine gg ?_
    exact grt () trivial
abbrev TTh : TypeId := 105
section
variable {P : Program} {n : Nat} {w0 : World} {D : List Nat} {Γ : Tm} {σ : List Res} {ops : Array Oper} {os : List Oper} {Q : QQ} {o : Oper}
theorem val_slice3 {α : Type} {f : α → Value} {A : Option Addr} {c : Nat} {xs : List α} {t e : TypeId} {x l h m : Operand} {lo hi : Int} (hop : o.op = .slice t x (some l) (some h) (some m)) (hx : ev Γ x = some (.slice A xs.length c)) (hl : ev Γ l = some (.int .i64 lo)) (hh : ev Γ h = some (.int .i64 hi)) (hm : ev Γ m = some (.int .i64 hi))
    (hr : ∀ w, St w0 D σ w → Rds f w A c xs) (ht : elem? P t = some e) (hs : size? P e = some 1) (h0 : 0 ≤ lo) (h1 : lo ≤ hi) (h2 : hi ≤ xs.length) :
    ValOK P w0 D σ Γ o (sv (rowA A lo hi, hi.toNat - lo.toNat, hi.toNat - lo.toNat)) := by
  refine ⟨fun w hst g hg => ?_⟩
  have := run_sub3 (P := P) (hr w hst) ht hs h0 h1 h2
  unfold sv rowA
  simp [execOp, hop, hg _ _ hx, hg _ _ hl, hg _ _ hh, hg _ _ hm, this]
theorem wc_bun {c : Code} (l : List Res) (h : SubK l σ (fun σ' => WC P n w0 D c Q Γ (bun l :: σ'))) : WC P n w0 D c Q Γ σ := by
  obtain ⟨rest, hp, h⟩ := h
  exact .mk fun a w hs hst => h.run a w hs (bun_in (hst.perm hp))
end
def rowV (y : PA) (g : Pat) (v : Int) : SV := (rowA y.B (gt g.start v) (gt g.start (v + 1)), (gt g.start (v + 1)).toNat - (gt g.start v).toNat, (gt g.start (v + 1)).toNat - (gt g.start v).toNat)
def nearTo (y : PA) (g : Pat) (k : Int) : List SV := (List.range k.toNat).map fun v : Nat => rowV y g v
theorem nearTo_len (y : PA) (g : Pat) {k : Int} (h : 0 ≤ k) : ((nearTo y g k).length : Int) = k := by simp [nearTo]; omega
theorem nearTo_next (y : PA) (g : Pat) {k : Int} (h : 0 ≤ k) : nearTo y g (k + 1) = nearTo y g k ++ [rowV y g k] := by
  unfold nearTo
  rw [show (k + 1).toNat = k.toNat + 1 by omega, List.range_succ, List.map_append]
  simp only [List.map_cons, List.map_nil]
  rw [show ((k.toNat : Nat) : Int) = k by omega]
theorem nearTo_at (y : PA) (g : Pat) {k v : Int} (h0 : 0 ≤ v) (h1 : v < k) : gt (nearTo y g k) v = rowV y g v := by
  unfold nearTo
  rw [gt_elem h0 (by simp; omega)]
  simp only [List.getElem_map, List.getElem_range]
  rw [show ((v.toNat : Nat) : Int) = v by omega]
abbrev thC (n : Int) (NA : Option Addr) (l nc : Nat) (k : Int) : List Value := [vi n, .slice NA l nc, vi k]
structure TX where
  tb : Nat
  A : Option Addr
  c : Nat
  y : PA
structure TkX where
  k : Int
  A : Option Addr
  c : Nat
open Classical in
noncomputable def gr (k : Int) (p : Pat) : Pat := if k = 2 then (colsS p).1 else if k = 3 then (rowsS p).1 else p
section
variable {p : Pat} {x : PA} {k : Int}
theorem ofGraph_c (b : Bool) (hb : b = true ↔ k ≠ 2 ∧ k ≠ 3) (w : World) : Calls Try.prog 101 [vi k].toArray w (one (.bool b) w) := by
  refine calls_wc [] [] [.tmp 2] (fun _ => [.bool b]) Try.func101 rfl rfl (fun _ => rfl) Try.ntmps101 rfl (Own.nil w) rfl ?_
  refine gg ?_
  by_cases h2 : k = 2
  · obtain rfl : b = false := by
      cases b with
      | false => rfl
      | true => exact ((hb.1 rfl).1 h2).elim
    refine gg ?_
    exact grt () trivial
  · by_cases h3 : k = 3
    · obtain rfl : b = false := by
        cases b with
        | false => rfl
        | true => exact ((hb.1 rfl).2 h3).elim
      refine gg ?_
      exact grt () trivial
    · obtain rfl : b = true := hb.2 ⟨h2, h3⟩
      refine gg ?_
      exact grt () trivial
theorem isKind_c (b : Bool) (hb : b = true ↔ 1 ≤ k ∧ k ≤ 5) (w : World) : Calls Try.prog 100 [vi k].toArray w (one (.bool b) w) := by
  refine calls_wc [] [] [.tmp 2] (fun _ => [.bool b]) Try.func100 rfl rfl (fun _ => rfl) Try.ntmps100 rfl (Own.nil w) rfl ?_
  refine gg ?_
  by_cases h2 : 1 ≤ k
  · by_cases h3 : k ≤ 5
    · obtain rfl : b = true := hb.2 ⟨h2, h3⟩
      refine gg ?_
      exact grt () trivial
    · obtain rfl : b = false := by
        cases b with
        | false => rfl
        | true => exact (h3 (hb.1 rfl).2).elim
      refine gg ?_
      exact grt () trivial
  · obtain rfl : b = false := by
      cases b with
      | false => rfl
      | true => exact (h2 (hb.1 rfl).1).elim
    refine gg ?_
    exact grt () trivial
/-- what is coloured of a pattern: a graph of its own, or that of its lines -/
theorem takenG_c (w : World) (hp : RdP w x p) (hm : May p) (hg : IsGr p) (hk : k = 1 ∨ k = 4 ∨ k = 5) :
    Calls Try.prog 67 [vi k, pvl x p].toArray w (Ret [] (fun t : TX => .tuple #[.pointer (some ⟨t.tb, 0, none⟩), vi 0]) (fun t => [blk t.tb (thC p.rows t.A (nearTo x p p.rows).length t.c k) TTh, osl TIs sv t.A t.c (nearTo x p p.rows)]) (fun t => True) w) := by
  have op := hp.old
  have os := op.s
  have oc := op.c
  have HG := hm.toHead
  obtain ⟨g1, g2, h3, h4, h5, h6, h7, h8⟩ := hm.toHead
  have hsm := hm.small
  have k1 : 1 ≤ k ∧ k ≤ 5 := by omega
  have k2 : k ≠ 2 := by omega
  have k3 : k ≠ 3 := by omega
  unfold pvl patV
  refine calls_wc [] [] [.tmp 4, .tmp 5] (fun t : TX => [.pointer (some ⟨t.tb, 0, none⟩), vi 0]) Try.func67 rfl rfl (fun _ => rfl) Try.ntmps67 rfl (Own.nil w) rfl ?_
  refine gg ?_
  refine wl_op (ok_box rfl rfl rfl rfl rfl ?_); intro bp
  refine gg ?_
  refine gc1 (fun w hst => may_t (op.s.now hst) (op.c.now hst) hm) (by exact rfl) ?_
  refine gg ?_
  refine gc1 (fun w hst => isKind_c (k := k) true (by simp [k1]) w) (by exact rfl) ?_
  refine gg ?_
  refine gc1 (fun w hst => ofGraph_c (k := k) true (by simp [k2, k3]) w) (by exact rfl) ?_
  refine gg ?_
  refine gc1 (fun w hst => isGraph_c (p := p) (x := x) w (op.now hst) true (by simp [hg])) (by exact rfl) ?_
  refine gg ?_
  refine wl_op (ok_alloc rfl rfl rfl rfl (ze_of rfl) ?_); intro q6
  refine gg ?_
  refine wl_none TIs sv ?_
  refine wl_v rfl rfl rfl (val_build (ps := [(0, vi p.rows), (2, vi k)]) (cells := thC p.rows none 0 0 k) rfl rfl (by kernel_rfl)) ?_
  refine wl_op (ok_box rfl rfl rfl rfl rfl ?_); intro tb
  refine gg ?_
  refine glp (fun s : TkX => 0 ≤ s.k ∧ s.k ≤ p.rows) (fun s => [(6, .pointer (some ⟨q6, 0, none⟩)), (7, .pointer (some ⟨tb, 0, none⟩)), (47, vi p.rows), (48, vi s.k)])
    (fun s => [blk tb (thC p.rows s.A (nearTo x p s.k).length s.c k) TTh, osl TIs sv s.A s.c (nearTo x p s.k), blk q6 (pcs x p) TP]) (fun s => (p.rows - s.k).toNat) ⟨0, none, 0⟩ ⟨by simp, g1⟩ ?_
  rintro ⟨v, NA, nc⟩ ⟨hv0, hv1⟩
  dsimp only at hv0 hv1 ⊢
  have hnl := nearTo_len x p hv0
  by_cases hv : v < p.rows
  · have e1 := HG.lo hv0 (by omega)
    have e2 := HG.hi (r := v + 1) (by omega) (by omega)
    have e3 := HG.step hv0 hv
    refine gg ?_
    refine gwa [blk tb (thC p.rows NA (nearTo x p v).length nc k) TTh, osl TIs sv NA nc (nearTo x p v)] ?_
    (repeat (first | refine gk1 ?_ | refine gk2 ?_ | refine gk3 ?_ | refine gk0 ?_ | refine gk4 ?_))
    dsimp only [List.cons_append, List.nil_append]
    (first | refine ga1 0 (by exact rfl) (by exact rfl) ?_ | refine ga2 0 (by exact rfl) (by exact rfl) ?_ | refine ga3 0 (by exact rfl) (by exact rfl) ?_ | refine ga4 0 (by exact rfl) (by exact rfl) ?_)
    (first | refine ga1 1 (by exact rfl) (by exact rfl) ?_ | refine ga2 1 (by exact rfl) (by exact rfl) ?_ | refine ga3 1 (by exact rfl) (by exact rfl) ?_ | refine ga4 1 (by exact rfl) (by exact rfl) ?_)
    (first | refine ga1 2 (by exact rfl) (by exact rfl) ?_ | refine ga2 2 (by exact rfl) (by exact rfl) ?_ | refine ga3 2 (by exact rfl) (by exact rfl) ?_ | refine ga4 2 (by exact rfl) (by exact rfl) ?_)
    (first | refine ga1 3 (by exact rfl) (by exact rfl) ?_ | refine ga2 3 (by exact rfl) (by exact rfl) ?_ | refine ga3 3 (by exact rfl) (by exact rfl) ?_ | refine ga4 3 (by exact rfl) (by exact rfl) ?_)
    (first | refine ga1 5 (by exact rfl) (by exact rfl) ?_ | refine ga2 5 (by exact rfl) (by exact rfl) ?_ | refine ga3 5 (by exact rfl) (by exact rfl) ?_ | refine ga4 5 (by exact rfl) (by exact rfl) ?_)
    (first | refine ga1 6 (by exact rfl) (by exact rfl) ?_ | refine ga2 6 (by exact rfl) (by exact rfl) ?_ | refine ga3 6 (by exact rfl) (by exact rfl) ?_ | refine ga4 6 (by exact rfl) (by exact rfl) ?_)
    (first | refine ga1 7 (by exact rfl) (by exact rfl) ?_ | refine ga2 7 (by exact rfl) (by exact rfl) ?_ | refine ga3 7 (by exact rfl) (by exact rfl) ?_ | refine ga4 7 (by exact rfl) (by exact rfl) ?_)
    (first | refine ga1 8 (by exact rfl) (by exact rfl) ?_ | refine ga2 8 (by exact rfl) (by exact rfl) ?_ | refine ga3 8 (by exact rfl) (by exact rfl) ?_ | refine ga4 8 (by exact rfl) (by exact rfl) ?_)
    (first | refine ga1 9 (by exact rfl) (by exact rfl) ?_ | refine ga2 9 (by exact rfl) (by exact rfl) ?_ | refine ga3 9 (by exact rfl) (by exact rfl) ?_ | refine ga4 9 (by exact rfl) (by exact rfl) ?_)
    (first | refine ga1 10 (by exact rfl) (by exact rfl) ?_ | refine ga2 10 (by exact rfl) (by exact rfl) ?_ | refine ga3 10 (by exact rfl) (by exact rfl) ?_ | refine ga4 10 (by exact rfl) (by exact rfl) ?_)
    (first | refine ga1 11 (by exact rfl) (by exact rfl) ?_ | refine ga2 11 (by exact rfl) (by exact rfl) ?_ | refine ga3 11 (by exact rfl) (by exact rfl) ?_ | refine ga4 11 (by exact rfl) (by exact rfl) ?_)
    (first | refine ga1 12 (by exact rfl) (by exact rfl) ?_ | refine ga2 12 (by exact rfl) (by exact rfl) ?_ | refine ga3 12 (by exact rfl) (by exact rfl) ?_ | refine ga4 12 (by exact rfl) (by exact rfl) ?_)
    (first | refine ga1 13 (by exact rfl) (by exact rfl) ?_ | refine ga2 13 (by exact rfl) (by exact rfl) ?_ | refine ga3 13 (by exact rfl) (by exact rfl) ?_ | refine ga4 13 (by exact rfl) (by exact rfl) ?_)
    (first | refine ga1 14 (by exact rfl) (by exact rfl) ?_ | refine ga2 14 (by exact rfl) (by exact rfl) ?_ | refine ga3 14 (by exact rfl) (by exact rfl) ?_ | refine ga4 14 (by exact rfl) (by exact rfl) ?_)
    (first | refine ga1 15 (by exact rfl) (by exact rfl) ?_ | refine ga2 15 (by exact rfl) (by exact rfl) ?_ | refine ga3 15 (by exact rfl) (by exact rfl) ?_ | refine ga4 15 (by exact rfl) (by exact rfl) ?_)
    (first | refine ga1 16 (by exact rfl) (by exact rfl) ?_ | refine ga2 16 (by exact rfl) (by exact rfl) ?_ | refine ga3 16 (by exact rfl) (by exact rfl) ?_ | refine ga4 16 (by exact rfl) (by exact rfl) ?_)
    (first | refine ga1 17 (by exact rfl) (by exact rfl) ?_ | refine ga2 17 (by exact rfl) (by exact rfl) ?_ | refine ga3 17 (by exact rfl) (by exact rfl) ?_ | refine ga4 17 (by exact rfl) (by exact rfl) ?_)
    (first | refine ga1 18 (by exact rfl) (by exact rfl) ?_ | refine ga2 18 (by exact rfl) (by exact rfl) ?_ | refine ga3 18 (by exact rfl) (by exact rfl) ?_ | refine ga4 18 (by exact rfl) (by exact rfl) ?_)
    (first | refine ga1 19 (by exact rfl) (by exact rfl) ?_ | refine ga2 19 (by exact rfl) (by exact rfl) ?_ | refine ga3 19 (by exact rfl) (by exact rfl) ?_ | refine ga4 19 (by exact rfl) (by exact rfl) ?_)
    (first | refine ga1 20 (by exact rfl) (by exact rfl) ?_ | refine ga2 20 (by exact rfl) (by exact rfl) ?_ | refine ga3 20 (by exact rfl) (by exact rfl) ?_ | refine ga4 20 (by exact rfl) (by exact rfl) ?_)
    (first | refine ga1 21 (by exact rfl) (by exact rfl) ?_ | refine ga2 21 (by exact rfl) (by exact rfl) ?_ | refine ga3 21 (by exact rfl) (by exact rfl) ?_ | refine ga4 21 (by exact rfl) (by exact rfl) ?_)
    (first | refine ga1 22 (by exact rfl) (by exact rfl) ?_ | refine ga2 22 (by exact rfl) (by exact rfl) ?_ | refine ga3 22 (by exact rfl) (by exact rfl) ?_ | refine ga4 22 (by exact rfl) (by exact rfl) ?_)
    (first | refine ga1 23 (by exact rfl) (by exact rfl) ?_ | refine ga2 23 (by exact rfl) (by exact rfl) ?_ | refine ga3 23 (by exact rfl) (by exact rfl) ?_ | refine ga4 23 (by exact rfl) (by exact rfl) ?_)
    refine wa_v 24 [_, _] rfl (by kernel_rfl) rfl rfl rfl rfl (val_slice3 rfl rfl rfl rfl rfl (fun w hst => op.c.now hst) (el_of rfl) (sz_of rfl) e1 e3 e2) ?_
    refine gaAll [4, 25] ?_
    intro j hj
    simp only [List.mem_cons, List.not_mem_nil, or_false] at hj
    rcases hj with rfl | rfl
    · refine ⟨_, rfl, ?_⟩
      refine gl0 (by exact rfl) ?_
      refine ⟨by (repeat (first | exact Suf.refl | exact Suf.nil | exact Suf.app _ _ | apply Suf.cons)), ?_⟩
      refine gaOne 25 rfl ?_
      refine ok_build1 sv (rowV x p v) rfl rfl rfl rfl rfl (el_of rfl) (ze_of rfl) rfl (sz_of rfl) rfl ?_
      intro b2
      refine ⟨by (repeat (first | exact Suf.refl | exact Suf.nil | exact Suf.app _ _ | apply Suf.cons)), ?_⟩
      refine gaOne 26 rfl ?_
      refine ok_append 2 sv (ys := [rowV x p v]) rfl rfl rfl rfl rfl rfl rfl (el_of rfl) (ze_of rfl) rfl (sz_of rfl) (by_of rfl) ⟨_, rfl⟩ (fun w hst => osl_reads (hst.at_ 0 rfl)) (fun _ => rfl) (by simp; omega) (by simp; omega) ?_
      intro A' c'
      refine ⟨by (repeat (first | exact Suf.refl | exact Suf.nil | exact Suf.app _ _ | apply Suf.cons)), ?_⟩
      (first | refine ga1 27 (by exact rfl) (by exact rfl) ?_ | refine ga2 27 (by exact rfl) (by exact rfl) ?_ | refine ga3 27 (by exact rfl) (by exact rfl) ?_ | refine ga4 27 (by exact rfl) (by exact rfl) ?_)
      (first | refine ga1 28 (by exact rfl) (by exact rfl) ?_ | refine ga2 28 (by exact rfl) (by exact rfl) ?_ | refine ga3 28 (by exact rfl) (by exact rfl) ?_ | refine ga4 28 (by exact rfl) (by exact rfl) ?_)
      refine gaOne 29 rfl ?_
      refine gt0 (by exact rfl) ?_
      refine ⟨by (repeat (first | exact Suf.refl | exact Suf.nil | exact Suf.app _ _ | apply Suf.cons)), ?_⟩
      refine gaDone ?_
      rw [← nearTo_next x p hv0]
      refine gg ?_
      exact gnx (⟨v + 1, A', c'⟩ : TkX) ⟨by dsimp only; omega, by dsimp only; omega⟩ (by dsimp only; omega)
    · refine ⟨_, rfl, ?_⟩
      refine ok_build1 sv (rowV x p v) rfl rfl rfl rfl rfl (el_of rfl) (ze_of rfl) rfl (sz_of rfl) rfl ?_
      intro b2
      refine ⟨by (repeat (first | exact Suf.refl | exact Suf.nil | exact Suf.app _ _ | apply Suf.cons)), ?_⟩
      refine gaOne 4 rfl ?_
      refine gl0 (by exact rfl) ?_
      refine ⟨by (repeat (first | exact Suf.refl | exact Suf.nil | exact Suf.app _ _ | apply Suf.cons)), ?_⟩
      refine gaOne 26 rfl ?_
      refine ok_append 2 sv (ys := [rowV x p v]) rfl rfl rfl rfl rfl rfl rfl (el_of rfl) (ze_of rfl) rfl (sz_of rfl) (by_of rfl) ⟨_, rfl⟩ (fun w hst => osl_reads (hst.at_ 0 rfl)) (fun _ => rfl) (by simp; omega) (by simp; omega) ?_
      intro A' c'
      refine ⟨by (repeat (first | exact Suf.refl | exact Suf.nil | exact Suf.app _ _ | apply Suf.cons)), ?_⟩
      (first | refine ga1 27 (by exact rfl) (by exact rfl) ?_ | refine ga2 27 (by exact rfl) (by exact rfl) ?_ | refine ga3 27 (by exact rfl) (by exact rfl) ?_ | refine ga4 27 (by exact rfl) (by exact rfl) ?_)
      (first | refine ga1 28 (by exact rfl) (by exact rfl) ?_ | refine ga2 28 (by exact rfl) (by exact rfl) ?_ | refine ga3 28 (by exact rfl) (by exact rfl) ?_ | refine ga4 28 (by exact rfl) (by exact rfl) ?_)
      refine gaOne 29 rfl ?_
      refine gt0 (by exact rfl) ?_
      refine ⟨by (repeat (first | exact Suf.refl | exact Suf.nil | exact Suf.app _ _ | apply Suf.cons)), ?_⟩
      refine gaDone ?_
      rw [← nearTo_next x p hv0]
      refine gg ?_
      exact gnx (⟨v + 1, A', c'⟩ : TkX) ⟨by dsimp only; omega, by dsimp only; omega⟩ (by dsimp only; omega)
  · obtain rfl : v = p.rows := by omega
    refine gg ?_
    exact grt (⟨tb, NA, nc, x⟩ : TX) trivial
theorem takencols_c (w : World) (hp : RdP w x p) (hm : May p) (hk : k = 2) :
    Calls Try.prog 67 [vi k, pvl x p].toArray w (Ret [] (fun t : TX => .tuple #[.pointer (some ⟨t.tb, 0, none⟩), vi 0]) (fun t => [blk t.tb (thC (colsS p).1.rows t.A (nearTo t.y (colsS p).1 (colsS p).1.rows).length t.c k) TTh, osl TIs sv t.A t.c (nearTo t.y (colsS p).1 (colsS p).1.rows)] ++ PatR t.y (colsS p).1) (fun t => True) w) := by
  have op := hp.old
  obtain ⟨h1, h2, h3, h4, h5, h6, h7, h8⟩ := hm.toHead
  have k1 : 1 ≤ k ∧ k ≤ 5 := by omega
  have hcl : ∀ w, RdP w x p → _ := fun w h => columns_c (p := p) (x := x) w h
  have hmg : May (colsS p).1 := by
    rw [show colsS p = (shutP p.width.toNat p.width (meetC p), 0) from if_pos hm]
    exact shut_may (by omega) (by omega) (by omega) (meetC_within hm)
  generalize colsS p = z at hcl hmg ⊢
  obtain ⟨q, ze⟩ := z
  dsimp only at hcl hmg ⊢
  have HG := hmg.toHead
  obtain ⟨g1, g2, g3, g4, g5, g6, g7, g8⟩ := hmg.toHead
  have hsm := hmg.small
  unfold pvl patV at *
  refine calls_wc [] [] [.tmp 4, .tmp 5] (fun t : TX => [.pointer (some ⟨t.tb, 0, none⟩), vi 0]) Try.func67 rfl rfl (fun _ => rfl) Try.ntmps67 rfl (Own.nil w) rfl ?_
  refine gg ?_
  refine wl_op (ok_box rfl rfl rfl rfl rfl ?_); intro bp
  refine gg ?_
  refine gc1 (fun w hst => may_t (op.s.now hst) (op.c.now hst) hm) (by exact rfl) ?_
  refine gg ?_
  refine gc1 (fun w hst => isKind_c (k := k) true (by simp [k1]) w) (by exact rfl) ?_
  refine gg ?_
  refine gc1 (fun w hst => ofGraph_c (k := k) false (by simp [hk]) w) (by exact rfl) ?_
  refine gg ?_
  refine wl_op (ok_alloc rfl rfl rfl rfl (ze_of rfl) ?_); intro q6
  refine gg ?_
  refine gc3 [] (fun w hst hst1 => hcl w (op.now hst)) (by exact rfl) ?_
  (repeat (first | refine gk1 ?_ | refine gk2 ?_ | refine gk3 ?_ | refine gk0 ?_ | refine gk4 ?_))
  rintro y _
  dsimp only [List.cons_append, List.nil_append]
  refine gg ?_
  refine wl_none TIs sv ?_
  refine wl_v rfl rfl rfl (val_build (ps := [(0, vi q.rows), (2, vi k)]) (cells := thC q.rows none 0 0 k) rfl rfl (by kernel_rfl)) ?_
  refine wl_op (ok_box rfl rfl rfl rfl rfl ?_); intro tb
  refine gg ?_
  refine glp (fun s : TkX => 0 ≤ s.k ∧ s.k ≤ q.rows) (fun s => [(6, .pointer (some ⟨q6, 0, none⟩)), (7, .pointer (some ⟨tb, 0, none⟩)), (47, vi q.rows), (48, vi s.k)])
    (fun s => [blk tb (thC q.rows s.A (nearTo y q s.k).length s.c k) TTh, osl TIs sv s.A s.c (nearTo y q s.k), blk q6 (pcs y q) TP, osl TI vi y.A y.c q.start, osl TI vi y.B y.d q.cols]) (fun s => (q.rows - s.k).toNat) ⟨0, none, 0⟩ ⟨by simp, g1⟩ ?_
  rintro ⟨v, NA, nc⟩ ⟨hv0, hv1⟩
  dsimp only at hv0 hv1 ⊢
  have hnl := nearTo_len y q hv0
  by_cases hv : v < q.rows
  · have e1 := HG.lo hv0 (by omega)
    have e2 := HG.hi (r := v + 1) (by omega) (by omega)
    have e3 := HG.step hv0 hv
    refine gg ?_
    refine gwa [blk tb (thC q.rows NA (nearTo y q v).length nc k) TTh, osl TIs sv NA nc (nearTo y q v)] ?_
    (repeat (first | refine gk1 ?_ | refine gk2 ?_ | refine gk3 ?_ | refine gk0 ?_ | refine gk4 ?_))
    dsimp only [List.cons_append, List.nil_append]
    (first | refine ga1 0 (by exact rfl) (by exact rfl) ?_ | refine ga2 0 (by exact rfl) (by exact rfl) ?_ | refine ga3 0 (by exact rfl) (by exact rfl) ?_ | refine ga4 0 (by exact rfl) (by exact rfl) ?_)
    (first | refine ga1 1 (by exact rfl) (by exact rfl) ?_ | refine ga2 1 (by exact rfl) (by exact rfl) ?_ | refine ga3 1 (by exact rfl) (by exact rfl) ?_ | refine ga4 1 (by exact rfl) (by exact rfl) ?_)
    (first | refine ga1 2 (by exact rfl) (by exact rfl) ?_ | refine ga2 2 (by exact rfl) (by exact rfl) ?_ | refine ga3 2 (by exact rfl) (by exact rfl) ?_ | refine ga4 2 (by exact rfl) (by exact rfl) ?_)
    (first | refine ga1 3 (by exact rfl) (by exact rfl) ?_ | refine ga2 3 (by exact rfl) (by exact rfl) ?_ | refine ga3 3 (by exact rfl) (by exact rfl) ?_ | refine ga4 3 (by exact rfl) (by exact rfl) ?_)
    (first | refine ga1 5 (by exact rfl) (by exact rfl) ?_ | refine ga2 5 (by exact rfl) (by exact rfl) ?_ | refine ga3 5 (by exact rfl) (by exact rfl) ?_ | refine ga4 5 (by exact rfl) (by exact rfl) ?_)
    (first | refine ga1 6 (by exact rfl) (by exact rfl) ?_ | refine ga2 6 (by exact rfl) (by exact rfl) ?_ | refine ga3 6 (by exact rfl) (by exact rfl) ?_ | refine ga4 6 (by exact rfl) (by exact rfl) ?_)
    (first | refine ga1 7 (by exact rfl) (by exact rfl) ?_ | refine ga2 7 (by exact rfl) (by exact rfl) ?_ | refine ga3 7 (by exact rfl) (by exact rfl) ?_ | refine ga4 7 (by exact rfl) (by exact rfl) ?_)
    (first | refine ga1 8 (by exact rfl) (by exact rfl) ?_ | refine ga2 8 (by exact rfl) (by exact rfl) ?_ | refine ga3 8 (by exact rfl) (by exact rfl) ?_ | refine ga4 8 (by exact rfl) (by exact rfl) ?_)
    (first | refine ga1 9 (by exact rfl) (by exact rfl) ?_ | refine ga2 9 (by exact rfl) (by exact rfl) ?_ | refine ga3 9 (by exact rfl) (by exact rfl) ?_ | refine ga4 9 (by exact rfl) (by exact rfl) ?_)
    (first | refine ga1 10 (by exact rfl) (by exact rfl) ?_ | refine ga2 10 (by exact rfl) (by exact rfl) ?_ | refine ga3 10 (by exact rfl) (by exact rfl) ?_ | refine ga4 10 (by exact rfl) (by exact rfl) ?_)
    (first | refine ga1 11 (by exact rfl) (by exact rfl) ?_ | refine ga2 11 (by exact rfl) (by exact rfl) ?_ | refine ga3 11 (by exact rfl) (by exact rfl) ?_ | refine ga4 11 (by exact rfl) (by exact rfl) ?_)
    (first | refine ga1 12 (by exact rfl) (by exact rfl) ?_ | refine ga2 12 (by exact rfl) (by exact rfl) ?_ | refine ga3 12 (by exact rfl) (by exact rfl) ?_ | refine ga4 12 (by exact rfl) (by exact rfl) ?_)
    (first | refine ga1 13 (by exact rfl) (by exact rfl) ?_ | refine ga2 13 (by exact rfl) (by exact rfl) ?_ | refine ga3 13 (by exact rfl) (by exact rfl) ?_ | refine ga4 13 (by exact rfl) (by exact rfl) ?_)
    (first | refine ga1 14 (by exact rfl) (by exact rfl) ?_ | refine ga2 14 (by exact rfl) (by exact rfl) ?_ | refine ga3 14 (by exact rfl) (by exact rfl) ?_ | refine ga4 14 (by exact rfl) (by exact rfl) ?_)
    (first | refine ga1 15 (by exact rfl) (by exact rfl) ?_ | refine ga2 15 (by exact rfl) (by exact rfl) ?_ | refine ga3 15 (by exact rfl) (by exact rfl) ?_ | refine ga4 15 (by exact rfl) (by exact rfl) ?_)
    (first | refine ga1 16 (by exact rfl) (by exact rfl) ?_ | refine ga2 16 (by exact rfl) (by exact rfl) ?_ | refine ga3 16 (by exact rfl) (by exact rfl) ?_ | refine ga4 16 (by exact rfl) (by exact rfl) ?_)
    (first | refine ga1 17 (by exact rfl) (by exact rfl) ?_ | refine ga2 17 (by exact rfl) (by exact rfl) ?_ | refine ga3 17 (by exact rfl) (by exact rfl) ?_ | refine ga4 17 (by exact rfl) (by exact rfl) ?_)
    (first | refine ga1 18 (by exact rfl) (by exact rfl) ?_ | refine ga2 18 (by exact rfl) (by exact rfl) ?_ | refine ga3 18 (by exact rfl) (by exact rfl) ?_ | refine ga4 18 (by exact rfl) (by exact rfl) ?_)
    (first | refine ga1 19 (by exact rfl) (by exact rfl) ?_ | refine ga2 19 (by exact rfl) (by exact rfl) ?_ | refine ga3 19 (by exact rfl) (by exact rfl) ?_ | refine ga4 19 (by exact rfl) (by exact rfl) ?_)
    (first | refine ga1 20 (by exact rfl) (by exact rfl) ?_ | refine ga2 20 (by exact rfl) (by exact rfl) ?_ | refine ga3 20 (by exact rfl) (by exact rfl) ?_ | refine ga4 20 (by exact rfl) (by exact rfl) ?_)
    (first | refine ga1 21 (by exact rfl) (by exact rfl) ?_ | refine ga2 21 (by exact rfl) (by exact rfl) ?_ | refine ga3 21 (by exact rfl) (by exact rfl) ?_ | refine ga4 21 (by exact rfl) (by exact rfl) ?_)
    (first | refine ga1 22 (by exact rfl) (by exact rfl) ?_ | refine ga2 22 (by exact rfl) (by exact rfl) ?_ | refine ga3 22 (by exact rfl) (by exact rfl) ?_ | refine ga4 22 (by exact rfl) (by exact rfl) ?_)
    (first | refine ga1 23 (by exact rfl) (by exact rfl) ?_ | refine ga2 23 (by exact rfl) (by exact rfl) ?_ | refine ga3 23 (by exact rfl) (by exact rfl) ?_ | refine ga4 23 (by exact rfl) (by exact rfl) ?_)
    refine wa_v 24 [_, _] rfl (by kernel_rfl) rfl rfl rfl rfl (val_slice3 rfl rfl rfl rfl rfl (fun w hst => grd hst) (el_of rfl) (sz_of rfl) e1 e3 e2) ?_
    refine gaAll [4, 25] ?_
    intro j hj
    simp only [List.mem_cons, List.not_mem_nil, or_false] at hj
    rcases hj with rfl | rfl
    · refine ⟨_, rfl, ?_⟩
      refine gl0 (by exact rfl) ?_
      refine ⟨by (repeat (first | exact Suf.refl | exact Suf.nil | exact Suf.app _ _ | apply Suf.cons)), ?_⟩
      refine gaOne 25 rfl ?_
      refine ok_build1 sv (rowV y q v) rfl rfl rfl rfl rfl (el_of rfl) (ze_of rfl) rfl (sz_of rfl) rfl ?_
      intro b2
      refine ⟨by (repeat (first | exact Suf.refl | exact Suf.nil | exact Suf.app _ _ | apply Suf.cons)), ?_⟩
      refine gaOne 26 rfl ?_
      refine ok_append 2 sv (ys := [rowV y q v]) rfl rfl rfl rfl rfl rfl rfl (el_of rfl) (ze_of rfl) rfl (sz_of rfl) (by_of rfl) ⟨_, rfl⟩ (fun w hst => osl_reads (hst.at_ 0 rfl)) (fun _ => rfl) (by simp; omega) (by simp; omega) ?_
      intro A' c'
      refine ⟨by (repeat (first | exact Suf.refl | exact Suf.nil | exact Suf.app _ _ | apply Suf.cons)), ?_⟩
      (first | refine ga1 27 (by exact rfl) (by exact rfl) ?_ | refine ga2 27 (by exact rfl) (by exact rfl) ?_ | refine ga3 27 (by exact rfl) (by exact rfl) ?_ | refine ga4 27 (by exact rfl) (by exact rfl) ?_)
      (first | refine ga1 28 (by exact rfl) (by exact rfl) ?_ | refine ga2 28 (by exact rfl) (by exact rfl) ?_ | refine ga3 28 (by exact rfl) (by exact rfl) ?_ | refine ga4 28 (by exact rfl) (by exact rfl) ?_)
      refine gaOne 29 rfl ?_
      refine gt0 (by exact rfl) ?_
      refine ⟨by (repeat (first | exact Suf.refl | exact Suf.nil | exact Suf.app _ _ | apply Suf.cons)), ?_⟩
      refine gaDone ?_
      rw [← nearTo_next y q hv0]
      refine gg ?_
      exact gnx (⟨v + 1, A', c'⟩ : TkX) ⟨by dsimp only; omega, by dsimp only; omega⟩ (by dsimp only; omega)
    · refine ⟨_, rfl, ?_⟩
      refine ok_build1 sv (rowV y q v) rfl rfl rfl rfl rfl (el_of rfl) (ze_of rfl) rfl (sz_of rfl) rfl ?_
      intro b2
      refine ⟨by (repeat (first | exact Suf.refl | exact Suf.nil | exact Suf.app _ _ | apply Suf.cons)), ?_⟩
      refine gaOne 4 rfl ?_
      refine gl0 (by exact rfl) ?_
      refine ⟨by (repeat (first | exact Suf.refl | exact Suf.nil | exact Suf.app _ _ | apply Suf.cons)), ?_⟩
      refine gaOne 26 rfl ?_
      refine ok_append 2 sv (ys := [rowV y q v]) rfl rfl rfl rfl rfl rfl rfl (el_of rfl) (ze_of rfl) rfl (sz_of rfl) (by_of rfl) ⟨_, rfl⟩ (fun w hst => osl_reads (hst.at_ 0 rfl)) (fun _ => rfl) (by simp; omega) (by simp; omega) ?_
      intro A' c'
      refine ⟨by (repeat (first | exact Suf.refl | exact Suf.nil | exact Suf.app _ _ | apply Suf.cons)), ?_⟩
      (first | refine ga1 27 (by exact rfl) (by exact rfl) ?_ | refine ga2 27 (by exact rfl) (by exact rfl) ?_ | refine ga3 27 (by exact rfl) (by exact rfl) ?_ | refine ga4 27 (by exact rfl) (by exact rfl) ?_)
      (first | refine ga1 28 (by exact rfl) (by exact rfl) ?_ | refine ga2 28 (by exact rfl) (by exact rfl) ?_ | refine ga3 28 (by exact rfl) (by exact rfl) ?_ | refine ga4 28 (by exact rfl) (by exact rfl) ?_)
      refine gaOne 29 rfl ?_
      refine gt0 (by exact rfl) ?_
      refine ⟨by (repeat (first | exact Suf.refl | exact Suf.nil | exact Suf.app _ _ | apply Suf.cons)), ?_⟩
      refine gaDone ?_
      rw [← nearTo_next y q hv0]
      refine gg ?_
      exact gnx (⟨v + 1, A', c'⟩ : TkX) ⟨by dsimp only; omega, by dsimp only; omega⟩ (by dsimp only; omega)
  · obtain rfl : v = q.rows := by omega
    refine gg ?_
    exact grt (⟨tb, NA, nc, y⟩ : TX) trivial
theorem takenrows_c (w : World) (hp : RdP w x p) (hm : May p) (hk : k = 3) :
    Calls Try.prog 67 [vi k, pvl x p].toArray w (Ret [] (fun t : TX => .tuple #[.pointer (some ⟨t.tb, 0, none⟩), vi 0]) (fun t => [blk t.tb (thC (rowsS p).1.rows t.A (nearTo t.y (rowsS p).1 (rowsS p).1.rows).length t.c k) TTh, osl TIs sv t.A t.c (nearTo t.y (rowsS p).1 (rowsS p).1.rows)] ++ PatR t.y (rowsS p).1) (fun t => True) w) := by
  have op := hp.old
  obtain ⟨h1, h2, h3, h4, h5, h6, h7, h8⟩ := hm.toHead
  have k1 : 1 ≤ k ∧ k ≤ 5 := by omega
  have hcl : ∀ w, RdP w x p → _ := fun w h => colRows_c (p := p) (x := x) w h
  have hmg : May (rowsS p).1 := by
    rw [show rowsS p = (shutP p.rows.toNat p.rows (meetB p), 0) from if_pos hm]
    exact shut_may (by omega) (by omega) (by omega) (meetB_within hm)
  generalize rowsS p = z at hcl hmg ⊢
  obtain ⟨q, ze⟩ := z
  dsimp only at hcl hmg ⊢
  have HG := hmg.toHead
  obtain ⟨g1, g2, g3, g4, g5, g6, g7, g8⟩ := hmg.toHead
  have hsm := hmg.small
  unfold pvl patV at *
  refine calls_wc [] [] [.tmp 4, .tmp 5] (fun t : TX => [.pointer (some ⟨t.tb, 0, none⟩), vi 0]) Try.func67 rfl rfl (fun _ => rfl) Try.ntmps67 rfl (Own.nil w) rfl ?_
  refine gg ?_
  refine wl_op (ok_box rfl rfl rfl rfl rfl ?_); intro bp
  refine gg ?_
  refine gc1 (fun w hst => may_t (op.s.now hst) (op.c.now hst) hm) (by exact rfl) ?_
  refine gg ?_
  refine gc1 (fun w hst => isKind_c (k := k) true (by simp [k1]) w) (by exact rfl) ?_
  refine gg ?_
  refine gc1 (fun w hst => ofGraph_c (k := k) false (by simp [hk]) w) (by exact rfl) ?_
  refine gg ?_
  refine wl_op (ok_alloc rfl rfl rfl rfl (ze_of rfl) ?_); intro q6
  refine gg ?_
  refine gc3 [] (fun w hst hst1 => hcl w (op.now hst)) (by exact rfl) ?_
  (repeat (first | refine gk1 ?_ | refine gk2 ?_ | refine gk3 ?_ | refine gk0 ?_ | refine gk4 ?_))
  rintro y _
  dsimp only [List.cons_append, List.nil_append]
  refine gg ?_
  refine wl_none TIs sv ?_
  refine wl_v rfl rfl rfl (val_build (ps := [(0, vi q.rows), (2, vi k)]) (cells := thC q.rows none 0 0 k) rfl rfl (by kernel_rfl)) ?_
  refine wl_op (ok_box rfl rfl rfl rfl rfl ?_); intro tb
  refine gg ?_
  refine glp (fun s : TkX => 0 ≤ s.k ∧ s.k ≤ q.rows) (fun s => [(6, .pointer (some ⟨q6, 0, none⟩)), (7, .pointer (some ⟨tb, 0, none⟩)), (47, vi q.rows), (48, vi s.k)])
    (fun s => [blk tb (thC q.rows s.A (nearTo y q s.k).length s.c k) TTh, osl TIs sv s.A s.c (nearTo y q s.k), blk q6 (pcs y q) TP, osl TI vi y.A y.c q.start, osl TI vi y.B y.d q.cols]) (fun s => (q.rows - s.k).toNat) ⟨0, none, 0⟩ ⟨by simp, g1⟩ ?_
  rintro ⟨v, NA, nc⟩ ⟨hv0, hv1⟩
  dsimp only at hv0 hv1 ⊢
  have hnl := nearTo_len y q hv0
  by_cases hv : v < q.rows
  · have e1 := HG.lo hv0 (by omega)
    have e2 := HG.hi (r := v + 1) (by omega) (by omega)
    have e3 := HG.step hv0 hv
    refine gg ?_
    refine gwa [blk tb (thC q.rows NA (nearTo y q v).length nc k) TTh, osl TIs sv NA nc (nearTo y q v)] ?_
    (repeat (first | refine gk1 ?_ | refine gk2 ?_ | refine gk3 ?_ | refine gk0 ?_ | refine gk4 ?_))
    dsimp only [List.cons_append, List.nil_append]
    (first | refine ga1 0 (by exact rfl) (by exact rfl) ?_ | refine ga2 0 (by exact rfl) (by exact rfl) ?_ | refine ga3 0 (by exact rfl) (by exact rfl) ?_ | refine ga4 0 (by exact rfl) (by exact rfl) ?_)
    (first | refine ga1 1 (by exact rfl) (by exact rfl) ?_ | refine ga2 1 (by exact rfl) (by exact rfl) ?_ | refine ga3 1 (by exact rfl) (by exact rfl) ?_ | refine ga4 1 (by exact rfl) (by exact rfl) ?_)
    (first | refine ga1 2 (by exact rfl) (by exact rfl) ?_ | refine ga2 2 (by exact rfl) (by exact rfl) ?_ | refine ga3 2 (by exact rfl) (by exact rfl) ?_ | refine ga4 2 (by exact rfl) (by exact rfl) ?_)
    (first | refine ga1 3 (by exact rfl) (by exact rfl) ?_ | refine ga2 3 (by exact rfl) (by exact rfl) ?_ | refine ga3 3 (by exact rfl) (by exact rfl) ?_ | refine ga4 3 (by exact rfl) (by exact rfl) ?_)
    (first | refine ga1 5 (by exact rfl) (by exact rfl) ?_ | refine ga2 5 (by exact rfl) (by exact rfl) ?_ | refine ga3 5 (by exact rfl) (by exact rfl) ?_ | refine ga4 5 (by exact rfl) (by exact rfl) ?_)
    (first | refine ga1 6 (by exact rfl) (by exact rfl) ?_ | refine ga2 6 (by exact rfl) (by exact rfl) ?_ | refine ga3 6 (by exact rfl) (by exact rfl) ?_ | refine ga4 6 (by exact rfl) (by exact rfl) ?_)
    (first | refine ga1 7 (by exact rfl) (by exact rfl) ?_ | refine ga2 7 (by exact rfl) (by exact rfl) ?_ | refine ga3 7 (by exact rfl) (by exact rfl) ?_ | refine ga4 7 (by exact rfl) (by exact rfl) ?_)
    (first | refine ga1 8 (by exact rfl) (by exact rfl) ?_ | refine ga2 8 (by exact rfl) (by exact rfl) ?_ | refine ga3 8 (by exact rfl) (by exact rfl) ?_ | refine ga4 8 (by exact rfl) (by exact rfl) ?_)
    (first | refine ga1 9 (by exact rfl) (by exact rfl) ?_ | refine ga2 9 (by exact rfl) (by exact rfl) ?_ | refine ga3 9 (by exact rfl) (by exact rfl) ?_ | refine ga4 9 (by exact rfl) (by exact rfl) ?_)
    (first | refine ga1 10 (by exact rfl) (by exact rfl) ?_ | refine ga2 10 (by exact rfl) (by exact rfl) ?_ | refine ga3 10 (by exact rfl) (by exact rfl) ?_ | refine ga4 10 (by exact rfl) (by exact rfl) ?_)
    (first | refine ga1 11 (by exact rfl) (by exact rfl) ?_ | refine ga2 11 (by exact rfl) (by exact rfl) ?_ | refine ga3 11 (by exact rfl) (by exact rfl) ?_ | refine ga4 11 (by exact rfl) (by exact rfl) ?_)
    (first | refine ga1 12 (by exact rfl) (by exact rfl) ?_ | refine ga2 12 (by exact rfl) (by exact rfl) ?_ | refine ga3 12 (by exact rfl) (by exact rfl) ?_ | refine ga4 12 (by exact rfl) (by exact rfl) ?_)
    (first | refine ga1 13 (by exact rfl) (by exact rfl) ?_ | refine ga2 13 (by exact rfl) (by exact rfl) ?_ | refine ga3 13 (by exact rfl) (by exact rfl) ?_ | refine ga4 13 (by exact rfl) (by exact rfl) ?_)
    (first | refine ga1 14 (by exact rfl) (by exact rfl) ?_ | refine ga2 14 (by exact rfl) (by exact rfl) ?_ | refine ga3 14 (by exact rfl) (by exact rfl) ?_ | refine ga4 14 (by exact rfl) (by exact rfl) ?_)
    (first | refine ga1 15 (by exact rfl) (by exact rfl) ?_ | refine ga2 15 (by exact rfl) (by exact rfl) ?_ | refine ga3 15 (by exact rfl) (by exact rfl) ?_ | refine ga4 15 (by exact rfl) (by exact rfl) ?_)
    (first | refine ga1 16 (by exact rfl) (by exact rfl) ?_ | refine ga2 16 (by exact rfl) (by exact rfl) ?_ | refine ga3 16 (by exact rfl) (by exact rfl) ?_ | refine ga4 16 (by exact rfl) (by exact rfl) ?_)
    (first | refine ga1 17 (by exact rfl) (by exact rfl) ?_ | refine ga2 17 (by exact rfl) (by exact rfl) ?_ | refine ga3 17 (by exact rfl) (by exact rfl) ?_ | refine ga4 17 (by exact rfl) (by exact rfl) ?_)
    (first | refine ga1 18 (by exact rfl) (by exact rfl) ?_ | refine ga2 18 (by exact rfl) (by exact rfl) ?_ | refine ga3 18 (by exact rfl) (by exact rfl) ?_ | refine ga4 18 (by exact rfl) (by exact rfl) ?_)
    (first | refine ga1 19 (by exact rfl) (by exact rfl) ?_ | refine ga2 19 (by exact rfl) (by exact rfl) ?_ | refine ga3 19 (by exact rfl) (by exact rfl) ?_ | refine ga4 19 (by exact rfl) (by exact rfl) ?_)
    (first | refine ga1 20 (by exact rfl) (by exact rfl) ?_ | refine ga2 20 (by exact rfl) (by exact rfl) ?_ | refine ga3 20 (by exact rfl) (by exact rfl) ?_ | refine ga4 20 (by exact rfl) (by exact rfl) ?_)
    (first | refine ga1 21 (by exact rfl) (by exact rfl) ?_ | refine ga2 21 (by exact rfl) (by exact rfl) ?_ | refine ga3 21 (by exact rfl) (by exact rfl) ?_ | refine ga4 21 (by exact rfl) (by exact rfl) ?_)
    (first | refine ga1 22 (by exact rfl) (by exact rfl) ?_ | refine ga2 22 (by exact rfl) (by exact rfl) ?_ | refine ga3 22 (by exact rfl) (by exact rfl) ?_ | refine ga4 22 (by exact rfl) (by exact rfl) ?_)
    (first | refine ga1 23 (by exact rfl) (by exact rfl) ?_ | refine ga2 23 (by exact rfl) (by exact rfl) ?_ | refine ga3 23 (by exact rfl) (by exact rfl) ?_ | refine ga4 23 (by exact rfl) (by exact rfl) ?_)
    refine wa_v 24 [_, _] rfl (by kernel_rfl) rfl rfl rfl rfl (val_slice3 rfl rfl rfl rfl rfl (fun w hst => grd hst) (el_of rfl) (sz_of rfl) e1 e3 e2) ?_
    refine gaAll [4, 25] ?_
    intro j hj
    simp only [List.mem_cons, List.not_mem_nil, or_false] at hj
    rcases hj with rfl | rfl
    · refine ⟨_, rfl, ?_⟩
      refine gl0 (by exact rfl) ?_
      refine ⟨by (repeat (first | exact Suf.refl | exact Suf.nil | exact Suf.app _ _ | apply Suf.cons)), ?_⟩
      refine gaOne 25 rfl ?_
      refine ok_build1 sv (rowV y q v) rfl rfl rfl rfl rfl (el_of rfl) (ze_of rfl) rfl (sz_of rfl) rfl ?_
      intro b2
      refine ⟨by (repeat (first | exact Suf.refl | exact Suf.nil | exact Suf.app _ _ | apply Suf.cons)), ?_⟩
      refine gaOne 26 rfl ?_
      refine ok_append 2 sv (ys := [rowV y q v]) rfl rfl rfl rfl rfl rfl rfl (el_of rfl) (ze_of rfl) rfl (sz_of rfl) (by_of rfl) ⟨_, rfl⟩ (fun w hst => osl_reads (hst.at_ 0 rfl)) (fun _ => rfl) (by simp; omega) (by simp; omega) ?_
      intro A' c'
      refine ⟨by (repeat (first | exact Suf.refl | exact Suf.nil | exact Suf.app _ _ | apply Suf.cons)), ?_⟩
      (first | refine ga1 27 (by exact rfl) (by exact rfl) ?_ | refine ga2 27 (by exact rfl) (by exact rfl) ?_ | refine ga3 27 (by exact rfl) (by exact rfl) ?_ | refine ga4 27 (by exact rfl) (by exact rfl) ?_)
      (first | refine ga1 28 (by exact rfl) (by exact rfl) ?_ | refine ga2 28 (by exact rfl) (by exact rfl) ?_ | refine ga3 28 (by exact rfl) (by exact rfl) ?_ | refine ga4 28 (by exact rfl) (by exact rfl) ?_)
      refine gaOne 29 rfl ?_
      refine gt0 (by exact rfl) ?_
      refine ⟨by (repeat (first | exact Suf.refl | exact Suf.nil | exact Suf.app _ _ | apply Suf.cons)), ?_⟩
      refine gaDone ?_
      rw [← nearTo_next y q hv0]
      refine gg ?_
      exact gnx (⟨v + 1, A', c'⟩ : TkX) ⟨by dsimp only; omega, by dsimp only; omega⟩ (by dsimp only; omega)
    · refine ⟨_, rfl, ?_⟩
      refine ok_build1 sv (rowV y q v) rfl rfl rfl rfl rfl (el_of rfl) (ze_of rfl) rfl (sz_of rfl) rfl ?_
      intro b2
      refine ⟨by (repeat (first | exact Suf.refl | exact Suf.nil | exact Suf.app _ _ | apply Suf.cons)), ?_⟩
      refine gaOne 4 rfl ?_
      refine gl0 (by exact rfl) ?_
      refine ⟨by (repeat (first | exact Suf.refl | exact Suf.nil | exact Suf.app _ _ | apply Suf.cons)), ?_⟩
      refine gaOne 26 rfl ?_
      refine ok_append 2 sv (ys := [rowV y q v]) rfl rfl rfl rfl rfl rfl rfl (el_of rfl) (ze_of rfl) rfl (sz_of rfl) (by_of rfl) ⟨_, rfl⟩ (fun w hst => osl_reads (hst.at_ 0 rfl)) (fun _ => rfl) (by simp; omega) (by simp; omega) ?_
      intro A' c'
      refine ⟨by (repeat (first | exact Suf.refl | exact Suf.nil | exact Suf.app _ _ | apply Suf.cons)), ?_⟩
      (first | refine ga1 27 (by exact rfl) (by exact rfl) ?_ | refine ga2 27 (by exact rfl) (by exact rfl) ?_ | refine ga3 27 (by exact rfl) (by exact rfl) ?_ | refine ga4 27 (by exact rfl) (by exact rfl) ?_)
      (first | refine ga1 28 (by exact rfl) (by exact rfl) ?_ | refine ga2 28 (by exact rfl) (by exact rfl) ?_ | refine ga3 28 (by exact rfl) (by exact rfl) ?_ | refine ga4 28 (by exact rfl) (by exact rfl) ?_)
      refine gaOne 29 rfl ?_
      refine gt0 (by exact rfl) ?_
      refine ⟨by (repeat (first | exact Suf.refl | exact Suf.nil | exact Suf.app _ _ | apply Suf.cons)), ?_⟩
      refine gaDone ?_
      rw [← nearTo_next y q hv0]
      refine gg ?_
      exact gnx (⟨v + 1, A', c'⟩ : TkX) ⟨by dsimp only; omega, by dsimp only; omega⟩ (by dsimp only; omega)
  · obtain rfl : v = q.rows := by omega
    refine gg ?_
    exact grt (⟨tb, NA, nc, y⟩ : TX) trivial
theorem takenE_c (w : World) (hp : RdP w x p) (he : thE k p ≠ 0) :
    Calls Try.prog 67 [vi k, pvl x p].toArray w (one (.tuple #[.pointer none, vi (thE k p)]) w) := by
  have op := hp.old
  unfold pvl patV
  by_cases hm : May p
  · by_cases hk : 1 ≤ k ∧ k ≤ 5
    · have h23 : k ≠ 2 ∧ k ≠ 3 := by
        refine ⟨fun h => he ?_, fun h => he ?_⟩
        · unfold thE; rw [if_neg (by simp [hm]), if_pos (.inl h)]
        · unfold thE; rw [if_neg (by simp [hm]), if_pos (.inr h)]
      have hg : ¬ IsGr p := fun hg => he (by unfold thE; rw [if_neg (by simp [hm]), if_neg (by omega), if_pos (by omega), if_pos hg])
      rw [show thE k p = 220 by unfold thE; rw [if_neg (by simp [hm]), if_neg (by omega), if_pos (by omega), if_neg hg]]
      refine calls_wc [] [] [.tmp 4, .tmp 5] (fun _ => [.pointer none, vi 220]) Try.func67 rfl rfl (fun _ => rfl) Try.ntmps67 rfl (Own.nil w) rfl ?_
      refine gg ?_
      refine wl_op (ok_box rfl rfl rfl rfl rfl ?_); intro bp
      refine gg ?_
      refine gc1 (fun w hst => may_t (op.s.now hst) (op.c.now hst) hm) (by exact rfl) ?_
      refine gg ?_
      refine gc1 (fun w hst => isKind_c (k := k) true (by simp [hk]) w) (by exact rfl) ?_
      refine gg ?_
      refine gc1 (fun w hst => ofGraph_c (k := k) true (by simp [h23]) w) (by exact rfl) ?_
      refine gg ?_
      refine gc1 (fun w hst => isGraph_c (p := p) (x := x) w (op.now hst) false (by simp [hg])) (by exact rfl) ?_
      refine gg ?_
      exact grt () trivial
    · rw [show thE k p = 242 by unfold thE; rw [if_neg (by simp [hm]), if_neg (by omega), if_neg (by omega)]]
      refine calls_wc [] [] [.tmp 4, .tmp 5] (fun _ => [.pointer none, vi 242]) Try.func67 rfl rfl (fun _ => rfl) Try.ntmps67 rfl (Own.nil w) rfl ?_
      refine gg ?_
      refine wl_op (ok_box rfl rfl rfl rfl rfl ?_); intro bp
      refine gg ?_
      refine gc1 (fun w hst => may_t (op.s.now hst) (op.c.now hst) hm) (by exact rfl) ?_
      refine gg ?_
      refine gc1 (fun w hst => isKind_c (k := k) false (by simp [hk]) w) (by exact rfl) ?_
      refine gg ?_
      exact grt () trivial
  · rw [show thE k p = 180 by unfold thE; rw [if_pos hm]]
    refine calls_wc [] [] [.tmp 4, .tmp 5] (fun _ => [.pointer none, vi 180]) Try.func67 rfl rfl (fun _ => rfl) Try.ntmps67 rfl (Own.nil w) rfl ?_
    refine gg ?_
    refine wl_op (ok_box rfl rfl rfl rfl rfl ?_); intro bp
    refine gg ?_
    refine gc1 (fun w hst => may_f (op.s.now hst) (op.c.now hst) hm) (by exact rfl) ?_
    refine gg ?_
    exact grt () trivial
end
end Go.Proofs.Ytoiiellaoikojaa
