/- Plain: the walk that finds blocks: what holds at each step. Plain: the walk that finds blocks: closing a block. Plain: the walk that finds blocks: entering, looking at an edge, going back. Plain: the walk that finds blocks: an edge looked at, a vertex left, the beginning; how much there can be. -/
import Derived.Test.YtofngbaefbbeiaaCW
import Derived.Test.YtofngbaefbbeiaaCA
set_option linter.unusedVariables false
set_option linter.unusedSimpArgs false
set_option maxHeartbeats 8000000
namespace Go.Proofs.Ytofngbaefbbeiaa
open Go.RowKit
/-- the edge from x to c has been looked at -/
def Looked (low seen block S : List Int) (x c : Int) : Prop := 0 ≤ gt block c ∨ (c ∈ S ∧ gt low x ≤ gt seen c)
/-- the walk between two calls, or inside one: S the stack, F the frames -/
structure TInv (p : Pat) (n : Nat) (seen low block S F at_ : List Int) (clk ct : Int) : Prop where
  l1 : seen.length = n
  l2 : low.length = n
  l3 : block.length = n
  l4 : at_.length = n
  clk0 : 0 ≤ clk
  ct0 : 0 ≤ ct
  sS : ∀ x ∈ S, 0 ≤ x ∧ x < n ∧ gt block x = -1 ∧ 1 ≤ gt seen x ∧ gt seen x ≤ clk
  srt : S.Pairwise (fun x y => gt seen x < gt seen y)
  cls : ∀ x : Int, 0 ≤ x → x < n → (gt seen x = 0 ∧ gt block x = -1) ∨ x ∈ S ∨ (1 ≤ gt seen x ∧ gt seen x ≤ clk ∧ 0 ≤ gt block x ∧ gt block x < ct)
  I1 : ∀ x c : Int, 0 ≤ gt block x → hasB p x c = true → 0 ≤ gt block c
  I2 : ∀ x y : Int, 0 ≤ x → x < n → 0 ≤ y → y < n → 0 ≤ gt block x → 0 ≤ gt block y → (gt block x = gt block y ↔ Way (hasB p) x y ∧ Way (hasB p) y x)
  used : ∀ b : Int, 0 ≤ b → b < ct → ∃ x : Int, 0 ≤ x ∧ x < n ∧ gt block x = b
  I3 : ∀ x ∈ S, ∃ y ∈ S, gt low x = gt seen y ∧ Way (hasB p) x y ∧ gt seen y ≤ gt seen x
  N : ∀ x ∈ S, x ∉ F → gt low x < gt seen x
  FS : ∀ f ∈ F, f ∈ S
  Fs : F.Pairwise (fun x y => gt seen x < gt seen y)
  R : ∀ f ∈ F, ∀ x ∈ S, gt seen f ≤ gt seen x → Way (hasB p) f x
  P : ∀ x ∈ S, ∀ k : Int, gt p.start x ≤ k → k < gt p.start (x + 1) → (x ∈ F → k < gt at_ x) → Looked low seen block S x (gt p.cols k)
  atr : ∀ f ∈ F, gt p.start f ≤ gt at_ f ∧ gt at_ f ≤ gt p.start (f + 1)
  chain : ∀ G f g H, F = G ++ f :: g :: H → gt at_ f < gt p.start (f + 1) ∧ gt p.cols (gt at_ f) = g
  Seg : ∀ x ∈ S, x ∉ F → ∀ f ∈ F, gt seen f < gt seen x → (∀ g ∈ F, gt seen g < gt seen x → gt seen g ≤ gt seen f) → gt low f ≤ gt low x ∨ ((∃ G, F = G ++ [f]) ∧ gt at_ f < gt p.start (f + 1) ∧ gt p.cols (gt at_ f) ∈ S ∧ gt low (gt p.cols (gt at_ f)) ≤ gt low x)
section
variable {p : Pat} {n : Nat} {seen low block S F at_ : List Int} {clk ct : Int}
theorem TInv.empty (h : TInv p n seen low block S [] at_ clk ct) : S = [] := by
  have key : ∀ (m : Nat) (x : Int), x ∈ S → gt seen x ≤ m → False := by
    intro m
    induction m with
    | zero => intro x hx hm; have := (h.sS x hx).2.2.2.1; omega
    | succ m ih =>
      intro x hx hm
      obtain ⟨y, hy, e, _, _⟩ := h.I3 x hx
      have := h.N x hx (by simp)
      exact ih y hy (by omega)
  cases S with
  | nil => rfl
  | cons x S => exact (key (gt seen x).toNat x (by simp) (by omega)).elim
theorem TInv.inj (h : TInv p n seen low block S F at_ clk ct) {x y : Int} (hx : x ∈ S) (hy : y ∈ S) (e : gt seen x = gt seen y) : x = y := by
  have hs := h.srt
  clear h
  induction S with
  | nil => simp at hx
  | cons a S ih =>
    rw [List.pairwise_cons] at hs
    rcases List.mem_cons.1 hx with hxa | hx
    · rcases List.mem_cons.1 hy with hya | hy
      · rw [hxa, hya]
      · have := hs.1 y hy; rw [hxa] at e; omega
    · rcases List.mem_cons.1 hy with hya | hy
      · have := hs.1 x hx; rw [hya] at e; omega
      · exact ih hx hy hs.2
variable {G : List Int} {u : Int}
theorem TInv.top (h : TInv p n seen low block S (G ++ [u]) at_ clk ct) {f : Int} (hf : f ∈ G) : gt seen f < gt seen u := by
  have hs := h.Fs
  rw [List.pairwise_append] at hs
  exact hs.2.2 f hf u (by simp)
theorem TInv.back (h : TInv p n seen low block S (G ++ [u]) at_ clk ct) (hat : gt at_ u = gt p.start (u + 1)) (hlow : gt low u = gt seen u) : ∀ (m : Nat) (x : Int), x ∈ S → gt seen u ≤ gt seen x → gt seen x ≤ m → Way (hasB p) x u := by
  have hu := h.FS u (by simp)
  intro m
  induction m with
  | zero => intro x hx _ hm; have := (h.sS x hx).2.2.2.1; omega
  | succ m ih =>
    intro x hx hux hm
    by_cases e : x = u
    · rw [e]; exact .refl _
    · have hlt : gt seen u < gt seen x := by
        have : gt seen x ≠ gt seen u := fun e2 => e (h.inj hx hu e2)
        omega
      have hxF : x ∉ G ++ [u] := fun hm => by
        rcases List.mem_append.1 hm with hm | hm
        · have := h.top hm; omega
        · exact e (List.mem_singleton.1 hm)
      have hseg := h.Seg x hx hxF u (by simp) hlt (fun g hg _ => by
        rcases List.mem_append.1 hg with hg | hg
        · have := h.top hg; omega
        · rw [List.mem_singleton.1 hg]; omega)
      have hl : gt low u ≤ gt low x := by
        rcases hseg with hs | hs
        · exact hs
        · have := hs.2.1; omega
      obtain ⟨y, hy, e2, hw, _⟩ := h.I3 x hx
      have := h.N x hx hxF
      exact hw.trans (ih y hy (by omega) (by omega))
end
section
variable {p : Pat} {n : Nat} {seen low block S S1 S2 F at_ B G : List Int} {clk ct u : Int}
theorem TInv.lowT (h : TInv p n seen low block S (G ++ [u]) at_ clk ct) (hat : gt at_ u = gt p.start (u + 1)) (hlow : gt low u = gt seen u) {x : Int} (hx : x ∈ S) (hux : gt seen u ≤ gt seen x) : gt seen u ≤ gt low x := by
  have hu := h.FS u (by simp)
  by_cases e : x = u
  · rw [e]; omega
  · have hlt : gt seen u < gt seen x := by
      have : gt seen x ≠ gt seen u := fun e2 => e (h.inj hx hu e2)
      omega
    have hxF : x ∉ G ++ [u] := fun hm => by
      rcases List.mem_append.1 hm with hm | hm
      · have := h.top hm; omega
      · exact e (List.mem_singleton.1 hm)
    have hseg := h.Seg x hx hxF u (by simp) hlt (fun g hg _ => by
      rcases List.mem_append.1 hg with hg | hg
      · have := h.top hg; omega
      · rw [List.mem_singleton.1 hg]; omega)
    rcases hseg with hs | hs
    · omega
    · have := hs.2.1; omega
/-- what is above u is closed under edges, with what is closed -/
theorem TInv.edgeT (h : TInv p n seen low block S (G ++ [u]) at_ clk ct) (hat : gt at_ u = gt p.start (u + 1)) (hlow : gt low u = gt seen u) {x c : Int} (hx : x ∈ S) (hux : gt seen u ≤ gt seen x) (he : hasB p x c = true) : 0 ≤ gt block c ∨ (c ∈ S ∧ gt seen u ≤ gt seen c) := by
  obtain ⟨_, _, k, k0, k1, e⟩ := hasB_iff.1 he
  have hl := h.lowT hat hlow hx hux
  have hP := h.P x hx k k0 k1 (fun hxF => by
    rcases List.mem_append.1 hxF with hm | hm
    · have := h.top hm; omega
    · rw [List.mem_singleton.1 hm] at k1 ⊢; omega)
  rw [e] at hP
  rcases hP with hP | ⟨h1, h2⟩
  · exact .inl hP
  · exact .inr ⟨h1, by omega⟩
theorem TInv.split (h : TInv p n seen low block S F at_ clk ct) (hS : S = S1 ++ u :: S2) {x : Int} (hx : x ∈ S) : (x ∈ S1 ∧ gt seen x < gt seen u ∧ x ∉ u :: S2) ∨ (x ∈ u :: S2 ∧ gt seen u ≤ gt seen x ∧ x ∉ S1) := by
  have hs := h.srt
  subst hS
  rw [List.pairwise_append, List.pairwise_cons] at hs
  obtain ⟨_, ⟨h1, _⟩, h2⟩ := hs
  have hT : ∀ y ∈ u :: S2, gt seen u ≤ gt seen y := fun y hy => by
    rcases List.mem_cons.1 hy with e | hy
    · rw [e]; omega
    · have := h1 y hy; omega
  rcases List.mem_append.1 hx with hx | hx
  · have hlt := h2 x hx u (by simp)
    exact .inl ⟨hx, hlt, fun hm => by have := hT x hm; omega⟩
  · have := hT x hx
    exact .inr ⟨hx, this, fun hm => by have := h2 x hm u (by simp); omega⟩
theorem TInv.close (hpn : p.rows = n) (hon : On n (hasB p)) (h : TInv p n seen low block S (G ++ [u]) at_ clk ct) (hat : gt at_ u = gt p.start (u + 1)) (hlow : gt low u = gt seen u) (hS : S = S1 ++ u :: S2) (hB : CB n block (u :: S2) ct B) : TInv p n seen low B S1 G at_ clk (ct + 1) := by
  have hu := h.FS u (by simp)
  have hc0 := h.ct0
  have memT : ∀ x, x ∈ u :: S2 → x ∈ S := fun x hx => by rw [hS]; simp only [List.mem_append]; exact .inr hx
  have mem1 : ∀ x, x ∈ S1 → x ∈ S := fun x hx => by rw [hS]; simp only [List.mem_append]; exact .inl hx
  have sp := fun {x : Int} (hx : x ∈ S) => h.split hS hx
  have geT : ∀ x, x ∈ u :: S2 → gt seen u ≤ gt seen x := fun x hx => by
    rcases sp (memT x hx) with h1 | h1
    · exact (h1.2.2 hx).elim
    · exact h1.2.1
  have T_of : ∀ x, x ∈ S → gt seen u ≤ gt seen x → x ∈ u :: S2 := fun x hx hg => by
    rcases sp hx with h1 | h1
    · omega
    · exact h1.1
  have rT : ∀ x, x ∈ u :: S2 → 0 ≤ x ∧ x < n := fun x hx => ⟨(h.sS x (memT x hx)).1, (h.sS x (memT x hx)).2.1⟩
  have toU : ∀ x, x ∈ u :: S2 → Way (hasB p) x u := fun x hx => h.back hat hlow (gt seen x).toNat x (memT x hx) (geT x hx) (by have := (h.sS x (memT x hx)).2.2.2.1; omega)
  have ofU : ∀ x, x ∈ u :: S2 → Way (hasB p) u x := fun x hx => h.R u (by simp) x (memT x hx) (geT x hx)
  have off : ∀ x : Int, 0 ≤ x → x < n → x ∉ u :: S2 → gt B x = gt block x := fun x x0 x1 hx => hB.off x x0 x1 hx
  have bT : ∀ x, x ∈ u :: S2 → gt block x = -1 := fun x hx => (h.sS x (memT x hx)).2.2.1
  have clT : ∀ x c, x ∈ u :: S2 → hasB p x c = true → c ∈ u :: S2 ∨ 0 ≤ gt block c := fun x c hx he => by
    rcases h.edgeT hat hlow (memT x hx) (geT x hx) he with h1 | h1
    · exact .inr h1
    · exact .inl (T_of c h1.1 h1.2)
  have wayC : ∀ {x y}, Way (hasB p) x y → 0 ≤ gt block x → 0 ≤ gt block y := fun hw => by
    induction hw with
    | refl => exact id
    | step _ he ih => exact fun hx => h.I1 _ _ (ih hx) he
  have wayT : ∀ {x y}, Way (hasB p) x y → x ∈ u :: S2 → y ∈ u :: S2 ∨ 0 ≤ gt block y := fun hw => by
    induction hw with
    | refl => exact .inl
    | step _ he ih =>
      intro hx
      rcases ih hx with h1 | h1
      · exact clT _ _ h1 he
      · exact .inr (h.I1 _ _ h1 he)
  have cl' : ∀ x : Int, 0 ≤ x → x < n → (0 ≤ gt B x ↔ x ∈ u :: S2 ∨ 0 ≤ gt block x) := fun x x0 x1 => by
    by_cases hx : x ∈ u :: S2
    · rw [hB.on x hx]; exact ⟨fun _ => .inl hx, fun _ => hc0⟩
    · rw [off x x0 x1 hx]; exact ⟨.inr, fun h => h.elim (fun h => (hx h).elim) id⟩
  have s1 : ∀ x, x ∈ S1 → gt seen x < gt seen u ∧ x ∉ u :: S2 := fun x hx => by
    rcases sp (mem1 x hx) with h1 | h1
    · exact h1.2
    · exact (h1.2.2 hx).elim
  have in1 : ∀ x, x ∈ S → gt seen x < gt seen u → x ∈ S1 := fun x hx hlt => by
    rcases sp hx with h1 | h1
    · exact h1.1
    · omega
  have notF : ∀ x, x ∈ S1 → x ∉ G → x ∉ G ++ [u] := fun x hx hG hm => by
    rcases List.mem_append.1 hm with hm | hm
    · exact hG hm
    · exact (s1 x hx).2 (by rw [List.mem_singleton.1 hm]; simp)
  have srt := h.srt
  rw [hS, List.pairwise_append] at srt
  have Fs := h.Fs
  rw [List.pairwise_append] at Fs
  refine ⟨h.l1, h.l2, hB.len, h.l4, h.clk0, by omega, fun x hx => ?_, srt.1, fun x x0 x1 => ?_, fun x c hx he => ?_, fun x y x0 x1 y0 y1 hx hy => ?_, fun b b0 b1 => ?_, fun x hx => ?_, fun x hx hG => h.N x (mem1 x hx) (notF x hx hG), fun f hf => in1 f (h.FS f (by simp [hf])) (h.top hf), Fs.1, fun f hf x hx hg => h.R f (by simp [hf]) x (mem1 x hx) hg, fun x hx k k0 k1 hk => ?_, fun f hf => h.atr f (by simp [hf]), fun G' f g H e => h.chain G' f g (H ++ [u]) (by rw [e]; simp), fun x hx hG f hf hlt hmax => ?_⟩
  · have hr := h.sS x (mem1 x hx)
    rw [off x hr.1 hr.2.1 (s1 x hx).2]
    exact hr
  · rcases h.cls x x0 x1 with h1 | h1 | h1
    · have hx : x ∉ u :: S2 := fun hm => by have := (h.sS x (memT x hm)).2.2.2.1; omega
      rw [off x x0 x1 hx]
      exact .inl h1
    · rcases sp h1 with h2 | h2
      · exact .inr (.inl h2.1)
      · have hr := h.sS x h1
        rw [hB.on x h2.1]
        exact .inr (.inr ⟨hr.2.2.2.1, hr.2.2.2.2, hc0, by omega⟩)
    · have hx : x ∉ u :: S2 := fun hm => by have := bT x hm; omega
      rw [off x x0 x1 hx]
      exact .inr (.inr ⟨h1.1, h1.2.1, h1.2.2.1, by omega⟩)
  · obtain ⟨x0, x1, c0, c1⟩ := hon _ _ he
    refine (cl' c c0 c1).2 ?_
    rcases (cl' x x0 x1).1 hx with h1 | h1
    · exact clT x c h1 he
    · exact .inr (h.I1 x c h1 he)
  · have ct_lt : ∀ z : Int, 0 ≤ z → z < n → 0 ≤ gt block z → gt block z < ct := fun z z0 z1 hz => by
      rcases h.cls z z0 z1 with h1 | h1 | h1
      · omega
      · have := (h.sS z h1).2.2.1; omega
      · exact h1.2.2.2
    have notT : ∀ z, 0 ≤ gt block z → z ∉ u :: S2 := fun z hz hm => by have := bT z hm; omega
    rcases (cl' x x0 x1).1 hx with h1 | h1
    · rcases (cl' y y0 y1).1 hy with h2 | h2
      · rw [hB.on x h1, hB.on y h2]
        exact ⟨fun _ => ⟨(toU x h1).trans (ofU y h2), (toU y h2).trans (ofU x h1)⟩, fun _ => rfl⟩
      · have := ct_lt y y0 y1 h2
        rw [hB.on x h1, off y y0 y1 (notT y h2)]
        exact ⟨fun e => by omega, fun hw => by have := wayC hw.2 h2; have := bT x h1; omega⟩
    · rcases (cl' y y0 y1).1 hy with h2 | h2
      · have := ct_lt x x0 x1 h1
        rw [hB.on y h2, off x x0 x1 (notT x h1)]
        exact ⟨fun e => by omega, fun hw => by have := wayC hw.1 h1; have := bT y h2; omega⟩
      · rw [off x x0 x1 (notT x h1), off y y0 y1 (notT y h2)]
        exact h.I2 x y x0 x1 y0 y1 h1 h2
  · by_cases e : b = ct
    · exact ⟨u, (rT u (by simp)).1, (rT u (by simp)).2, by rw [hB.on u (by simp), e]⟩
    · obtain ⟨x, x0, x1, hx⟩ := h.used b b0 (by omega)
      exact ⟨x, x0, x1, by rw [off x x0 x1 (fun hm => by have := bT x hm; omega)]; exact hx⟩
  · obtain ⟨y, hy, e, hw, hle⟩ := h.I3 x (mem1 x hx)
    have := (s1 x hx).1
    exact ⟨y, in1 y hy (by omega), e, hw, hle⟩
  · have hL := h.P x (mem1 x hx) k k0 k1 (fun hm => by
      rcases List.mem_append.1 hm with hm | hm
      · exact hk hm
      · exact ((s1 x hx).2 (by rw [List.mem_singleton.1 hm]; simp)).elim)
    have hr := h.sS x (mem1 x hx)
    rcases hL with hL | ⟨h1, h2⟩
    · by_cases hT : gt p.cols k ∈ u :: S2
      · exact .inl (by rw [hB.on _ hT]; exact hc0)
      · obtain ⟨_, _, c0, c1⟩ := hon x (gt p.cols k) (hasB_iff.2 ⟨hr.1, by omega, k, k0, k1, rfl⟩)
        exact .inl (by rw [off _ c0 c1 hT]; exact hL)
    · rcases sp h1 with h3 | h3
      · exact .inr ⟨h3.1, h2⟩
      · exact .inl (by rw [hB.on _ h3.1]; exact hc0)
  · have hseg := h.Seg x (mem1 x hx) (notF x hx hG) f (by simp [hf]) hlt (fun g hg hlt' => by
      rcases List.mem_append.1 hg with hg | hg
      · exact hmax g hg hlt'
      · rw [List.mem_singleton.1 hg] at hlt'
        have := (s1 x hx).1
        omega)
    rcases hseg with hs | ⟨⟨G', e⟩, _⟩
    · exact .inl hs
    · have e2 := (List.append_inj' e rfl).2
      have := h.top hf
      rw [← List.singleton_inj.1 e2] at this
      omega
end
section
variable {p : Pat} {n : Nat} {seen low block S S1 S2 F at_ B G : List Int} {clk ct u v : Int}
/-- frames are where the walk is: none, or the top one looks at v -/
def Looks (p : Pat) (F at_ : List Int) (v : Int) : Prop := F = [] ∨ ∃ G u, F = G ++ [u] ∧ gt at_ u < gt p.start (u + 1) ∧ gt p.cols (gt at_ u) = v
theorem TInv.white (h : TInv p n seen low block S F at_ clk ct) (h0 : 0 ≤ v) (h1 : v < n) (hv : gt seen v = 0) : v ∉ S ∧ gt block v = -1 := by
  have hS : v ∉ S := fun hm => by have := (h.sS v hm).2.2.2.1; omega
  rcases h.cls v h0 h1 with hc | hc | hc
  · exact ⟨hS, hc.2⟩
  · exact (hS hc).elim
  · omega
theorem TInv.enter (hm : May p) (hpn : p.rows = n) (h : TInv p n seen low block S F at_ clk ct) (hF : Looks p F at_ v) (h0 : 0 ≤ v) (h1 : v < n) (hv : gt seen v = 0) :
    TInv p n (seen.set v.toNat (clk + 1)) (low.set v.toNat (clk + 1)) block (S ++ [v]) (F ++ [v]) (at_.set v.toNat (gt p.start v)) (clk + 1) ct := by
  obtain ⟨hvS, hvb⟩ := h.white h0 h1 hv
  have l1 := h.l1
  have l2 := h.l2
  have l4 := h.l4
  have hck := h.clk0
  have ne : ∀ x, x ∈ S → x ≠ v := fun x hx e => hvS (by rw [← e]; exact hx)
  have gs : ∀ x : Int, 0 ≤ x → x ≠ v → gt (seen.set v.toNat (clk + 1)) x = gt seen x := fun x x0 e => by rw [gt_setI h0 (by omega) x0, if_neg e]
  have gl : ∀ x : Int, 0 ≤ x → x ≠ v → gt (low.set v.toNat (clk + 1)) x = gt low x := fun x x0 e => by rw [gt_setI h0 (by omega) x0, if_neg e]
  have ga : ∀ x : Int, 0 ≤ x → x ≠ v → gt (at_.set v.toNat (gt p.start v)) x = gt at_ x := fun x x0 e => by rw [gt_setI h0 (by omega) x0, if_neg e]
  have gsv : gt (seen.set v.toNat (clk + 1)) v = clk + 1 := by rw [gt_setI h0 (by omega) h0, if_pos rfl]
  have glv : gt (low.set v.toNat (clk + 1)) v = clk + 1 := by rw [gt_setI h0 (by omega) h0, if_pos rfl]
  have gav : gt (at_.set v.toNat (gt p.start v)) v = gt p.start v := by rw [gt_setI h0 (by omega) h0, if_pos rfl]
  have gsS : ∀ x, x ∈ S → gt (seen.set v.toNat (clk + 1)) x = gt seen x := fun x hx => gs x (h.sS x hx).1 (ne x hx)
  have glS : ∀ x, x ∈ S → gt (low.set v.toNat (clk + 1)) x = gt low x := fun x hx => gl x (h.sS x hx).1 (ne x hx)
  have gaS : ∀ x, x ∈ S → gt (at_.set v.toNat (gt p.start v)) x = gt at_ x := fun x hx => ga x (h.sS x hx).1 (ne x hx)
  have mS : ∀ {x}, x ∈ S ++ [v] → x ∈ S ∨ x = v := fun hx => by
    rcases List.mem_append.1 hx with hx | hx
    · exact .inl hx
    · exact .inr (List.mem_singleton.1 hx)
  have mF : ∀ {x}, x ∈ F ++ [v] → x ∈ F ∨ x = v := fun hx => by
    rcases List.mem_append.1 hx with hx | hx
    · exact .inl hx
    · exact .inr (List.mem_singleton.1 hx)
  refine ⟨by rw [List.length_set]; exact l1, by rw [List.length_set]; exact l2, h.l3, by rw [List.length_set]; exact l4, by omega, h.ct0, fun x hx => ?_, ?_, fun x x0 x1 => ?_, h.I1, h.I2, h.used, fun x hx => ?_, fun x hx hxF => ?_, fun f hf => ?_, ?_, fun f hf x hx hle => ?_, fun x hx k k0 k1 hk => ?_, fun f hf => ?_, fun G' f g H e => ?_, fun x hx hxF f hf hlt hmax => ?_⟩
  · rcases mS hx with hx | rfl
    · have := h.sS x hx
      rw [gsS x hx]
      exact ⟨this.1, this.2.1, this.2.2.1, this.2.2.2.1, by omega⟩
    · rw [gsv]; exact ⟨h0, h1, hvb, by omega, by omega⟩
  · rw [List.pairwise_append]
    refine ⟨List.Pairwise.imp_of_mem (fun {a b} ha hb hab => by rw [gsS a ha, gsS b hb]; exact hab) h.srt, by simp, fun a ha b hb => ?_⟩
    rw [List.mem_singleton.1 hb, gsv, gsS a ha]
    have := (h.sS a ha).2.2.2.2
    omega
  · by_cases e : x = v
    · exact .inr (.inl (by simp [e]))
    · rw [gs x x0 e]
      rcases h.cls x x0 x1 with hc | hc | hc
      · exact .inl hc
      · exact .inr (.inl (by simp [hc]))
      · exact .inr (.inr ⟨hc.1, by omega, hc.2.2⟩)
  · rcases mS hx with hx | rfl
    · obtain ⟨y, hy, e, hw, hle⟩ := h.I3 x hx
      exact ⟨y, by simp [hy], by rw [glS x hx, gsS y hy]; exact e, hw, by rw [gsS x hx, gsS y hy]; exact hle⟩
    · exact ⟨x, by simp, by rw [glv, gsv], .refl _, Int.le_refl _⟩
  · rcases mS hx with hx | rfl
    · rw [glS x hx, gsS x hx]
      exact h.N x hx (fun hm => hxF (by simp [hm]))
    · exact (hxF (by simp)).elim
  · rcases mF hf with hf | rfl
    · have := h.FS f hf; simp [this]
    · simp
  · rw [List.pairwise_append]
    refine ⟨List.Pairwise.imp_of_mem (fun {a b} ha hb hab => by rw [gsS a (h.FS a ha), gsS b (h.FS b hb)]; exact hab) h.Fs, by simp, fun a ha b hb => ?_⟩
    rw [List.mem_singleton.1 hb, gsv, gsS a (h.FS a ha)]
    have := (h.sS a (h.FS a ha)).2.2.2.2
    omega
  · rcases mF hf with hf1 | rfl
    · rcases mS hx with hx | rfl
      · rw [gsS f (h.FS f hf1), gsS x hx] at hle
        exact h.R f hf1 x hx hle
      · rcases hF with rfl | ⟨G, u, rfl, hat, hcol⟩
        · simp at hf1
        · have hu := h.FS u (by simp)
          have hur := h.sS u hu
          have hwf : Way (hasB p) f u := by
            rcases List.mem_append.1 hf1 with hf' | hf'
            · exact h.R f hf1 u hu (by have := h.top hf'; omega)
            · rw [List.mem_singleton.1 hf']; exact .refl _
          exact .step hwf (hasB_iff.2 ⟨hur.1, by omega, gt at_ u, (h.atr u (by simp)).1, hat, hcol⟩)
    · rcases mS hx with hx | rfl
      · rw [gsv, gsS x hx] at hle
        have := (h.sS x hx).2.2.2.2
        omega
      · exact .refl _
  · rcases mS hx with hx | rfl
    · have hL := h.P x hx k k0 k1 (fun hm => by have := hk (by simp [hm]); rwa [gaS x hx] at this)
      rcases hL with hL | ⟨hc, hle⟩
      · exact .inl hL
      · exact .inr ⟨by simp [hc], by rw [glS x hx, gsS _ hc]; exact hle⟩
    · have := hk (by simp)
      rw [gav] at this
      omega
  · rcases mF hf with hf | rfl
    · rw [gaS f (h.FS f hf)]; exact h.atr f hf
    · rw [gav]; exact ⟨Int.le_refl _, hm.toHead.step h0 (by omega)⟩
  · rcases List.eq_nil_or_concat H with rfl | ⟨H', z, rfl⟩
    · have e2 : F ++ [v] = (G' ++ [f]) ++ [g] := by rw [e]; simp
      obtain ⟨e3, e4⟩ := List.append_inj' e2 rfl
      obtain rfl := List.singleton_inj.1 e4
      rcases hF with rfl | ⟨G, u, e5, hat, hcol⟩
      · simp at e3
      · rw [e5] at e3
        obtain ⟨_, e6⟩ := List.append_inj' e3 rfl
        obtain rfl := List.singleton_inj.1 e6
        rw [gaS u (h.FS u (by rw [e5]; simp))]
        exact ⟨hat, hcol⟩
    · rw [List.concat_eq_append] at e
      have e2 : F ++ [v] = (G' ++ f :: g :: H') ++ [z] := by rw [e]; simp
      obtain ⟨e3, e4⟩ := List.append_inj' e2 rfl
      rw [gaS f (h.FS f (by rw [e3]; simp))]
      exact h.chain G' f g H' e3
  · rcases mS hx with hx1 | rfl
    · have hxF' : x ∉ F := fun hm => hxF (by simp [hm])
      rcases mF hf with hf1 | rfl
      · have hfS := h.FS f hf1
        rw [gsS f hfS, gsS x hx1] at hlt
        rw [glS f hfS, glS x hx1]
        have hseg := h.Seg x hx1 hxF' f hf1 hlt (fun g hg hlt' => by
          have := hmax g (by simp [hg]) (by rw [gsS g (h.FS g hg), gsS x hx1]; exact hlt')
          rwa [gsS g (h.FS g hg), gsS f hfS] at this)
        rcases hseg with hs | ⟨⟨G', e⟩, _, hc, _⟩
        · exact .inl hs
        · exfalso
          rcases hF with rfl | ⟨G, u, e5, hat, hcol⟩
          · simp at hf1
          · rw [e5] at e
            obtain ⟨_, e6⟩ := List.append_inj' e rfl
            obtain rfl := List.singleton_inj.1 e6
            rw [hcol] at hc
            exact hvS hc
      · rw [gsv, gsS x hx1] at hlt
        have := (h.sS x hx1).2.2.2.2
        omega
    · exact (hxF (by simp)).elim
end
section
variable {p : Pat} {n : Nat} {seen low block S S1 S2 F at_ B G L A' : List Int} {clk ct u c m : Int}
theorem TInv.ltop (h : TInv p n seen low block S (G ++ [u]) at_ clk ct) {f : Int} (hf : f ∈ G ++ [u]) : (f ∈ G ∧ f ≠ u) ∨ f = u := by
  rcases List.mem_append.1 hf with hm | hm
  · exact .inl ⟨hm, fun e => by have := h.top hm; rw [e] at this; omega⟩
  · exact .inr (List.mem_singleton.1 hm)
theorem TInv.look (h : TInv p n seen low block S (G ++ [u]) at_ clk ct) (hat : gt at_ u < gt p.start (u + 1)) (hc : gt p.cols (gt at_ u) = c) (hpn : p.rows = n)
    (hL : L.length = n) (ho : ∀ x : Int, 0 ≤ x → x ≠ u → gt L x = gt low x) (hu : gt L u = m)
    (hm : (0 ≤ gt block c ∧ m = gt low u) ∨ (c ∈ S ∧ m = min (gt low u) (gt low c))) :
    TInv p n seen L block S (G ++ [u]) (at_.set u.toNat (gt at_ u + 1)) clk ct := by
  have huS := h.FS u (by simp)
  have hur := h.sS u huS
  have l4 := h.l4
  have hua := h.atr u (by simp)
  have ga : ∀ x : Int, 0 ≤ x → x ≠ u → gt (at_.set u.toNat (gt at_ u + 1)) x = gt at_ x := fun x x0 e => by rw [gt_setI hur.1 (by omega) x0, if_neg e]
  have gau : gt (at_.set u.toNat (gt at_ u + 1)) u = gt at_ u + 1 := by rw [gt_setI hur.1 (by omega) hur.1, if_pos rfl]
  have gl : ∀ x, x ∈ S → x ≠ u → gt L x = gt low x := fun x hx e => ho x (h.sS x hx).1 e
  have mle : m ≤ gt low u := by rcases hm with hm | hm <;> omega
  have he : hasB p u c = true := hasB_iff.2 ⟨hur.1, by omega, gt at_ u, hua.1, hat, hc⟩
  have notTop : ∀ x, x ∈ S → x ∉ G ++ [u] → x ≠ u := fun x _ hx e => hx (by simp [e])
  refine ⟨h.l1, hL, h.l3, by rw [List.length_set]; exact l4, h.clk0, h.ct0, h.sS, h.srt, h.cls, h.I1, h.I2, h.used, fun x hx => ?_, fun x hx hxF => ?_, h.FS, h.Fs, h.R, fun x hx k k0 k1 hk => ?_, fun f hf => ?_, fun G' f g H e => ?_, fun x hx hxF f hf hlt hmax => ?_⟩
  · by_cases e : x = u
    · subst e
      obtain ⟨y', _, e1, hw1, hle1⟩ := h.I3 x huS
      rcases hm with hm | hm
      · exact ⟨y', by assumption, by rw [hu, hm.2]; exact e1, hw1, hle1⟩
      · by_cases hmin : gt low x ≤ gt low c
        · exact ⟨y', by assumption, by rw [hu, hm.2, Int.min_eq_left hmin]; exact e1, hw1, hle1⟩
        · obtain ⟨y, hy, e2, hw2, hle2⟩ := h.I3 c hm.1
          have e3 : m = gt low c := by rw [hm.2]; exact Int.min_eq_right (by omega)
          exact ⟨y, hy, by rw [hu, e3]; exact e2, (Way.one he).trans hw2, by omega⟩
    · obtain ⟨y, hy, e2, hw2, hle2⟩ := h.I3 x hx
      exact ⟨y, hy, by rw [gl x hx e]; exact e2, hw2, hle2⟩
  · rw [gl x hx (notTop x hx hxF)]
    exact h.N x hx hxF
  · by_cases e : x = u
    · subst e
      have hk' := hk (by simp)
      rw [gau] at hk'
      by_cases e2 : k = gt at_ x
      · subst e2
        rw [hc]
        rcases hm with hm | hm
        · exact .inl hm.1
        · obtain ⟨y, hy, e3, hw3, hle3⟩ := h.I3 c hm.1
          exact .inr ⟨hm.1, by rw [hu]; omega⟩
      · rcases h.P x hx k k0 k1 (fun _ => by omega) with h1 | h1
        · exact .inl h1
        · exact .inr ⟨h1.1, by rw [hu]; have := h1.2; omega⟩
    · rcases h.P x hx k k0 k1 (fun hm => by have := hk hm; rwa [ga x (h.sS x hx).1 e] at this) with h1 | h1
      · exact .inl h1
      · exact .inr ⟨h1.1, by rw [gl x hx e]; exact h1.2⟩
  · by_cases e : f = u
    · subst e; rw [gau]; omega
    · rw [ga f (h.sS f (h.FS f hf)).1 e]; exact h.atr f hf
  · have hf : f ∈ G ++ [u] := by rw [e]; simp
    have hg : g ∈ G ++ [u] := by rw [e]; simp
    have hne : f ≠ u := fun e2 => by
      have hs := h.Fs
      rw [e, List.pairwise_append, List.pairwise_cons] at hs
      have h1 := hs.2.1.1 g (by simp)
      rcases h.ltop hg with h2 | h2
      · have := h.top h2.1; rw [e2] at h1; omega
      · rw [e2, h2] at h1; omega
    rw [ga f (h.sS f (h.FS f hf)).1 hne]
    exact h.chain G' f g H e
  · rw [gl x hx (notTop x hx hxF)]
    have hseg := h.Seg x hx hxF f hf hlt hmax
    by_cases e : f = u
    · subst e
      rw [hu]
      rcases hseg with hs | ⟨_, _, hcS, hcl⟩
      · exact .inl (by omega)
      · rw [hc] at hcS hcl
        rcases hm with hm | hm
        · have := (h.sS c hcS).2.2.1; omega
        · exact .inl (by omega)
    · rw [gl f (h.FS f hf) e]
      rcases hseg with hs | ⟨⟨G', e2⟩, _⟩
      · exact .inl hs
      · exact (e (List.singleton_inj.1 (List.append_inj' e2 rfl).2).symm).elim
theorem TInv.popUp (h : TInv p n seen low block S (G ++ [u]) at_ clk ct) (hat : gt at_ u = gt p.start (u + 1)) (hl : gt low u ≠ gt seen u) : TInv p n seen low block S G at_ clk ct := by
  have huS := h.FS u (by simp)
  have hlt : gt low u < gt seen u := by
    obtain ⟨y, hy, e, _, hle⟩ := h.I3 u huS
    omega
  refine ⟨h.l1, h.l2, h.l3, h.l4, h.clk0, h.ct0, h.sS, h.srt, h.cls, h.I1, h.I2, h.used, h.I3, fun x hx hxG => ?_, fun f hf => h.FS f (by simp [hf]), ?_, fun f hf => h.R f (by simp [hf]), fun x hx k k0 k1 hk => ?_, fun f hf => h.atr f (by simp [hf]), fun G' f g H e => h.chain G' f g (H ++ [u]) (by rw [e]; simp), fun x hx hxG f hf hltx hmax => ?_⟩
  · by_cases hxF : x ∈ G ++ [u]
    · rcases h.ltop hxF with h1 | h1
      · exact (hxG h1.1).elim
      · rw [h1]; exact hlt
    · exact h.N x hx hxF
  · have := h.Fs
    rw [List.pairwise_append] at this
    exact this.1
  · refine h.P x hx k k0 k1 (fun hxF => ?_)
    rcases h.ltop hxF with h1 | h1
    · exact hk h1.1
    · subst h1; omega
  · have topG : gt seen u ≤ gt seen x → ∃ G', G = G' ++ [f] := fun hux => by
      rcases List.eq_nil_or_concat G with e | ⟨G', z, e⟩
      · subst e; simp at hf
      · rw [List.concat_eq_append] at e
        have hz : z ∈ G := by rw [e]; simp
        have h1 := hmax z hz (by have := h.top hz; omega)
        refine ⟨G', ?_⟩
        have hFs := h.Fs
        rw [List.pairwise_append] at hFs
        have h2 := hFs.1
        rw [e, List.pairwise_append] at h2
        rw [e] at hf ⊢
        rcases List.mem_append.1 hf with h3 | h3
        · have := h2.2.2 f h3 z (by simp); omega
        · rw [List.mem_singleton.1 h3]
    have edge : gt seen u ≤ gt seen x → gt low u ≤ gt low x → (∃ G', G = G' ++ [f]) ∧ gt at_ f < gt p.start (f + 1) ∧ gt p.cols (gt at_ f) ∈ S ∧ gt low (gt p.cols (gt at_ f)) ≤ gt low x := fun hux hl2 => by
      obtain ⟨G', e⟩ := topG hux
      have hc := h.chain G' f u [] (by rw [e]; simp)
      exact ⟨⟨G', e⟩, hc.1, by rw [hc.2]; exact huS, by rw [hc.2]; exact hl2⟩
    by_cases e : x = u
    · exact .inr (edge (by rw [e]; exact Int.le_refl _) (by rw [e]; exact Int.le_refl _))
    · have hxF : x ∉ G ++ [u] := fun hm => by
        rcases h.ltop hm with h1 | h1
        · exact hxG h1.1
        · exact e h1
      by_cases hux : gt seen u < gt seen x
      · have hseg := h.Seg x hx hxF u (by simp) hux (fun g hg _ => by
          rcases h.ltop hg with h1 | h1
          · have := h.top h1.1; omega
          · rw [h1]; exact Int.le_refl _)
        rcases hseg with hs | hs
        · exact .inr (edge (by omega) hs)
        · have := hs.2.1; omega
      · have hseg := h.Seg x hx hxF f (by simp [hf]) hltx (fun g hg hgl => by
          rcases h.ltop hg with h1 | h1
          · exact hmax g h1.1 hgl
          · rw [h1] at hgl; omega)
        rcases hseg with hs | ⟨⟨G', e2⟩, _⟩
        · exact .inl hs
        · have := h.top hf
          rw [← List.singleton_inj.1 (List.append_inj' e2 rfl).2] at this
          omega
theorem TInv.at (h : TInv p n seen low block S [] at_ clk ct) (hl : A'.length = n) : TInv p n seen low block S [] A' clk ct :=
  ⟨h.l1, h.l2, h.l3, hl, h.clk0, h.ct0, h.sS, h.srt, h.cls, h.I1, h.I2, h.used, h.I3, h.N, by simp, .nil, by simp, fun x hx k k0 k1 _ => h.P x hx k k0 k1 (by simp), by simp, fun G f g H e => by simp at e, fun x hx hxF f hf => by simp at hf⟩
theorem gt_rep {i x : Int} (h0 : 0 ≤ i) (h1 : i < n) : gt (List.replicate n x) i = x := by
  rw [gt_elem h0 (by simpa using h1)]; simp
theorem TInv.zero (hpn : p.rows = n) : TInv p n (List.replicate n 0) (List.replicate n 0) (List.replicate n (-1)) [] [] (List.replicate n 0) 0 0 := by
  refine ⟨by simp, by simp, by simp, by simp, by omega, by omega, by simp, .nil, fun x x0 x1 => .inl ⟨gt_rep x0 x1, gt_rep x0 x1⟩, fun x c hx he => ?_, fun x y x0 x1 y0 y1 hx => by rw [gt_rep x0 x1] at hx; omega, fun b b0 b1 => by omega, by simp, by simp, by simp, .nil, by simp, by simp, by simp, fun G f g H e => by simp at e, by simp⟩
  obtain ⟨x0, x1, _⟩ := hasB_iff.1 he
  rw [gt_rep x0 (by omega)] at hx
  omega
theorem TInv.all (h : TInv p n seen low block [] [] at_ clk ct) (hs : ∀ x : Int, 0 ≤ x → x < n → gt seen x ≠ 0) {x : Int} (x0 : 0 ≤ x) (x1 : x < n) : 0 ≤ gt block x ∧ gt block x < ct := by
  rcases h.cls x x0 x1 with h1 | h1 | h1
  · exact (hs x x0 x1 h1.1).elim
  · simp at h1
  · exact h1.2.2
/-- how many are 0 -/
def zers (l : List Int) : Nat := l.countP (fun x => decide (x = 0))
theorem zers_set {l : List Int} {i : Nat} {x : Int} (h : i < l.length) (h1 : l[i] = 0) (h2 : x ≠ 0) : zers (l.set i x) + 1 = zers l := by
  have e : l.set i x = l.take i ++ (x :: l.drop (i + 1)) := List.set_eq_take_append_cons_drop.trans (if_pos h)
  have e2 : l = l.take i ++ (l[i] :: l.drop (i + 1)) := by simp
  have h3 : zers l = zers (l.take i) + (1 + zers (l.drop (i + 1))) := by
    conv => lhs; rw [e2]
    unfold zers
    rw [List.countP_append, List.countP_cons, if_pos (by simpa using h1)]
    omega
  rw [e, h3]
  unfold zers
  rw [List.countP_append, List.countP_cons, if_neg (by simpa using h2)]
  omega
theorem zers_le (l : List Int) : zers l ≤ l.length := List.countP_le_length
theorem incr_len {f : Int → Int} : ∀ {l : List Int} {lo hi : Int}, l.Pairwise (fun x y => f x < f y) → (∀ x ∈ l, lo < f x ∧ f x ≤ hi) → lo ≤ hi → (l.length : Int) + lo ≤ hi
  | [], lo, hi, _, _, h => by simpa using h
  | x :: l, lo, hi, hp, hr, h => by
    rw [List.pairwise_cons] at hp
    have hx := hr x (by simp)
    have := incr_len (l := l) (lo := f x) (hi := hi) hp.2 (fun y hy => ⟨hp.1 y hy, (hr y (by simp [hy])).2⟩) (by omega)
    rw [List.length_cons]
    omega
theorem TInv.lenS (h : TInv p n seen low block S F at_ clk ct) : (S.length : Int) ≤ clk := by
  have := incr_len (lo := 0) (hi := clk) h.srt (fun x hx => ⟨by have := (h.sS x hx).2.2.2.1; omega, (h.sS x hx).2.2.2.2⟩) h.clk0
  omega
theorem TInv.lenF (h : TInv p n seen low block S F at_ clk ct) : (F.length : Int) ≤ clk := by
  have := incr_len (lo := 0) (hi := clk) h.Fs (fun x hx => ⟨by have := (h.sS x (h.FS x hx)).2.2.2.1; omega, (h.sS x (h.FS x hx)).2.2.2.2⟩) h.clk0
  omega
/-- negs drops where one is numbered and none loses its number -/
theorem negs_lt {l l' : List Int} (hl : l'.length = l.length) (h : ∀ i : Int, 0 ≤ i → i < l.length → 0 ≤ gt l i → 0 ≤ gt l' i) {a : Int} (a0 : 0 ≤ a) (a1 : a < l.length) (h1 : gt l a < 0) (h2 : 0 ≤ gt l' a) : negs l' + 1 ≤ negs l := by
  induction l generalizing l' a with
  | nil => simp at a1; omega
  | cons x l ih =>
    cases l' with
    | nil => simp at hl
    | cons y l' =>
      have hl' : l'.length = l.length := by simpa using hl
      have gs : ∀ (z : Int) (m : List Int) (i : Int), 0 ≤ i → gt (z :: m) (i + 1) = gt m i := fun z m i i0 => by
        unfold gt
        rw [show (i + 1).toNat = i.toNat + 1 by omega]
        rfl
      have ht : ∀ i : Int, 0 ≤ i → i < l.length → 0 ≤ gt l i → 0 ≤ gt l' i := fun i i0 i1 hi => by
        have := h (i + 1) (by omega) (by rw [List.length_cons]; omega) (by rw [gs _ _ _ i0]; exact hi)
        rwa [gs _ _ _ i0] at this
      have c1 : negs (x :: l) = negs l + if x < 0 then 1 else 0 := by unfold negs; rw [List.countP_cons]; simp
      have c2 : negs (y :: l') = negs l' + if y < 0 then 1 else 0 := by unfold negs; rw [List.countP_cons]; simp
      have h0 : 0 ≤ x → 0 ≤ y := fun hx => h 0 (by omega) (by rw [List.length_cons]; omega) hx
      by_cases e : a = 0
      · subst e
        have hx : x < 0 := h1
        have hy : 0 ≤ y := h2
        have hle : ∀ (l l' : List Int), l'.length = l.length → (∀ i : Int, 0 ≤ i → i < l.length → 0 ≤ gt l i → 0 ≤ gt l' i) → negs l' ≤ negs l := by
          intro l
          induction l with
          | nil => intro l' hl _; rw [List.length_eq_zero_iff.1 hl]; exact Nat.le_refl _
          | cons x l ih =>
            intro l' hl h
            cases l' with
            | nil => simp at hl
            | cons y l' =>
              have c1 : negs (x :: l) = negs l + if x < 0 then 1 else 0 := by unfold negs; rw [List.countP_cons]; simp
              have c2 : negs (y :: l') = negs l' + if y < 0 then 1 else 0 := by unfold negs; rw [List.countP_cons]; simp
              have h0 : 0 ≤ x → 0 ≤ y := fun hx => h 0 (by omega) (by rw [List.length_cons]; omega) hx
              have := ih l' (by simpa using hl) (fun i i0 i1 hi => by
                have := h (i + 1) (by omega) (by rw [List.length_cons]; omega) (by rw [gs _ _ _ i0]; exact hi)
                rwa [gs _ _ _ i0] at this)
              rw [c1, c2]
              split <;> split <;> omega
        have := hle l l' hl' ht
        rw [c1, c2, if_pos hx, if_neg (by omega)]
        omega
      · have h3 := ih hl' ht (a := a - 1) (by omega) (by rw [List.length_cons] at a1; omega) (by rw [← gs x l _ (by omega), show a - 1 + 1 = a by omega]; exact h1) (by rw [← gs y l' _ (by omega), show a - 1 + 1 = a by omega]; exact h2)
        rw [c1, c2]
        split <;> split <;> omega
/-- what bounds the walk's lists -/
structure WB (n : Nat) (seen block : List Int) (clk ct : Int) : Prop where
  a : clk + zers seen ≤ n
  b : ct + negs block ≤ n
theorem WB.zero : WB n (List.replicate n 0) (List.replicate n (-1)) 0 0 := by
  refine ⟨?_, ?_⟩
  · have := zers_le (List.replicate n (0 : Int)); simp at this; omega
  · have := negs_le (List.replicate n (-1 : Int)); simp at this; omega
theorem WB.enter (h : WB n seen block clk ct) (hl : seen.length = n) (h0 : 0 ≤ u) (h1 : u < n) (hu : gt seen u = 0) (hc : 0 ≤ clk) : WB n (seen.set u.toNat (clk + 1)) block (clk + 1) ct ∧ zers (seen.set u.toNat (clk + 1)) + 1 = zers seen := by
  have hlt : u.toNat < seen.length := by omega
  have := zers_set (x := clk + 1) hlt (by rw [gt_elem h0 (by omega)] at hu; exact hu) (by omega)
  have ha := h.a
  exact ⟨⟨by omega, h.b⟩, this⟩
theorem WB.close (h : WB n seen block clk ct) (hi : TInv p n seen low block S F at_ clk ct) (hu : u ∈ S) (hS : ∀ x ∈ u :: S2, x ∈ S) (hB : CB n block (u :: S2) ct B) : WB n seen B clk (ct + 1) := by
  have hc0 := hi.ct0
  have hr := hi.sS u hu
  have hl := hi.l3
  have hlB := hB.len
  have := negs_lt (l := block) (l' := B) (by omega) (fun i i0 i1 hg => by
    by_cases hm : i ∈ u :: S2
    · rw [hB.on i hm]; exact hc0
    · rw [hB.off i i0 (by omega) hm]; exact hg) hr.1 (by omega) (by omega) (by rw [hB.on u (by simp)]; exact hc0)
  have hb := h.b
  exact ⟨h.a, by omega⟩
theorem WB.len {s : WS} (h : WB n s.seen s.block s.clk s.ct) (hi : TInv p n s.seen s.low s.block s.S F at_ s.clk s.ct) (hn : n ≤ 1000) : WLen n s := by
  have h1 := hi.lenS
  have := h.a
  have := h.b
  exact ⟨hi.l1, hi.l2, hi.l3, hi.clk0, by omega, by omega, hi.ct0, by omega⟩
end
end Go.Proofs.Ytofngbaefbbeiaa
