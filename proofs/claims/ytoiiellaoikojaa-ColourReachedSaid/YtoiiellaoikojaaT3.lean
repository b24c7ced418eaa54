/- The library's sorted keys of a map. -/
import Derived.Test.YtoiiellaoikojaaLB
import Derived.Test.YtoiiellaoikojaaShelf
set_option linter.unusedVariables false
set_option linter.unusedSimpArgs false
set_option maxHeartbeats 2000000
namespace Go.Proofs.Ytoiiellaoikojaa
open Go.RowKit Go.Maps Go.Sort Go.Shelf

abbrev FK : FuncId := 115
abbrev FK1 : FuncId := 122
abbrev FS : FuncId := 114

theorem sortsA (m : Nat) : AnyZI.SortsIn Try.prog Try.sortedA_ren Fence.wide m :=
  ⟨fun blk off cap ss W hH hblk hsz => callsIn_wide.2 (AnyM.slices_Sort_int Try.sortA blk off cap ss W hH hblk hsz),
   fun p cap W => callsIn_wide.2 (AnyM.slices_Sort_int_none Try.sortA p cap W)⟩

theorem keys_c (m : Nat) (w : World) : Calls Try.prog FK [.map (some m)].toArray w (Ret [] (fun b : Nat => .func (.func FK1) #[] #[.pointer (some ⟨b, 0, none⟩)]) (fun b => [blk b [.map (some m)] TM]) (fun _ => True) w) := by
  have cK : CallsIn Fence.wide 5 Try.prog FK #[.map (some m)] w fun e w' => e = .returned (.func (.func FK1) #[] #[.pointer (some ⟨w.heap.size, 0, none⟩)]) ∧ w' = w.alloc (.cells #[.map (some m)] TM) := AnyZI.keys_in Try.keysA Fence.wide 5 trivial rfl (some m) w
  refine (callsIn_wide.1 cK).mono ?_
  rintro e w' ⟨rfl, rfl⟩
  refine ⟨w.heap.size, rfl, trivial, Only.alloc _ _ _, ?_, by simp [blk], by simp [blk]⟩
  intro r hr
  simp only [List.mem_singleton] at hr
  subst hr
  simpa [blk] using heap_alloc_new w _

theorem sorted_c {b m : Nat} {f : Int → Bool} {w : World} (hb : (blk b [.map (some m)] TM).ok w) (hm : IsSet w m f) :
    Calls Try.prog FS [.func (.func FK1) #[] #[.pointer (some ⟨b, 0, none⟩)]].toArray w (Ret [] (fun x : Option Addr × Nat × List Int => .slice x.1 x.2.2.length x.2.1) (fun x => [osl TI vi x.1 x.2.1 x.2.2]) (fun x => x.2.2.Pairwise (· < ·) ∧ ∀ y, y ∈ x.2.2 ↔ f y = true) w) := by
  obtain ⟨D0, hown, h2, h3⟩ := hm
  obtain ⟨k1, k2, k3⟩ := IsSet.keys hown h2
  have hsz := IsSet.size_le hown h2 h3
  have hlb : b < w.heap.size := by
    have h : w.heap[b]? = some _ := hb
    exact (Array.getElem?_eq_some_iff.1 h).1
  have hc : w.cell? ⟨b, 0, none⟩ = some (.map (some m)) := by
    have h : w.heap[b]? = some (.cells #[.map (some m)] TM (0, 0)) := hb
    simp [World.cell?, h]
  have hseq : SeqGives Fence.wide 2 Try.prog FK1 #[.pointer (some ⟨b, 0, none⟩)] encZ (fun ss => ss.Perm (intKeys D0)) (size D0) w :=
    AnyZI.keys_gives (ρ := Try.keysA_ren) { Try.keysA with } Fence.wide _ trivial rfl (by omega) b m (size D0) D0 _ hlb hc hown
  have cS := AnyZI.sorted_in Try.sortedA Fence.wide 5 trivial trivial trivial trivial rfl (by omega) (sortsA _) (enters_of Try.func121 (by kernel_rfl) rfl) FK1 #[.pointer (some ⟨b, 0, none⟩)] trivial (enters_of Try.func122 (by kernel_rfl) rfl) _ _ (by simp [maxLen]; omega) (by omega) w hseq
  change CallsIn _ _ Try.prog FS _ _ _ at cS
  refine (callsIn_wide.1 cS).mono ?_
  rintro e w' ⟨v, ss, rfl, hS, hrow, hnil, hb'⟩
  have hp : (ss.mergeSort leI).Perm (intKeys D0) := (List.mergeSort_perm ss leI).trans hS
  have hle : (ss.mergeSort leI).Pairwise (fun a b => leI a b = true) := List.pairwise_mergeSort (fun a b c h1 h2 => by simp only [leI, decide_eq_true_eq] at *; omega) (fun a b => by simp only [leI, Bool.or_eq_true, decide_eq_true_eq]; omega) ss
  have hnd : (ss.mergeSort leI).Nodup := (List.Perm.nodup_iff hp).2 k1
  have hlt : (ss.mergeSort leI).Pairwise (· < ·) := by
    refine List.Pairwise.imp₂ (fun a b h1 h2 => ?_) hle hnd
    simp only [leI, decide_eq_true_eq] at h1
    have h2 : a ≠ b := h2
    omega
  have hlen : (ss.mergeSort leI).length = ss.length := (List.mergeSort_perm ss leI).length_eq
  have hrow' : w'.ownsRow w.heap.size TI 1 v (ss.mergeSort leI).length ((ss.mergeSort leI).map vi) := by rw [hlen]; exact hrow
  have hv : ∃ A c, v = .slice A (ss.mergeSort leI).length c ∧ ∀ a, A = some a → w.heap.size ≤ a.block ∧ a.block < w'.heap.size := by
    rcases hrow'.2 with ⟨h4, h5⟩ | ⟨g, cap, cur, h4, h5, h6, _⟩
    · exact ⟨none, 0, by rw [h4, h5], fun a ha => by cases ha⟩
    · exact ⟨_, cap, h4, fun a ha => by cases ha; exact ⟨h5, (Array.getElem?_eq_some_iff.1 h6).1⟩⟩
  obtain ⟨A, c, rfl, hA⟩ := hv
  refine ⟨(A, c, ss.mergeSort leI), rfl, ⟨hlt, fun y => (hp.mem_iff).trans (k2 y)⟩, Only.below hb', ?_, ?_, ?_⟩
  · intro r hr
    simp only [List.mem_singleton] at hr
    subst hr
    exact ownsRow_base_a hrow' (Nat.zero_le _)
  · intro x hx
    simp only [List.flatMap_cons, List.flatMap_nil, List.append_nil, osl] at hx
    cases A with
    | none => simp [ownB] at hx
    | some a =>
      simp [ownB] at hx
      subst hx
      exact ⟨.inr (hA a rfl).1, (hA a rfl).2⟩
  · cases A <;> simp [osl, ownB]
end Go.Proofs.Ytoiiellaoikojaa
