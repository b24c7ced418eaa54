/- Walks: colours: the reference's right. Greedy of every kind; the reference's; the law ColourGreedy. -/
import Derived.Test.YtoiiellaoikojaaGreatOB
set_option linter.unusedVariables false
set_option linter.unusedSimpArgs false
set_option maxHeartbeats 8000000
namespace Go.Proofs.YtoiiellaoikojaaGreat
open Go.RowKit Classical
section
variable {F : Int → Int → Bool} {n N m : Nat} {on : List Bool} {A B : Option Addr} {c d : Nat} {K : List Int} {v kd : Int}
end
section
variable {p : Pat} {x : PA} {kd : Int} {A B : Option Addr} {c d : Nat} {l cs : List Int}
theorem greedyA_c (w : World) (hp : RdP w x p) (hl : Rds vi w A c l) :
    Calls Tryz.prog 29 [vi kd, pvl x p, .slice A l.length c].toArray w (Ret [] (fun y : RX => .tuple #[.slice y.A y.xs.length y.c, vi (numS (grL kd p l)), vi (grE kd p l)]) (fun y => [osl TI vi y.A y.c y.xs]) (fun y => y.xs = grL kd p l) w) := by
  have op := hp.old
  by_cases he : thE kd p = 0
  · obtain ⟨hm, hk⟩ := thE_zero he
    have h0 := hm.toHead.r0
    by_cases ho : IsOrd l (thN kd p)
    · have hL : grL kd p l = greedyS kd (thF kd p) (thN kd p).toNat l := by unfold grL; rw [if_neg (not_not_intro he), if_neg (not_not_intro ho)]
      have hE : grE kd p l = 0 := by unfold grE; rw [if_neg (not_not_intro he), if_neg (not_not_intro ho)]
      rw [hL, hE]
      rcases hk with ⟨hk, hg⟩ | hk | hk
      · have k2 : kd ≠ 2 := by omega
        have k3 : kd ≠ 3 := by omega
        rw [show thN kd p = p.rows from if_neg k2] at ho ⊢
        rw [show thF kd p = hasB p from (if_neg k2).trans (if_neg k3)]
        by_cases h5 : kd = 5
        · exact (greedy_acy (n := p.rows.toNat) (R := fun _ => []) (yf := fun _ => x) w h5 hm (by omega) hg.1.2.1 (fun a b h => by rw [← hg.sym]; exact h) hg.irr hl (by rw [show ((p.rows.toNat : Nat) : Int) = p.rows by omega]; exact ho)
            (fun w' ho' => ordG_c w' ⟨hp.s.only ho', hp.c.only ho'⟩ (hl.only ho') hm hg hk ho) (fun t => RdB.nil op)).mono fun e w' h => ret_val h fun y hy => ⟨by rw [hy], hy⟩
        · exact (greedy_ok (n := p.rows.toNat) (R := fun _ => []) (yf := fun _ => x) w h5 hm (by omega) hg.1.2.1 (fun a b h => by rw [← hg.sym]; exact h) hg.irr hl (by rw [show ((p.rows.toNat : Nat) : Int) = p.rows by omega]; exact ho)
            (fun w' ho' => ordG_c w' ⟨hp.s.only ho', hp.c.only ho'⟩ (hl.only ho') hm hg hk ho) (fun t => RdB.nil op)).mono fun e w' h => ret_val h fun y hy => ⟨by rw [hy], hy⟩
      · obtain ⟨f1, f2, f3, f4⟩ := cols_facts hm
        have hg := gr_cols hm
        have e1 : thN kd p = (colsS p).1.rows := by rw [f2]; exact if_pos hk
        have h0' := f1.toHead.r0
        rw [e1] at ho ⊢
        rw [show thF kd p = hasB (colsS p).1 by rw [f4]; exact if_pos hk]
        exact (greedy_ok (n := (colsS p).1.rows.toNat) (R := fun t => PatR t.y (colsS p).1) (yf := fun t => t.y) w (by omega) f1 (by omega) (by omega) (fun a b h => by rw [← hg.sym]; exact h) hg.irr hl (by rw [show (((colsS p).1.rows.toNat : Nat) : Int) = (colsS p).1.rows by omega]; exact ho)
          (fun w' ho' => ordcols_c w' ⟨hp.s.only ho', hp.c.only ho'⟩ (hl.only ho') hm hk ho) (fun t => RdB.own)).mono fun e w' h => ret_val h fun y hy => ⟨by rw [hy], hy⟩
      · obtain ⟨f1, f2, f3, f4⟩ := rows_facts hm
        have hg := gr_rows hm
        have e1 : thN kd p = (rowsS p).1.rows := by rw [f2]; exact if_neg (by omega)
        have h0' := f1.toHead.r0
        rw [e1] at ho ⊢
        rw [show thF kd p = hasB (rowsS p).1 by rw [f4]; exact (if_neg (by omega)).trans (if_pos hk)]
        exact (greedy_ok (n := (rowsS p).1.rows.toNat) (R := fun t => PatR t.y (rowsS p).1) (yf := fun t => t.y) w (by omega) f1 (by omega) (by omega) (fun a b h => by rw [← hg.sym]; exact h) hg.irr hl (by rw [show (((rowsS p).1.rows.toNat : Nat) : Int) = (rowsS p).1.rows by omega]; exact ho)
          (fun w' ho' => ordrows_c w' ⟨hp.s.only ho', hp.c.only ho'⟩ (hl.only ho') hm hk ho) (fun t => RdB.own)).mono fun e w' h => ret_val h fun y hy => ⟨by rw [hy], hy⟩
    · have hL : grL kd p l = [] := by unfold grL; rw [if_neg (not_not_intro he), if_pos ho]
      have hE : grE kd p l = 182 := by unfold grE; rw [if_neg (not_not_intro he), if_pos ho]
      rw [hL, hE]
      refine greedyX_c w hp hl 182 (by decide) fun w' hp' hl' => ?_
      rcases hk with ⟨hk, hg⟩ | hk | hk
      · rw [show thN kd p = p.rows from if_neg (by omega)] at ho
        exact ordNG_c w' hp' hl' hm hg hk ho
      · rw [show thN kd p = (colsS p).1.rows by rw [(cols_facts hm).2.1]; exact if_pos hk] at ho
        exact ordNcols_c w' hp' hl' hm hk ho
      · rw [show thN kd p = (rowsS p).1.rows by rw [(rows_facts hm).2.1]; exact if_neg (by omega)] at ho
        exact ordNrows_c w' hp' hl' hm hk ho
  · have hL : grL kd p l = [] := by unfold grL; rw [if_pos he]
    have hE : grE kd p l = thE kd p := by unfold grE; rw [if_pos he]
    rw [hL, hE]
    exact greedyX_c w hp hl (thE kd p) he fun w' hp' hl' => ordE_c w' hp' he
theorem thF_gr (he : thE kd p = 0) : ∃ g : Pat, IsGr g ∧ g.rows = thN kd p ∧ hasB g = thF kd p := by
  obtain ⟨hm, ⟨hk, hg⟩ | rfl | rfl⟩ := thE_zero he
  · exact ⟨p, hg, (if_neg (by omega)).symm, ((if_neg (by omega)).trans (if_neg (by omega))).symm⟩
  · obtain ⟨f1, f2, f3, f4⟩ := cols_facts hm
    exact ⟨_, gr_cols hm, f2.trans (if_pos rfl).symm, f4.trans (if_pos rfl).symm⟩
  · obtain ⟨f1, f2, f3, f4⟩ := rows_facts hm
    exact ⟨_, gr_rows hm, f2.trans (if_neg (by decide)).symm, f4.trans ((if_neg (by decide)).trans (if_pos rfl)).symm⟩
end
end Go.Proofs.YtoiiellaoikojaaGreat
