/- A fence read from its text: the program. -/
import Derived.Test.YtplnfdgokpgbcaaDoorRdI
namespace Go.Proofs.YtplnfdgokpgbcaaDoor
open Go Go.Eng
set_option linter.unusedSimpArgs false
set_option linter.unusedVariables false
set_option maxRecDepth 100000
set_option maxHeartbeats 4000000

def rfOkS : Fun
  | [.s s], [] => some (.t2 (.ow 0 (fenL s).length .hur 94) (.i .i64 0), [.l .hur (fenL s)], [fenO s = true ∧ s.size ≤ 1073741000])
  | _, _ => .none
def rfErrS : Fun
  | [.s s], [] => some (.t2 .nsl (.i .i64 5), [], [fenO s = false ∧ s.size ≤ 1073741000])
  | _, _ => .none
set_option maxRecDepth 100000 in
theorem s_readFenceOk : Sound Tryd.prog 26 rfOkS := by
  intro args M r M' vs h hvs
  unfold rfOkS at h
  split at h
  case h_2 => cases h
  rename_i s
  cases h
  refine SpecOK.assume fun hA hM => ?_
  have htb := (TbOk.cons s_split Tryd.func67 rfl rfl (TbOk.cons s_cutSuffix Tryd.func68 rfl rfl (TbOk.cons s_readSpot Tryd.func69 rfl rfl (TbOk.nil : TbOk Tryd.prog tb0))))
  refine SpecOK.of_goes [0] Tryd.func26 rfl ?_
  obtain ⟨⟨hok, hs⟩, -⟩ := hvs
  clear hA hM
  by_cases h0 : s.size = 0
  · have e0 : fenL s = [] := if_pos h0
    rw [e0]
    refine Goes.tree Γ_ok htb 1000 false false Tryd.func26 rfl ?_
    ((try simp only [decide_eq_true_eq, decide_eq_false_iff_not, Bool.not_eq_true', Bool.not_eq_false', Bool.not_true, Bool.not_false, Bool.and_eq_true, Bool.or_eq_true, bne_iff_ne, beq_iff_eq, ne_eq]); (try simp only [rng, lo, hi, mnI, mxI, Int.toNat_natCast, Sg.n, Nat.mul_one, Nat.zero_add, Nat.add_zero, Nat.reduceAdd, List.getD_cons_zero, List.getD_cons_succ, empty_size, h0]))
    ((repeat' (first | (with_reducible apply And.intro) | intro _)); all_goals (first | exact trivial | (with_reducible assumption) | (show (_ : List Blk) = _; rfl) | (first | exact trivial | (with_reducible assumption) | omega | (split <;> omega) | (split <;> split <;> omega)) | skip); all_goals (try (refine ⟨rfl, (by first | exact Nat.le_refl _ | exact Nat.le_of_ble_eq_true rfl), rfl, rfl, ?_, (by repeat' (first | exact trivial | rfl | apply And.intro)), rfl, rfl⟩)))
    all_goals (try first | contradiction | exact absurd trivial (by assumption) | exact sameA_refl _)
  · have e0 : fenL s = (splL s 32).map hwO := if_neg h0
    rw [e0, ← fenN_all]
    obtain ⟨hle, hgd⟩ := fenO_pos h0 hok
    have hpos := splL_pos s 32
    have hszs := splL_size s 32
    have e32 : byA ⟨#[32]⟩ 0 = 32 := rfl
    have e124 : byA ⟨#[124]⟩ 0 = 124 := rfl
    have e95 : byA ⟨#[95]⟩ 0 = 95 := rfl
    refine Goes.tree Γ_ok htb 1000 false false Tryd.func26 rfl ?_
    ((try simp only [decide_eq_true_eq, decide_eq_false_iff_not, Bool.not_eq_true', Bool.not_eq_false', Bool.not_true, Bool.not_false, Bool.and_eq_true, Bool.or_eq_true, bne_iff_ne, beq_iff_eq, ne_eq]); (try simp only [rng, lo, hi, mnI, mxI, Int.toNat_natCast, Sg.n, Nat.mul_one, Nat.zero_add, Nat.add_zero, Nat.reduceAdd, List.getD_cons_zero, List.getD_cons_succ, empty_size, h0, e32]))
    (repeat' (first | (with_reducible apply And.intro) | intro _))
    all_goals (try contradiction)
    all_goals (try first | exact trivial | rfl | (first | exact trivial | (with_reducible assumption) | omega | (split <;> omega) | (split <;> split <;> omega)))
    generalize splL s 32 = ws at *
    refine ⟨?_⟩
    refine Goes.loopR (fun i : Nat => ws.length - i) (fun i => i ≤ ws.length) (fun i => (.any :: .any :: .any :: .any :: .ow 0 (fenN ws i).length .hur 94 :: .any :: .any :: .any :: .any :: .any :: .any :: .any :: .any :: .any :: .any :: .any :: .any :: .ow 1 ws.length .str 9 :: .i .i64 (ws.length : Int) :: .i .i64 (i:Int) :: .any :: .any :: .any :: .any :: .any :: .any :: .any :: .any :: .any :: .any :: .any :: .any :: .any :: .any :: .any :: .any :: .any :: .any :: .any :: .any :: .any :: .any :: .any :: .any :: .any :: .any :: .any :: .any :: .any :: .any :: .any :: .any :: .any :: .any :: .any :: .any :: .any :: .any :: [])) (fun i => [.l .hur (fenN ws i), .s ws]) 0 [0, 1] (Nat.zero_le _) ⟨rfl, rfl, rfl, (by repeat' (first | exact trivial | rfl | apply And.intro)), (by repeat' (first | exact trivial | rfl | apply And.intro)), rfl, rfl, rfl⟩ fun i hib ih => ?_
    have hln := fenN_len hib
    by_cases hlt : i < ws.length
    · have ih := ih (i + 1)
      rw [fenN_succ hlt] at ih
      have hw := hgd i hlt
      have hsz : (ws.getD i ⟨#[]⟩).size ≤ s.size := by
        rw [List.getD_eq_getElem?_getD, List.getElem?_eq_getElem hlt]
        exact hszs _ (List.getElem_mem hlt)
      have hmt : ws.getD i ByteArray.empty = ws.getD i ⟨#[]⟩ := rfl
      rw [← hw_same hw] at ih
      rw [← wdI_eq] at hw
      generalize fenN ws i = rows at *
      generalize ws.getD i ⟨#[]⟩ = w at *
      have cS : ∀ x b, (if cutB x b = true then x.extract 0 (x.size - 1) else x) = chop x b := fun _ _ => rfl
      have cT : chop (chop w 124) 95 = wdT w := rfl
      have hcs : ∀ x b, (chop x b).size ≤ x.size := fun x b => by
        unfold chop; split
        · exact ext_size _ _ _
        · exact Nat.le_refl _
      have hcs1 := hcs w 124
      have hcs2 := hcs (chop w 124) 95
      rw [cT] at hcs2
      have hne : (i : Int) < 180 := by omega
      obtain ⟨ho, hx⟩ : rsO (wdT w) = true ∧ (cutB w 124 != cutB (chop w 124) 95) = true := by rw [← Bool.and_eq_true]; exact hw
      have hx2 : ¬ cutB w 124 = cutB (chop w 124) 95 := fun g => by rw [g, bne_self_eq_false] at hx; cases hx
      refine Goes.tree Γ_ok htb 1000 false false Tryd.func26 rfl ?_
      ((try simp only [decide_eq_true_eq, decide_eq_false_iff_not, Bool.not_eq_true', Bool.not_eq_false', Bool.not_true, Bool.not_false, Bool.and_eq_true, Bool.or_eq_true, bne_iff_ne, beq_iff_eq, ne_eq]); (try simp only [rng, lo, hi, mnI, mxI, Int.toNat_natCast, Sg.n, Nat.mul_one, Nat.zero_add, Nat.add_zero, Nat.reduceAdd, List.getD_cons_zero, List.getD_cons_succ, hmt, e124, e95, cS, cT, ho]))
      (repeat' (first | (with_reducible apply And.intro) | intro _))
      all_goals (try with_reducible first | exact no_tf (by with_reducible assumption) | exact no_ft (by with_reducible assumption))
      all_goals (try with_reducible exact absurd (by with_reducible assumption) hx2)
      all_goals (try first | exact trivial | rfl | (with_reducible assumption) | (first | exact trivial | (with_reducible assumption) | omega | (split <;> omega) | (split <;> split <;> omega)) | omega | (exfalso; omega))
      · exact Nat.le_trans (Nat.le_of_eq List.length_append) (by rw [hln]; show i + 1 ≤ _; omega)
      · exact ⟨ih (by omega) (by omega) [4, 1] _ _ ⟨rfl, rfl, rfl, (by repeat' (first | exact trivial | rfl | apply And.intro)), (by repeat' (first | exact trivial | rfl | apply And.intro)), rfl, rfl, rfl⟩⟩
    · obtain rfl : i = ws.length := by omega
      clear ih
      refine Goes.tree Γ_ok htb 1000 false false Tryd.func26 rfl ?_
      ((try simp only [decide_eq_true_eq, decide_eq_false_iff_not, Bool.not_eq_true', Bool.not_eq_false', Bool.not_true, Bool.not_false, Bool.and_eq_true, Bool.or_eq_true, bne_iff_ne, beq_iff_eq, ne_eq]); (try simp only [rng, lo, hi, mnI, mxI, Int.toNat_natCast, Sg.n, Nat.mul_one, Nat.zero_add, Nat.add_zero, Nat.reduceAdd, List.getD_cons_zero, List.getD_cons_succ]))
      ((repeat' (first | (with_reducible apply And.intro) | intro _)); all_goals (first | exact trivial | (with_reducible assumption) | (show (_ : List Blk) = _; rfl) | (first | exact trivial | (with_reducible assumption) | omega | (split <;> omega) | (split <;> split <;> omega)) | skip); all_goals (try (refine ⟨rfl, (by first | exact Nat.le_refl _ | exact Nat.le_of_ble_eq_true rfl), rfl, rfl, ?_, (by repeat' (first | exact trivial | rfl | apply And.intro)), rfl, rfl⟩)))
      all_goals (first | contradiction | exact sameA_refl _)
set_option maxRecDepth 100000 in
theorem s_readFenceErr : Sound Tryd.prog 26 rfErrS := by
  intro args M r M' vs h hvs
  unfold rfErrS at h
  split at h
  case h_2 => cases h
  rename_i s
  cases h
  refine SpecOK.assume fun hA hM => ?_
  have htb := (TbOk.cons s_split Tryd.func67 rfl rfl (TbOk.cons s_cutSuffix Tryd.func68 rfl rfl (TbOk.cons s_readSpot Tryd.func69 rfl rfl (TbOk.nil : TbOk Tryd.prog tb0))))
  refine SpecOK.of_goes [] Tryd.func26 rfl ?_
  obtain ⟨⟨hok, hs⟩, -⟩ := hvs
  clear hA hM
  obtain ⟨h0, hbad⟩ := fenO_neg hok
  have hpos := splL_pos s 32
  have hszs := splL_size s 32
  have e32 : byA ⟨#[32]⟩ 0 = 32 := rfl
  have e124 : byA ⟨#[124]⟩ 0 = 124 := rfl
  have e95 : byA ⟨#[95]⟩ 0 = 95 := rfl
  have hsl := splL_len s 32
  refine Goes.tree Γ_ok htb 1000 false false Tryd.func26 rfl ?_
  ((try simp only [decide_eq_true_eq, decide_eq_false_iff_not, Bool.not_eq_true', Bool.not_eq_false', Bool.not_true, Bool.not_false, Bool.and_eq_true, Bool.or_eq_true, bne_iff_ne, beq_iff_eq, ne_eq]); (try simp only [rng, lo, hi, mnI, mxI, Int.toNat_natCast, Sg.n, Nat.mul_one, Nat.zero_add, Nat.add_zero, Nat.reduceAdd, List.getD_cons_zero, List.getD_cons_succ, empty_size, h0, e32]))
  (repeat' (first | (with_reducible apply And.intro) | intro _))
  all_goals (try contradiction)
  all_goals (try first | exact trivial | rfl | (first | exact trivial | (with_reducible assumption) | omega | (split <;> omega) | (split <;> split <;> omega)))
  generalize splL s 32 = ws at *
  refine ⟨?_⟩
  refine Goes.loopR (fun i : Nat => ws.length - i) (fun i => i ≤ ws.length ∧ i ≤ 180 ∧ ∀ j, j < i → wdO (ws.getD j ⟨#[]⟩) = true) (fun i => (.any :: .any :: .any :: .any :: .ow 0 (fenN ws i).length .hur 94 :: .any :: .any :: .any :: .any :: .any :: .any :: .any :: .any :: .any :: .any :: .any :: .any :: .ow 1 ws.length .str 9 :: .i .i64 (ws.length : Int) :: .i .i64 (i:Int) :: .any :: .any :: .any :: .any :: .any :: .any :: .any :: .any :: .any :: .any :: .any :: .any :: .any :: .any :: .any :: .any :: .any :: .any :: .any :: .any :: .any :: .any :: .any :: .any :: .any :: .any :: .any :: .any :: .any :: .any :: .any :: .any :: .any :: .any :: .any :: .any :: .any :: .any :: [])) (fun i => [.l .hur (fenN ws i), .s ws]) 0 [0, 1] ⟨Nat.zero_le _, Nat.zero_le _, fun j hj => by omega⟩ ⟨rfl, rfl, rfl, (by repeat' (first | exact trivial | rfl | apply And.intro)), (by repeat' (first | exact trivial | rfl | apply And.intro)), rfl, rfl, rfl⟩ fun i ⟨hib, hi8, hgd⟩ ih => ?_
  have hln := fenN_len hib
  by_cases hlt : i < ws.length
  · have ih := ih (i + 1)
    rw [fenN_succ hlt] at ih
    have hsz : (ws.getD i ⟨#[]⟩).size ≤ s.size := by
      rw [List.getD_eq_getElem?_getD, List.getElem?_eq_getElem hlt]
      exact hszs _ (List.getElem_mem hlt)
    have hmt : ws.getD i ByteArray.empty = ws.getD i ⟨#[]⟩ := rfl
    have hgd' : wdO (ws.getD i ⟨#[]⟩) = true → ∀ j, j < i + 1 → wdO (ws.getD j ⟨#[]⟩) = true := fun h j hj => by
      by_cases e : j = i
      · rw [e]; exact h
      · exact hgd j (by omega)
    have hwE := fun h => hw_same (s := ws.getD i ⟨#[]⟩) h
    have hwI := wdI_eq (ws.getD i ⟨#[]⟩)
    generalize fenN ws i = rows at *
    generalize ws.getD i ⟨#[]⟩ = w at *
    have cS : ∀ x b, (if cutB x b = true then x.extract 0 (x.size - 1) else x) = chop x b := fun _ _ => rfl
    have cT : chop (chop w 124) 95 = wdT w := rfl
    have hcs : ∀ x b, (chop x b).size ≤ x.size := fun x b => by
      unfold chop; split
      · exact ext_size _ _ _
      · exact Nat.le_refl _
    have hcs1 := hcs w 124
    have hcs2 := hcs (chop w 124) 95
    rw [cT] at hcs2
    refine Goes.tree Γ_ok htb 1000 false false Tryd.func26 rfl ?_
    ((try simp only [decide_eq_true_eq, decide_eq_false_iff_not, Bool.not_eq_true', Bool.not_eq_false', Bool.not_true, Bool.not_false, Bool.and_eq_true, Bool.or_eq_true, bne_iff_ne, beq_iff_eq, ne_eq]); (try simp only [rng, lo, hi, mnI, mxI, Int.toNat_natCast, Sg.n, Nat.mul_one, Nat.zero_add, Nat.add_zero, Nat.reduceAdd, List.getD_cons_zero, List.getD_cons_succ, hmt, e124, e95, cS, cT]))
    (repeat' (first | (with_reducible apply And.intro) | intro _))
    all_goals (try with_reducible first | exact no_tf (by with_reducible assumption) | exact no_ft (by with_reducible assumption))
    all_goals (try first | exact trivial | rfl | (with_reducible assumption) | (first | exact trivial | (with_reducible assumption) | omega | (split <;> omega) | (split <;> split <;> omega)) | omega)
    all_goals (try (refine ⟨rfl, (by first | exact Nat.le_refl _ | exact Nat.le_of_ble_eq_true rfl), rfl, rfl, ?_, (by repeat' (first | exact trivial | rfl | apply And.intro)), rfl, rfl⟩))
    all_goals (try exact sameA_refl _)
    · exact Nat.le_trans (Nat.le_of_eq List.length_append) (by rw [hln]; show i + 1 ≤ _; omega)
    · have h1 : rsO (wdT w) = true := by assumption
      have h2 : (cutB w 124 == cutB (chop w 124) 95) = false := by assumption
      have hh : wdO w = true := by
        rw [← hwI, h1]
        show (!(cutB w 124 == cutB (chop w 124) 95)) = true
        rw [h2]; rfl
      rw [← hwE hh] at ih
      exact ⟨ih ⟨by omega, by omega, hgd' hh⟩ (by omega) [4, 1] _ _ ⟨rfl, rfl, rfl, (by repeat' (first | exact trivial | rfl | apply And.intro)), (by repeat' (first | exact trivial | rfl | apply And.intro)), rfl, rfl, rfl⟩⟩
  · obtain rfl : i = ws.length := by omega
    exact absurd ⟨hi8, hgd⟩ hbad
end Go.Proofs.YtplnfdgokpgbcaaDoor
