/- A fence read from its text: the spec. -/
import Derived.Test.YtplnfdgokpgbcaaDoorRdI
namespace Go.Proofs.YtplnfdgokpgbcaaDoor
open Go Go.Eng
set_option linter.unusedSimpArgs false
set_option linter.unusedVariables false
set_option maxRecDepth 100000
set_option maxHeartbeats 4000000

def rfS : Fun
  | [.s s], [] => some (.t2 (.fs .hur (if fenO s = true then fenL s else [])) (.i .i64 (if fenO s = true then 0 else 5)), [], [s.size ≤ 1073741000])
  | _, _ => .none
theorem rf_bad {p : Prop} [Decidable p] (h : ¬ p) (rows : List (List Int)) : sameA (AV.mapI (fun i => [].getD i 0) ((AV.fs .hur (if p then rows else [])).t2 (AV.i .i64 (if p then 0 else 5)))) ((AV.fs .hur (List.replicate 0 (List.replicate 3 0))).t2 (AV.i .i64 5)) := by
  rw [if_neg h, if_neg h]; exact sameA_ft rfl rfl
set_option maxRecDepth 100000 in
theorem s_specReadFence : Sound Tryd.prog 25 rfS := by
  intro args M r M' vs h hvs
  unfold rfS at h
  split at h
  case h_2 => cases h
  rename_i s
  cases h
  refine SpecOK.assume fun hA hM => ?_
  have htb := (TbOk.cons s_l01Split Tryd.func64 rfl rfl (TbOk.cons s_l01Cut Tryd.func65 rfl rfl (TbOk.cons s_l01Number Tryd.func66 rfl rfl (TbOk.nil : TbOk Tryd.prog tb0))))
  refine SpecOK.of_goes [] Tryd.func25 rfl ?_
  obtain ⟨hs, -⟩ := hvs
  clear hA hM
  by_cases h0 : s.size = 0
  · have e0 : fenL s = [] := if_pos h0
    have e1 : fenO s = true := by unfold fenO; rw [decide_eq_true h0]; rfl
    rw [e0, e1, if_pos rfl, if_pos rfl]
    refine Goes.tree Γ_ok htb 1000 true false Tryd.func25 rfl ?_
    ((try simp only [decide_eq_true_eq, decide_eq_false_iff_not, Bool.not_eq_true', Bool.not_eq_false', Bool.not_true, Bool.not_false, Bool.and_eq_true, Bool.or_eq_true, bne_iff_ne, beq_iff_eq, ne_eq]); (try simp only [rng, lo, hi, mnI, mxI, Int.toNat_natCast, Sg.n, Nat.mul_one, Nat.zero_add, Nat.add_zero, Nat.reduceAdd, List.getD_cons_zero, List.getD_cons_succ, empty_size, h0]))
    ((repeat' (first | (with_reducible apply And.intro) | intro _)); all_goals (first | exact trivial | (with_reducible assumption) | (show (_ : List Blk) = _; rfl) | (first | exact trivial | (with_reducible assumption) | omega | (split <;> omega) | (split <;> split <;> omega)) | skip); all_goals (try (refine ⟨rfl, (by first | exact Nat.le_refl _ | exact Nat.le_of_ble_eq_true rfl), rfl, rfl, ?_, (by repeat' (first | exact trivial | rfl | apply And.intro)), rfl, rfl⟩)))
    all_goals (try first | contradiction | exact absurd trivial (by assumption) | exact sameA_refl _)
  · have e0 : fenL s = (splL s 32).map hwO := if_neg h0
    have e1 : fenO s = (decide ((splL s 32).length ≤ 180) && (splL s 32).all wdO) := by unfold fenO; rw [decide_eq_false h0]; rfl
    have hpos := splL_pos s 32
    have hszs := splL_size s 32
    rw [e0, ← fenN_all, e1]
    refine Goes.tree Γ_ok htb 1000 true false Tryd.func25 rfl ?_
    ((try simp only [decide_eq_true_eq, decide_eq_false_iff_not, Bool.not_eq_true', Bool.not_eq_false', Bool.not_true, Bool.not_false, Bool.and_eq_true, Bool.or_eq_true, bne_iff_ne, beq_iff_eq, ne_eq]); (try simp only [rng, lo, hi, mnI, mxI, Int.toNat_natCast, Sg.n, Nat.mul_one, Nat.zero_add, Nat.add_zero, Nat.reduceAdd, List.getD_cons_zero, List.getD_cons_succ, empty_size, h0]))
    ((repeat' (first | (with_reducible apply And.intro) | intro _)); all_goals (first | exact trivial | (with_reducible assumption) | (show (_ : List Blk) = _; rfl) | (first | exact trivial | (with_reducible assumption) | omega | (split <;> omega) | (split <;> split <;> omega)) | skip); all_goals (try (refine ⟨rfl, (by first | exact Nat.le_refl _ | exact Nat.le_of_ble_eq_true rfl), rfl, rfl, ?_, (by repeat' (first | exact trivial | rfl | apply And.intro)), rfl, rfl⟩)))
    all_goals (try contradiction)
    · rename_i h
      have hbad : (decide ((splL s 32).length ≤ 180) && (splL s 32).all wdO) = false := by rw [decide_eq_false (by omega)]; rfl
      refine sameA_ft ?_ ?_
      · rw [if_neg (fun g => by omega)]; rfl
      · rw [if_neg (fun g => by omega)]
    have hlen : (splL s 32).length ≤ 180 := by omega
    have hok : ((splL s 32).length ≤ 180 ∧ (splL s 32).all wdO = true) = ((splL s 32).all wdO = true) := propext ⟨fun g => g.2, fun g => ⟨hlen, g⟩⟩
    have hif : ∀ (α : Type) (x y : α), (if ((splL s 32).length ≤ 180 ∧ (splL s 32).all wdO = true) then x else y) = if (splL s 32).all wdO = true then x else y := fun α x y => by by_cases g : (splL s 32).all wdO = true <;> simp [hlen, g]
    simp only [hif]
    clear hif hok
    generalize splL s 32 = ws at *
    refine ⟨?_⟩
    refine Goes.loopR (fun i : Nat => ws.length - i) (fun i => i ≤ ws.length ∧ ∀ j, j < i → wdO (ws.getD j ⟨#[]⟩) = true) (fun i => (.any :: .any :: .any :: .any :: .ow 0 (fenN ws i).length .hur 94 :: .fstr ws :: .i .i64 (i:Int) :: .any :: .any :: .any :: .any :: .any :: .any :: .any :: .any :: .any :: .any :: .any :: .any :: .any :: .any :: .any :: .any :: .any :: .any :: .any :: .any :: .any :: .any :: .any :: .any :: .any :: .any :: .any :: .any :: .any :: .any :: .any :: .any :: .any :: .any :: .any :: .any :: .any :: .any :: .any :: .any :: .any :: .any :: .any :: .any :: .any :: .any :: .any :: .any :: .any :: .any :: .any :: .any :: .any :: .any :: .any :: .any :: .any :: .any :: .any :: .any :: .any :: .any :: .any :: .any :: .any :: .any :: .any :: .any :: .any :: .any :: .any :: .any :: .any :: .any :: .any :: .any :: .any :: .any :: .any :: .any :: .any :: .any :: .any :: .any :: .any :: .any :: .any :: .any :: .any :: .any :: .any :: .any :: .any :: .any :: .any :: .any :: [])) (fun i => [.l .hur (fenN ws i)]) 0 [0] ⟨Nat.zero_le _, fun j hj => by omega⟩ ⟨rfl, rfl, rfl, (by repeat' (first | exact trivial | rfl | apply And.intro)), (by repeat' (first | exact trivial | rfl | apply And.intro)), rfl, rfl, rfl⟩ fun i ⟨hib, hgd⟩ ih => ?_
    have hln := fenN_len hib
    by_cases hlt : i < ws.length
    · have ih := ih (i + 1)
      rw [fenN_succ hlt] at ih
      have hsz : (ws.getD i ⟨#[]⟩).size ≤ s.size := by
        rw [List.getD_eq_getElem?_getD, List.getElem?_eq_getElem hlt]
        exact hszs _ (List.getElem_mem hlt)
      have hbad : wdO (ws.getD i ⟨#[]⟩) = false → ¬ ws.all wdO = true := fun h g => by rw [all_at g hlt] at h; cases h
      have hgd' : wdO (ws.getD i ⟨#[]⟩) = true → ∀ j, j < i + 1 → wdO (ws.getD j ⟨#[]⟩) = true := fun h j hj => by
        by_cases e : j = i
        · rw [e]; exact h
        · exact hgd j (by omega)
      have hmt : ws.getD i ByteArray.empty = ws.getD i ⟨#[]⟩ := rfl
      generalize fenN ws i = rows at *
      generalize ws.getD i ⟨#[]⟩ = w at *
      have c95 : (if cutB w 95 = true then w.extract 0 (w.size - 1) else w) = chop w 95 := rfl
      have c124 : (if cutB w 124 = true then w.extract 0 (w.size - 1) else w) = chop w 124 := rfl
      have q1 : ∀ x, (splL x 44).getD (Int.toNat 0) ByteArray.empty = pa x := fun _ => rfl
      have q2 : ∀ x, (splL x 44).getD (Int.toNat 1) ByteArray.empty = pb x := fun _ => rfl
      have q3 : ∀ x, (if numB x = true then numK x x.size else 0) = nv x := fun _ => rfl
      have hcs : ∀ b, (chop w b).size ≤ s.size := fun b => by
        unfold chop; split
        · exact Nat.le_trans (ext_size _ _ _) hsz
        · exact hsz
      have hs : s.size ≤ 1073741000 := hs
      cases h124 : cutB w 124 with
      | true =>
        have hW := spO_iff (chop w 124)
        rw [← wdO_pipe h124] at hW
        have hE := hwO_eq (s := w)
        rw [wdU_pipe h124, h124] at hE
        have c124' : w.extract 0 (w.size - 1) = chop w 124 := by unfold chop; rw [if_pos h124]
        have k1 : ¬ ((splL (chop w 124) 44).length : Int) = 2 → wdO w = false := fun h => by cases hh : wdO w with | false => rfl | true => exact absurd (hW.1 hh).1 h
        have k2 : numB (pa (chop w 124)) = false → wdO w = false := fun h => by cases hh : wdO w with | false => rfl | true => exact absurd ((hW.1 hh).2.1.symm.trans h) (by decide)
        have k3 : numB (pb (chop w 124)) = false → wdO w = false := fun h => by cases hh : wdO w with | false => rfl | true => exact absurd ((hW.1 hh).2.2.1.symm.trans h) (by decide)
        have k4 : 10 ≤ nv (pa (chop w 124)) → wdO w = false := fun h => by cases hh : wdO w with | false => rfl | true => exact absurd h (hW.1 hh).2.2.2.1
        have k5 : 10 ≤ nv (pb (chop w 124)) → wdO w = false := fun h => by cases hh : wdO w with | false => rfl | true => exact absurd h (hW.1 hh).2.2.2.2
        refine Goes.tree Γ_ok htb 1000 true false Tryd.func25 rfl ?_
        ((try simp only [decide_eq_true_eq, decide_eq_false_iff_not, Bool.not_eq_true', Bool.not_eq_false', Bool.not_true, Bool.not_false, Bool.and_eq_true, Bool.or_eq_true, bne_iff_ne, beq_iff_eq, ne_eq]); (try simp only [rng, lo, hi, mnI, mxI, Int.toNat_natCast, Sg.n, Nat.mul_one, Nat.zero_add, Nat.add_zero, Nat.reduceAdd, List.getD_cons_zero, List.getD_cons_succ, hmt, c95, c124', q1, q2, q3, h124, if_pos, if_neg]))
        (repeat' (first | (with_reducible apply And.intro) | intro _))
        all_goals (try with_reducible first | exact no_tf (by with_reducible assumption) | exact no_ft (by with_reducible assumption))
        all_goals (try first | exact trivial | (with_reducible assumption) | (first | exact trivial | (with_reducible assumption) | omega | (split <;> omega) | (split <;> split <;> omega)))
        all_goals (try with_reducible first | exact Nat.le_trans (hcs _) hs | exact Nat.le_trans hsz hs | exact Int.le_trans (by decide) (nv_rng _).1)
        all_goals (try (refine ⟨rfl, (by first | exact Nat.le_refl _ | exact Nat.le_of_ble_eq_true rfl), rfl, rfl, ?_, (by repeat' (first | exact trivial | rfl | apply And.intro)), rfl, rfl⟩))
        all_goals (try first | exact rf_bad (hbad (k1 (by with_reducible assumption))) _ | exact rf_bad (hbad (k2 (by with_reducible assumption))) _ | exact rf_bad (hbad (k3 (by with_reducible assumption))) _ | exact rf_bad (hbad (k4 (by with_reducible assumption))) _ | exact rf_bad (hbad (k5 (by with_reducible assumption))) _)
        · exact Nat.le_trans (Nat.le_of_eq List.length_append) (by rw [hln]; show i + 1 ≤ _; omega)
        · have hh : wdO w = true := hW.2 ⟨by assumption, by assumption, by assumption, by assumption, by assumption⟩
          rw [hE hh] at ih
          exact ⟨ih ⟨by omega, hgd' hh⟩ (by omega) [2] _ _ ⟨rfl, rfl, rfl, (by repeat' (first | exact trivial | rfl | apply And.intro)), (by repeat' (first | exact trivial | rfl | apply And.intro)), rfl, rfl, rfl⟩⟩
      | false =>
        have hE := hwO_eq (s := w)
        rw [wdU_line h124, h124] at hE
        have hW : wdO w = true → _ := fun h => (spO_iff (chop w 95)).1 ((Bool.and_eq_true _ _ ▸ (wdO_line h124 ▸ h) : cutB w 95 = true ∧ spO (chop w 95) = true).2)
        have k0 : cutB w 95 = false → wdO w = false := fun h => by rw [wdO_line h124, h]; rfl
        have k1 : ¬ ((splL (chop w 95) 44).length : Int) = 2 → wdO w = false := fun h => by cases hh : wdO w with | false => rfl | true => exact absurd (hW hh).1 h
        have k2 : numB (pa (chop w 95)) = false → wdO w = false := fun h => by cases hh : wdO w with | false => rfl | true => exact absurd ((hW hh).2.1.symm.trans h) (by decide)
        have k3 : numB (pb (chop w 95)) = false → wdO w = false := fun h => by cases hh : wdO w with | false => rfl | true => exact absurd ((hW hh).2.2.1.symm.trans h) (by decide)
        have k4 : 10 ≤ nv (pa (chop w 95)) → wdO w = false := fun h => by cases hh : wdO w with | false => rfl | true => exact absurd h (hW hh).2.2.2.1
        have k5 : 10 ≤ nv (pb (chop w 95)) → wdO w = false := fun h => by cases hh : wdO w with | false => rfl | true => exact absurd h (hW hh).2.2.2.2
        refine Goes.tree Γ_ok htb 1000 true false Tryd.func25 rfl ?_
        ((try simp only [decide_eq_true_eq, decide_eq_false_iff_not, Bool.not_eq_true', Bool.not_eq_false', Bool.not_true, Bool.not_false, Bool.and_eq_true, Bool.or_eq_true, bne_iff_ne, beq_iff_eq, ne_eq]); (try simp only [rng, lo, hi, mnI, mxI, Int.toNat_natCast, Sg.n, Nat.mul_one, Nat.zero_add, Nat.add_zero, Nat.reduceAdd, List.getD_cons_zero, List.getD_cons_succ, hmt, c95, c124, q1, q2, q3, h124, if_pos, if_neg]))
        (repeat' (first | (with_reducible apply And.intro) | intro _))
        all_goals (try with_reducible first | exact no_tf (by with_reducible assumption) | exact no_ft (by with_reducible assumption))
        all_goals (try first | exact trivial | (with_reducible assumption) | (first | exact trivial | (with_reducible assumption) | omega | (split <;> omega) | (split <;> split <;> omega)))
        all_goals (try with_reducible first | exact Nat.le_trans (hcs _) hs | exact Nat.le_trans hsz hs | exact Int.le_trans (by decide) (nv_rng _).1)
        all_goals (try (refine ⟨rfl, (by first | exact Nat.le_refl _ | exact Nat.le_of_ble_eq_true rfl), rfl, rfl, ?_, (by repeat' (first | exact trivial | rfl | apply And.intro)), rfl, rfl⟩))
        all_goals (try first | exact rf_bad (hbad (k1 (by with_reducible assumption))) _ | exact rf_bad (hbad (k2 (by with_reducible assumption))) _ | exact rf_bad (hbad (k3 (by with_reducible assumption))) _ | exact rf_bad (hbad (k4 (by with_reducible assumption))) _ | exact rf_bad (hbad (k5 (by with_reducible assumption))) _ | exact rf_bad (hbad (k0 (by with_reducible assumption))) _)
        · exact Nat.le_trans (Nat.le_of_eq List.length_append) (by rw [hln]; show i + 1 ≤ _; omega)
        · have h95 : cutB w 95 = true := by assumption
          have hh : wdO w = true := by rw [wdO_line h124, h95, (spO_iff (chop w 95)).2 ⟨by assumption, by assumption, by assumption, by assumption, by assumption⟩]; rfl
          have hE : hwO w = [nv (pa (chop w 95)), nv (pb (chop w 95)), if cutB w 95 = true then 1 else 0] := by rw [hE hh, h95]; rfl
          rw [hE] at ih
          exact ⟨ih ⟨by omega, hgd' hh⟩ (by omega) [2] _ _ ⟨rfl, rfl, rfl, (by repeat' (first | exact trivial | rfl | apply And.intro)), (by repeat' (first | exact trivial | rfl | apply And.intro)), rfl, rfl, rfl⟩⟩
    · obtain rfl : i = ws.length := by omega
      clear ih
      refine Goes.tree Γ_ok htb 1000 true false Tryd.func25 rfl ?_
      ((try simp only [decide_eq_true_eq, decide_eq_false_iff_not, Bool.not_eq_true', Bool.not_eq_false', Bool.not_true, Bool.not_false, Bool.and_eq_true, Bool.or_eq_true, bne_iff_ne, beq_iff_eq, ne_eq]); (try simp only [rng, lo, hi, mnI, mxI, Int.toNat_natCast, Sg.n, Nat.mul_one, Nat.zero_add, Nat.add_zero, Nat.reduceAdd, List.getD_cons_zero, List.getD_cons_succ]))
      ((repeat' (first | (with_reducible apply And.intro) | intro _)); all_goals (first | exact trivial | (with_reducible assumption) | (show (_ : List Blk) = _; rfl) | (first | exact trivial | (with_reducible assumption) | omega | (split <;> omega) | (split <;> split <;> omega)) | skip); all_goals (try (refine ⟨rfl, (by first | exact Nat.le_refl _ | exact Nat.le_of_ble_eq_true rfl), rfl, rfl, ?_, (by repeat' (first | exact trivial | rfl | apply And.intro)), rfl, rfl⟩)))
      have := all_of hgd
      refine sameA_ft ?_ ?_
      · rw [if_pos this]
      · rw [if_pos this]
end Go.Proofs.YtplnfdgokpgbcaaDoor
