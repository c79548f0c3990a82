/- The days on which too little is eaten. -/
import Derived.Test.YtgogccconmlkiaaRot3
namespace Go.Proofs.Ytgogccconmlkiaa
open Go Go.Eng
set_option linter.unusedSimpArgs false
set_option linter.unusedVariables false
set_option maxRecDepth 100000
set_option maxHeartbeats 4000000

def shL (S : List (List Int)) (eats : Int) : Nat → List (List Int)
  | 0 => []
  | i + 1 => if (S.getD i []).getD 0 0 < eats then shL S eats i ++ [[(i : Int)]] else shL S eats i
theorem shL_len (S : List (List Int)) (eats : Int) : ∀ i, (shL S eats i).length ≤ i := by
  intro i
  induction i with
  | zero => exact Nat.le_refl _
  | succ i ih =>
    unfold shL
    split
    · simp; omega
    · omega
noncomputable def shA (p g : List Int) (rows : List (List Int)) (stay eats days : Int) : List (List Int) := shL (rtS p g rows stay eats days) eats (rtS p g rows stay eats days).length
theorem rtS_len {p g : List Int} {rows : List (List Int)} {stay eats days : Int} (hR : RtOk p g (yL p (spots p)) rows stay eats days) : (rtS p g rows stay eats days).length ≤ 365 := by
  have h1 := (rtK_ok hR days.toNat).2.2.1
  have h2 := hR.dd
  unfold rtS; omega

noncomputable def shOkS : Fun
  | [.ag .pas p, .ag .gro g, .fs .i64 rows, .i .i64 stay, .i .i64 eats, .i .i64 days], [] => some (.t2 (.ow 0 (shA p g rows stay eats days).length .i64 2) (.i .i64 0), [.l .i64 (shA p g rows stay eats days)], [rotC p g rows stay eats days = 0])
  | _, _ => .none
noncomputable def shSErrS : Fun
  | [.ag .pas p, .ag .gro g, .fs .i64 rows, .i .i64 stay, .i .i64 eats, .i .i64 days], [] => some (.t2 (.ow 0 0 .i64 2) (.i .i64 (rotC p g rows stay eats days)), [.l .i64 []], [¬ rotC p g rows stay eats days = 0])
  | _, _ => .none
noncomputable def shErrS : Fun
  | [.ag .pas p, .ag .gro g, .fs .i64 rows, .i .i64 stay, .i .i64 eats, .i .i64 days], [] => some (.t2 .nsl (.i .i64 (rotC p g rows stay eats days)), [], [¬ rotC p g rows stay eats days = 0])
  | _, _ => .none

set_option maxRecDepth 100000 in
theorem s_iShOk : Sound Try.prog 23 shOkS := by
  intro args M r M' vs h hvs
  unfold shOkS at h
  split at h
  case h_2 => cases h
  rename_i p g rows stay eats days
  cases h
  refine SpecOK.assume fun hA hM => ?_
  have htb := (TbOk.cons s_iRotOk Try.func27 rfl rfl (TbOk.nil : TbOk Try.prog tb0))
  refine SpecOK.of_goes [1] Try.func23 rfl ?_
  obtain ⟨hc, -⟩ := hvs
  have hR := rot_ok hA.1 hc
  have hl := rtS_len hR
  clear hA hM
  refine Goes.tree Γ_ok htb 1000 false false Try.func23 rfl ?_
  ((try simp only [decide_eq_true_eq, decide_eq_false_iff_not, Bool.not_eq_true', Bool.not_eq_false', Bool.not_true, Bool.not_false, Bool.and_eq_true, Bool.or_eq_true, bne_iff_ne, beq_iff_eq, ne_eq]); (try simp only [rng, lo, hi, mnI, mxI, Int.toNat_natCast, Sg.n, Nat.mul_one, Nat.zero_add, Nat.add_zero, Nat.reduceAdd, List.getD_cons_zero, List.getD_cons_succ, not_true_eq_false, false_implies]))
  ((repeat' (first | (with_reducible apply And.intro) | intro _)); all_goals (first | exact trivial | (with_reducible assumption) | (show (_ : List Blk) = _; rfl) | (first | exact trivial | (with_reducible assumption) | omega | (split <;> omega) | (split <;> split <;> omega)) | skip); all_goals (try (refine ⟨rfl, (by first | exact Nat.le_refl _ | exact Nat.le_of_ble_eq_true rfl), rfl, rfl, ?_, (by repeat' (first | exact trivial | rfl | apply And.intro)), rfl, rfl⟩)))
  all_goals (try contradiction)
  all_goals (try first | exact hR)
  refine ⟨?_⟩
  unfold shA
  generalize rtS p g rows stay eats days = S at *
  refine Goes.loopR (fun i : Nat => S.length - i) (fun i => i ≤ S.length) (fun i => (.any :: .any :: .any :: .any :: .i .i64 eats :: .any :: .any :: .any :: .any :: .any :: .any :: .any :: .any :: .any :: .any :: .any :: .any :: .ow 1 (shL S eats i).length .i64 2 :: .any :: .any :: .any :: .any :: .any :: .any :: .any :: .any :: .any :: .any :: .any :: .any :: .any :: .any :: .any :: .any :: .any :: .ow 0 S.length .i64 2 :: .i .i64 (S.length : Int) :: .i .i64 (i:Int) :: .any :: .any :: .any :: .any :: .any :: .any :: .any :: .any :: .any :: .any :: .any :: .any :: .any :: []))
    (fun i => [.l .i64 S, .l .i64 (shL S eats i)]) 0 [2, 4] (Nat.zero_le _) ⟨rfl, rfl, rfl, (by repeat' (first | exact trivial | rfl | apply And.intro)), (by repeat' (first | exact trivial | rfl | apply And.intro)), rfl, rfl, rfl⟩ fun i hle ih => ?_
  have hsl := shL_len S eats i
  have hyes : (S.getD i []).getD 0 0 < eats → shL S eats (i + 1) = shL S eats i ++ [[(i : Int)]] := fun h => if_pos h
  have hno : ¬ (S.getD i []).getD 0 0 < eats → shL S eats (i + 1) = shL S eats i := fun h => if_neg h
  by_cases hlt : i < S.length
  · refine Goes.tree Γ_ok htb 1000 false false Try.func23 rfl ?_
    ((try simp only [decide_eq_true_eq, decide_eq_false_iff_not, Bool.not_eq_true', Bool.not_eq_false', Bool.not_true, Bool.not_false, Bool.and_eq_true, Bool.or_eq_true, bne_iff_ne, beq_iff_eq, ne_eq]); (try simp only [rng, lo, hi, mnI, mxI, Int.toNat_natCast, Sg.n, Nat.mul_one, Nat.zero_add, Nat.add_zero, Nat.reduceAdd, List.getD_cons_zero, List.getD_cons_succ, one_row]))
    ((repeat' (first | (with_reducible apply And.intro) | intro _)); all_goals (first | exact trivial | (with_reducible assumption) | (show (_ : List Blk) = _; rfl) | (first | exact trivial | (with_reducible assumption) | omega | (split <;> omega) | (split <;> split <;> omega)) | skip); all_goals (try (refine ⟨rfl, (by first | exact Nat.le_refl _ | exact Nat.le_of_ble_eq_true rfl), rfl, rfl, ?_, (by repeat' (first | exact trivial | rfl | apply And.intro)), rfl, rfl⟩)))
    · show (shL S eats i ++ [_]).length ≤ _
      simp only [List.length_append, List.length_cons, List.length_nil]; omega
    · refine ⟨ih (i + 1) (by omega) (by omega) [0, 3] _ _ ?_⟩
      rw [hyes (by assumption)]
      exact ⟨rfl, rfl, rfl, (by repeat' (first | exact trivial | rfl | apply And.intro)), (by repeat' (first | exact trivial | rfl | apply And.intro)), rfl, rfl, rfl⟩
    · refine ⟨ih (i + 1) (by omega) (by omega) [0, 1] _ _ ?_⟩
      rw [hno (by assumption)]
      exact ⟨rfl, rfl, rfl, (by repeat' (first | exact trivial | rfl | apply And.intro)), (by repeat' (first | exact trivial | rfl | apply And.intro)), rfl, rfl, rfl⟩
  · obtain rfl : i = S.length := by omega
    clear ih
    refine Goes.tree Γ_ok htb 1000 false false Try.func23 rfl ?_
    ((try simp only [decide_eq_true_eq, decide_eq_false_iff_not, Bool.not_eq_true', Bool.not_eq_false', Bool.not_true, Bool.not_false, Bool.and_eq_true, Bool.or_eq_true, bne_iff_ne, beq_iff_eq, ne_eq]); (try simp only [rng, lo, hi, mnI, mxI, Int.toNat_natCast, Sg.n, Nat.mul_one, Nat.zero_add, Nat.add_zero, Nat.reduceAdd, List.getD_cons_zero, List.getD_cons_succ]))
    ((repeat' (first | (with_reducible apply And.intro) | intro _)); all_goals (first | exact trivial | (with_reducible assumption) | (show (_ : List Blk) = _; rfl) | (first | exact trivial | (with_reducible assumption) | omega | (split <;> omega) | (split <;> split <;> omega)) | skip); all_goals (try (refine ⟨rfl, (by first | exact Nat.le_refl _ | exact Nat.le_of_ble_eq_true rfl), rfl, rfl, ?_, (by repeat' (first | exact trivial | rfl | apply And.intro)), rfl, rfl⟩)))
    all_goals (first | contradiction | exact sameA_refl _ | trace_state)
set_option maxRecDepth 100000 in
theorem s_iShErr : Sound Try.prog 23 shErrS := by
  intro args M r M' vs h hvs
  unfold shErrS at h
  split at h
  case h_2 => cases h
  rename_i p g rows stay eats days
  cases h
  refine SpecOK.assume fun hA hM => ?_
  have htb := (TbOk.cons s_iRotErr Try.func27 rfl rfl (TbOk.nil : TbOk Try.prog tb0))
  refine SpecOK.of_goes [] Try.func23 rfl ?_
  obtain ⟨hc, -⟩ := hvs
  clear hA hM
  refine Goes.tree Γ_ok htb 1000 false false Try.func23 rfl ?_
  ((try simp only [decide_eq_true_eq, decide_eq_false_iff_not, Bool.not_eq_true', Bool.not_eq_false', Bool.not_true, Bool.not_false, Bool.and_eq_true, Bool.or_eq_true, bne_iff_ne, beq_iff_eq, ne_eq]); (try simp only [rng, lo, hi, mnI, mxI, Int.toNat_natCast, Sg.n, Nat.mul_one, Nat.zero_add, Nat.add_zero, Nat.reduceAdd, List.getD_cons_zero, List.getD_cons_succ]))
  ((repeat' (first | (with_reducible apply And.intro) | intro _)); all_goals (first | exact trivial | (with_reducible assumption) | (show (_ : List Blk) = _; rfl) | (first | exact trivial | (with_reducible assumption) | omega | (split <;> omega) | (split <;> split <;> omega)) | skip); all_goals (try (refine ⟨rfl, (by first | exact Nat.le_refl _ | exact Nat.le_of_ble_eq_true rfl), rfl, rfl, ?_, (by repeat' (first | exact trivial | rfl | apply And.intro)), rfl, rfl⟩)))
  all_goals (first | contradiction | exact sameA_refl _ | trace_state)
set_option maxRecDepth 100000 in
theorem s_sShOk : Sound Try.prog 22 shOkS := by
  intro args M r M' vs h hvs
  unfold shOkS at h
  split at h
  case h_2 => cases h
  rename_i p g rows stay eats days
  cases h
  refine SpecOK.assume fun hA hM => ?_
  have htb := (TbOk.cons s_l04Rotated Try.func64 rfl rfl (TbOk.cons s_l04Rotate Try.func65 rfl rfl (TbOk.nil : TbOk Try.prog tb0)))
  refine SpecOK.of_goes [0] Try.func22 rfl ?_
  obtain ⟨hc, -⟩ := hvs
  have hR := rot_ok hA.1 hc
  have hl := rtS_len hR
  clear hA hM
  refine Goes.tree Γ_ok htb 1000 false false Try.func22 rfl ?_
  ((try simp only [decide_eq_true_eq, decide_eq_false_iff_not, Bool.not_eq_true', Bool.not_eq_false', Bool.not_true, Bool.not_false, Bool.and_eq_true, Bool.or_eq_true, bne_iff_ne, beq_iff_eq, ne_eq]); (try simp only [rng, lo, hi, mnI, mxI, Int.toNat_natCast, Sg.n, Nat.mul_one, Nat.zero_add, Nat.add_zero, Nat.reduceAdd, List.getD_cons_zero, List.getD_cons_succ, not_true_eq_false, false_implies]))
  ((repeat' (first | (with_reducible apply And.intro) | intro _)); all_goals (first | exact trivial | (with_reducible assumption) | (show (_ : List Blk) = _; rfl) | (first | exact trivial | (with_reducible assumption) | omega | (split <;> omega) | (split <;> split <;> omega)) | skip); all_goals (try (refine ⟨rfl, (by first | exact Nat.le_refl _ | exact Nat.le_of_ble_eq_true rfl), rfl, rfl, ?_, (by repeat' (first | exact trivial | rfl | apply And.intro)), rfl, rfl⟩)))
  all_goals (try contradiction)
  all_goals (try first | exact hR)
  refine ⟨?_⟩
  unfold shA
  change (rtS p g rows stay eats days).length ≤ 365 at hl
  have eS : rtS p g rows stay eats days = (rtK p g (yL p (spots p)) rows stay eats days.toNat).2 := rfl
  rw [eS] at hl ⊢
  generalize (rtK p g (yL p (spots p)) rows stay eats days.toNat).2 = S at *
  refine Goes.loopR (fun i : Nat => S.length - i) (fun i => i ≤ S.length) (fun i => (.any :: .any :: .any :: .any :: .i .i64 eats :: .any :: .any :: .any :: .any :: .any :: .any :: .any :: .any :: .any :: .any :: .any :: .fs .i64 S :: .ow 0 (shL S eats i).length .i64 2 :: .i .i64 (i:Int) :: .any :: .any :: .any :: .any :: .any :: .any :: .any :: .any :: .any :: .any :: .any :: .any :: .any :: .any :: .any :: .any :: .any :: .any :: .any :: .any :: .any :: .any :: .any :: .any :: .any :: .any :: .any :: .any :: .any :: .any :: .any :: .any :: .any :: .any :: .any :: .any :: []))
    (fun i => [.l .i64 (shL S eats i)]) 0 [3] (Nat.zero_le _) ⟨rfl, rfl, rfl, (by repeat' (first | exact trivial | rfl | apply And.intro)), (by repeat' (first | exact trivial | rfl | apply And.intro)), rfl, rfl, rfl⟩ fun i hle ih => ?_
  have hsl := shL_len S eats i
  have hyes : (S.getD i []).getD 0 0 < eats → shL S eats (i + 1) = shL S eats i ++ [[(i : Int)]] := fun h => if_pos h
  have hno : ¬ (S.getD i []).getD 0 0 < eats → shL S eats (i + 1) = shL S eats i := fun h => if_neg h
  by_cases hlt : i < S.length
  · refine Goes.tree Γ_ok htb 1000 false false Try.func22 rfl ?_
    ((try simp only [decide_eq_true_eq, decide_eq_false_iff_not, Bool.not_eq_true', Bool.not_eq_false', Bool.not_true, Bool.not_false, Bool.and_eq_true, Bool.or_eq_true, bne_iff_ne, beq_iff_eq, ne_eq]); (try simp only [rng, lo, hi, mnI, mxI, Int.toNat_natCast, Sg.n, Nat.mul_one, Nat.zero_add, Nat.add_zero, Nat.reduceAdd, List.getD_cons_zero, List.getD_cons_succ, one_row]))
    ((repeat' (first | (with_reducible apply And.intro) | intro _)); all_goals (first | exact trivial | (with_reducible assumption) | (show (_ : List Blk) = _; rfl) | (first | exact trivial | (with_reducible assumption) | omega | (split <;> omega) | (split <;> split <;> omega)) | skip); all_goals (try (refine ⟨rfl, (by first | exact Nat.le_refl _ | exact Nat.le_of_ble_eq_true rfl), rfl, rfl, ?_, (by repeat' (first | exact trivial | rfl | apply And.intro)), rfl, rfl⟩)))
    · show (shL S eats i ++ [_]).length ≤ _
      simp only [List.length_append, List.length_cons, List.length_nil]; omega
    · refine ⟨ih (i + 1) (by omega) (by omega) [2] _ _ ?_⟩
      rw [hyes (by assumption)]
      exact ⟨rfl, rfl, rfl, (by repeat' (first | exact trivial | rfl | apply And.intro)), (by repeat' (first | exact trivial | rfl | apply And.intro)), rfl, rfl, rfl⟩
    · refine ⟨ih (i + 1) (by omega) (by omega) [0] _ _ ?_⟩
      rw [hno (by assumption)]
      exact ⟨rfl, rfl, rfl, (by repeat' (first | exact trivial | rfl | apply And.intro)), (by repeat' (first | exact trivial | rfl | apply And.intro)), rfl, rfl, rfl⟩
  · obtain rfl : i = S.length := by omega
    clear ih
    refine Goes.tree Γ_ok htb 1000 false false Try.func22 rfl ?_
    ((try simp only [decide_eq_true_eq, decide_eq_false_iff_not, Bool.not_eq_true', Bool.not_eq_false', Bool.not_true, Bool.not_false, Bool.and_eq_true, Bool.or_eq_true, bne_iff_ne, beq_iff_eq, ne_eq]); (try simp only [rng, lo, hi, mnI, mxI, Int.toNat_natCast, Sg.n, Nat.mul_one, Nat.zero_add, Nat.add_zero, Nat.reduceAdd, List.getD_cons_zero, List.getD_cons_succ]))
    ((repeat' (first | (with_reducible apply And.intro) | intro _)); all_goals (first | exact trivial | (with_reducible assumption) | (show (_ : List Blk) = _; rfl) | (first | exact trivial | (with_reducible assumption) | omega | (split <;> omega) | (split <;> split <;> omega)) | skip); all_goals (try (refine ⟨rfl, (by first | exact Nat.le_refl _ | exact Nat.le_of_ble_eq_true rfl), rfl, rfl, ?_, (by repeat' (first | exact trivial | rfl | apply And.intro)), rfl, rfl⟩)))
    all_goals (first | contradiction | exact sameA_refl _ | trace_state)
set_option maxRecDepth 100000 in
theorem s_sShErr : Sound Try.prog 22 shSErrS := by
  intro args M r M' vs h hvs
  unfold shSErrS at h
  split at h
  case h_2 => cases h
  rename_i p g rows stay eats days
  cases h
  refine SpecOK.assume fun hA hM => ?_
  have htb := (TbOk.cons s_l04Rotated Try.func64 rfl rfl (TbOk.cons s_l04Rotate Try.func65 rfl rfl (TbOk.nil : TbOk Try.prog tb0)))
  refine SpecOK.of_goes [2] Try.func22 rfl ?_
  obtain ⟨hc, -⟩ := hvs
  clear hA hM
  refine Goes.tree Γ_ok htb 1000 false false Try.func22 rfl ?_
  ((try simp only [decide_eq_true_eq, decide_eq_false_iff_not, Bool.not_eq_true', Bool.not_eq_false', Bool.not_true, Bool.not_false, Bool.and_eq_true, Bool.or_eq_true, bne_iff_ne, beq_iff_eq, ne_eq]); (try simp only [rng, lo, hi, mnI, mxI, Int.toNat_natCast, Sg.n, Nat.mul_one, Nat.zero_add, Nat.add_zero, Nat.reduceAdd, List.getD_cons_zero, List.getD_cons_succ]))
  ((repeat' (first | (with_reducible apply And.intro) | intro _)); all_goals (first | exact trivial | (with_reducible assumption) | (show (_ : List Blk) = _; rfl) | (first | exact trivial | (with_reducible assumption) | omega | (split <;> omega) | (split <;> split <;> omega)) | skip); all_goals (try (refine ⟨rfl, (by first | exact Nat.le_refl _ | exact Nat.le_of_ble_eq_true rfl), rfl, rfl, ?_, (by repeat' (first | exact trivial | rfl | apply And.intro)), rfl, rfl⟩)))
  all_goals (first | contradiction | exact sameA_refl _ | trace_state)
end Go.Proofs.Ytgogccconmlkiaa
