/- The cells beside a cell. -/
import Derived.Test.YtfelemoefhbphaaSide
import Derived.Test.YtfelemoefhbphaaLists
namespace Go.Proofs.Ytfelemoefhbphaa
open Go Go.Eng
set_option linter.unusedSimpArgs false
set_option linter.unusedVariables false
set_option maxRecDepth 100000
set_option maxHeartbeats 4000000

/-- The cells beside a cell, over the first sides. -/
def besN (p s : List Int) : Nat → List (List Int)
  | 0 => []
  | d + 1 => if canGo p s d = true then besN p s d ++ [ahead s d] else besN p s d

theorem besN_len (p s : List Int) : ∀ d, (besN p s d).length ≤ d := by
  intro d
  induction d with
  | zero => exact Nat.le_refl _
  | succ d ih => unfold besN; split <;> (try simp only [List.length_append, List.length_cons, List.length_nil]) <;> omega

def besideS : Fun
  | [.pw 0 .pas, .ag .spot s], [.c .pas p] => some (.fs .spot (besN p s 4), [.c .pas p], [okD p ∧ isP p s = true])
  | _, _ => .none

set_option maxRecDepth 100000 in
theorem s_l01Beside : Sound Try.prog 79 besideS := by
  intro args M r M' vs h hvs
  unfold besideS at h
  split at h
  case h_2 => cases h
  rename_i s p
  cases h
  refine SpecOK.assume fun hA hM => ?_
  have htb := (TbOk.cons s_l01Closed Try.func122 rfl rfl (TbOk.cons s_l01Next Try.func99 rfl rfl (TbOk.nil : TbOk Try.prog tb0)))
  refine SpecOK.of_goes [0] Try.func79 rfl ?_
  obtain ⟨⟨hd, hs⟩, -⟩ := hvs
  have hn := near_of hd hs
  clear hA hM
  refine Goes.tree Γ_ok htb 1000 true false Try.func79 rfl ?_
  refine ⟨?_⟩
  refine Goes.loopR (fun d : Nat => 4 - d) (fun d => d ≤ 4) (fun d => (.pw 0 .pas :: .any :: .any :: .pw 1 .spot :: .any :: .ow 2 (besN p s d).length .spot 37 :: .i .i64 (d:Int) :: .any :: .any :: .any :: .any :: .any :: .any :: .any :: .any :: .any :: .any :: .any :: .any :: .any :: .any :: .any :: .any :: .any :: [])) (fun d => [.c .pas p, .c .spot s, .l .spot (besN p s d)]) 0 [0, 1, 2] (by omega) ⟨rfl, rfl, rfl, (by repeat' (first | exact trivial | rfl | apply And.intro)), (by repeat' (first | exact trivial | rfl | apply And.intro)), rfl, rfl, rfl⟩ fun d hle ih => ?_
  have hlen := besN_len p s d
  have hyes : canGo p s d = true → besN p s (d + 1) = besN p s d ++ [ahead s d] := fun h => by rw [besN, if_pos h]
  have hno : canGo p s d = false → besN p s (d + 1) = besN p s d := fun h => by rw [besN, if_neg (by rw [h]; decide)]
  have h4 : ¬ d < 4 → d = 4 := fun h => by omega
  by_cases hlt : d < 4
  · refine Goes.tree Γ_ok htb 1000 true false Try.func79 rfl ?_
    ((try simp only [decide_eq_true_eq, decide_eq_false_iff_not, Bool.not_eq_true', Bool.not_eq_false', Bool.not_true, Bool.not_false, Bool.and_eq_true, Bool.or_eq_true, bne_iff_ne, beq_iff_eq, ne_eq]); (try simp only [rng, lo, hi, mnI, mxI, Int.toNat_natCast, Sg.n, Nat.mul_one, Nat.zero_add, Nat.add_zero, Nat.reduceAdd, List.getD_cons_zero, List.getD_cons_succ, one_row]))
    ((repeat' (first | (with_reducible apply And.intro) | intro _)); all_goals (first | exact trivial | (with_reducible assumption) | (show (_ : List Blk) = _; rfl) | (first | exact trivial | (with_reducible assumption) | omega | (split <;> omega) | (split <;> split <;> omega)) | skip); all_goals (try (refine ⟨rfl, (by first | exact Nat.le_refl _ | exact Nat.le_of_ble_eq_true rfl), rfl, rfl, ?_, (by repeat' (first | exact trivial | rfl | apply And.intro)), rfl, rfl⟩)))
    · show (besN p s d ++ [ahead s d]).length ≤ _
      simp only [List.length_append, List.length_cons, List.length_nil]; omega
    · refine ⟨ih (d + 1) (by omega) (by omega) [0, 1, 4] _ _ ?_⟩
      rw [hyes (by assumption)]
      exact ⟨rfl, rfl, rfl, (by repeat' (first | exact trivial | rfl | apply And.intro)), (by repeat' (first | exact trivial | rfl | apply And.intro)), rfl, rfl, rfl⟩
    · refine ⟨ih (d + 1) (by omega) (by omega) [0, 1, 2] _ _ ?_⟩
      rw [hno (by assumption)]
      exact ⟨rfl, rfl, rfl, (by repeat' (first | exact trivial | rfl | apply And.intro)), (by repeat' (first | exact trivial | rfl | apply And.intro)), rfl, rfl, rfl⟩
  · obtain rfl : d = 4 := h4 hlt
    clear ih
    refine Goes.tree Γ_ok htb 1000 true false Try.func79 rfl ?_
    ((try simp only [decide_eq_true_eq, decide_eq_false_iff_not, Bool.not_eq_true', Bool.not_eq_false', Bool.not_true, Bool.not_false, Bool.and_eq_true, Bool.or_eq_true, bne_iff_ne, beq_iff_eq, ne_eq]); (try simp only [rng, lo, hi, mnI, mxI, Int.toNat_natCast, Sg.n, Nat.mul_one, Nat.zero_add, Nat.add_zero, Nat.reduceAdd, List.getD_cons_zero, List.getD_cons_succ]))
    ((repeat' (first | (with_reducible apply And.intro) | intro _)); all_goals (first | exact trivial | (with_reducible assumption) | (show (_ : List Blk) = _; rfl) | (first | exact trivial | (with_reducible assumption) | omega | (split <;> omega) | (split <;> split <;> omega)) | skip); all_goals (try (refine ⟨rfl, (by first | exact Nat.le_refl _ | exact Nat.le_of_ble_eq_true rfl), rfl, rfl, ?_, (by repeat' (first | exact trivial | rfl | apply And.intro)), rfl, rfl⟩)))
    all_goals (first | contradiction | exact sameA_refl _)

def besideOS : Fun
  | [.ag .pas p, .ag .spot s], [] => some (.ow 0 (besN p s 4).length .spot 37, [.l .spot (besN p s 4)], [okD p ∧ isP p s = true])
  | _, _ => .none

set_option maxRecDepth 100000 in
theorem s_beside : Sound Try.prog 127 besideOS := by
  intro args M r M' vs h hvs
  unfold besideOS at h
  split at h
  case h_2 => cases h
  rename_i p s
  cases h
  refine SpecOK.assume fun hA hM => ?_
  have htb := (TbOk.cons s_canGo Try.func124 rfl rfl (TbOk.cons s_ahead Try.func123 rfl rfl (TbOk.nil : TbOk Try.prog tb0)))
  refine SpecOK.of_goes [2] Try.func127 rfl ?_
  obtain ⟨⟨hd, hs⟩, -⟩ := hvs
  have hn := near_of hd hs
  clear hA hM
  refine Goes.tree Γ_ok htb 1000 false false Try.func127 rfl ?_
  refine ⟨?_⟩
  refine Goes.loopR (fun d : Nat => 4 - d) (fun d => d ≤ 4) (fun d => (.any :: .any :: .pw 0 .pas :: .pw 1 .spot :: .any :: .ow 2 (besN p s d).length .spot 37 :: .any :: .any :: .i .i64 (d:Int) :: .any :: .any :: .any :: .any :: .any :: .any :: .any :: .any :: .any :: .any :: .any :: .any :: .any :: .any :: [])) (fun d => [.c .pas p, .c .spot s, .l .spot (besN p s d)]) 0 [0, 1, 2] (by omega) ⟨rfl, rfl, rfl, (by repeat' (first | exact trivial | rfl | apply And.intro)), (by repeat' (first | exact trivial | rfl | apply And.intro)), rfl, rfl, rfl⟩ fun d hle ih => ?_
  have hlen := besN_len p s d
  have hyes : canGo p s d = true → besN p s (d + 1) = besN p s d ++ [ahead s d] := fun h => by rw [besN, if_pos h]
  have hno : canGo p s d = false → besN p s (d + 1) = besN p s d := fun h => by rw [besN, if_neg (by rw [h]; decide)]
  have h4 : ¬ d < 4 → d = 4 := fun h => by omega
  by_cases hlt : d < 4
  · refine Goes.tree Γ_ok htb 1000 false false Try.func127 rfl ?_
    ((try simp only [decide_eq_true_eq, decide_eq_false_iff_not, Bool.not_eq_true', Bool.not_eq_false', Bool.not_true, Bool.not_false, Bool.and_eq_true, Bool.or_eq_true, bne_iff_ne, beq_iff_eq, ne_eq]); (try simp only [rng, lo, hi, mnI, mxI, Int.toNat_natCast, Sg.n, Nat.mul_one, Nat.zero_add, Nat.add_zero, Nat.reduceAdd, List.getD_cons_zero, List.getD_cons_succ, one_row]))
    ((repeat' (first | (with_reducible apply And.intro) | intro _)); all_goals (first | exact trivial | (with_reducible assumption) | (show (_ : List Blk) = _; rfl) | (first | exact trivial | (with_reducible assumption) | omega | (split <;> omega) | (split <;> split <;> omega)) | skip); all_goals (try (refine ⟨rfl, (by first | exact Nat.le_refl _ | exact Nat.le_of_ble_eq_true rfl), rfl, rfl, ?_, (by repeat' (first | exact trivial | rfl | apply And.intro)), rfl, rfl⟩)))
    · show (besN p s d ++ [ahead s d]).length ≤ _
      simp only [List.length_append, List.length_cons, List.length_nil]; omega
    · refine ⟨ih (d + 1) (by omega) (by omega) [0, 1, 4] _ _ ?_⟩
      rw [hyes (by assumption)]
      exact ⟨rfl, rfl, rfl, (by repeat' (first | exact trivial | rfl | apply And.intro)), (by repeat' (first | exact trivial | rfl | apply And.intro)), rfl, rfl, rfl⟩
    · refine ⟨ih (d + 1) (by omega) (by omega) [0, 1, 2] _ _ ?_⟩
      rw [hno (by assumption)]
      exact ⟨rfl, rfl, rfl, (by repeat' (first | exact trivial | rfl | apply And.intro)), (by repeat' (first | exact trivial | rfl | apply And.intro)), rfl, rfl, rfl⟩
  · obtain rfl : d = 4 := h4 hlt
    clear ih
    refine Goes.tree Γ_ok htb 1000 false false Try.func127 rfl ?_
    ((try simp only [decide_eq_true_eq, decide_eq_false_iff_not, Bool.not_eq_true', Bool.not_eq_false', Bool.not_true, Bool.not_false, Bool.and_eq_true, Bool.or_eq_true, bne_iff_ne, beq_iff_eq, ne_eq]); (try simp only [rng, lo, hi, mnI, mxI, Int.toNat_natCast, Sg.n, Nat.mul_one, Nat.zero_add, Nat.add_zero, Nat.reduceAdd, List.getD_cons_zero, List.getD_cons_succ]))
    ((repeat' (first | (with_reducible apply And.intro) | intro _)); all_goals (first | exact trivial | (with_reducible assumption) | (show (_ : List Blk) = _; rfl) | (first | exact trivial | (with_reducible assumption) | omega | (split <;> omega) | (split <;> split <;> omega)) | skip); all_goals (try (refine ⟨rfl, (by first | exact Nat.le_refl _ | exact Nat.le_of_ble_eq_true rfl), rfl, rfl, ?_, (by repeat' (first | exact trivial | rfl | apply And.intro)), rfl, rfl⟩)))
    all_goals (first | contradiction | exact sameA_refl _)
end Go.Proofs.Ytfelemoefhbphaa
