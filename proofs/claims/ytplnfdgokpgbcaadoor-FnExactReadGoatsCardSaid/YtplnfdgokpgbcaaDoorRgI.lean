/- The words of likings, and where one of them stands. -/
import Derived.Test.YtplnfdgokpgbcaaDoorRgB
import Derived.Test.YtplnfdgokpgbcaaDoorGoI
namespace Go.Proofs.YtplnfdgokpgbcaaDoor
open Go Go.Eng
set_option linter.unusedSimpArgs false
set_option linter.unusedVariables false
set_option maxRecDepth 100000
set_option maxHeartbeats 4000000

def idx2S : Fun
  | [.ow 0 2 .str 9, .s x], [.s [a, b]] => some (.i .i64 (if x = a then 0 else if x = b then 1 else -1), [.s [a, b]], [])
  | _, _ => .none
set_option maxRecDepth 100000 in
theorem s_idx2 : Sound Tryd.prog 100 idx2S := by
  intro args M r M' vs h hvs
  unfold idx2S at h
  split at h
  case h_2 => cases h
  rename_i x a b
  cases h
  refine SpecOK.assume fun hA hM => ?_
  have htb := (TbOk.nil : TbOk Tryd.prog tb0)
  refine SpecOK.of_goes [0] Tryd.func100 rfl ?_
  clear hA hM
  have g0 : [a, b].getD (Int.toNat 0) ByteArray.empty = a := rfl
  have g1 : [a, b].getD (Int.toNat (0 + 1)) ByteArray.empty = b := rfl
  refine Goes.tree Γ_ok htb 1000 false false Tryd.func100 rfl ?_
  refine ⟨?_⟩
  refine Goes.tree Γ_ok htb 1000 false false Tryd.func100 rfl ?_
  ((try simp only [decide_eq_true_eq, decide_eq_false_iff_not, Bool.not_eq_true', Bool.not_eq_false', Bool.not_true, Bool.not_false, Bool.and_eq_true, Bool.or_eq_true, bne_iff_ne, beq_iff_eq, ne_eq]); (try simp only [rng, lo, hi, mnI, mxI, Int.toNat_natCast, Sg.n, Nat.mul_one, Nat.zero_add, Nat.add_zero, Nat.reduceAdd, List.getD_cons_zero, List.getD_cons_succ, g0, g1]))
  ((repeat' (first | (with_reducible apply And.intro) | intro _)); all_goals (first | exact trivial | (with_reducible assumption) | (show (_ : List Blk) = _; rfl) | (first | exact trivial | (with_reducible assumption) | omega | (split <;> omega) | (split <;> split <;> omega)) | skip); all_goals (try (refine ⟨rfl, (by first | exact Nat.le_refl _ | exact Nat.le_of_ble_eq_true rfl), rfl, rfl, ?_, (by repeat' (first | exact trivial | rfl | apply And.intro)), rfl, rfl⟩)))
  · rename_i h; rw [if_pos h]; exact sameA_refl _
  · rename_i h
    rw [if_neg h]
    refine ⟨?_⟩
    refine Goes.tree Γ_ok htb 1000 false false Tryd.func100 rfl ?_
    ((try simp only [decide_eq_true_eq, decide_eq_false_iff_not, Bool.not_eq_true', Bool.not_eq_false', Bool.not_true, Bool.not_false, Bool.and_eq_true, Bool.or_eq_true, bne_iff_ne, beq_iff_eq, ne_eq]); (try simp only [rng, lo, hi, mnI, mxI, Int.toNat_natCast, Sg.n, Nat.mul_one, Nat.zero_add, Nat.add_zero, Nat.reduceAdd, List.getD_cons_zero, List.getD_cons_succ, g0, g1]))
    ((repeat' (first | (with_reducible apply And.intro) | intro _)); all_goals (first | exact trivial | (with_reducible assumption) | (show (_ : List Blk) = _; rfl) | (first | exact trivial | (with_reducible assumption) | omega | (split <;> omega) | (split <;> split <;> omega)) | skip); all_goals (try (refine ⟨rfl, (by first | exact Nat.le_refl _ | exact Nat.le_of_ble_eq_true rfl), rfl, rfl, ?_, (by repeat' (first | exact trivial | rfl | apply And.intro)), rfl, rfl⟩)))
    · rename_i h2; rw [if_pos h2]; exact sameA_refl _
    · rename_i h2
      rw [if_neg h2]
      refine ⟨?_⟩
      refine Goes.tree Γ_ok htb 1000 false false Tryd.func100 rfl ?_
      ((try simp only [decide_eq_true_eq, decide_eq_false_iff_not, Bool.not_eq_true', Bool.not_eq_false', Bool.not_true, Bool.not_false, Bool.and_eq_true, Bool.or_eq_true, bne_iff_ne, beq_iff_eq, ne_eq]); (try simp only [rng, lo, hi, mnI, mxI, Int.toNat_natCast, Sg.n, Nat.mul_one, Nat.zero_add, Nat.add_zero, Nat.reduceAdd, List.getD_cons_zero, List.getD_cons_succ, g0, g1]))
      ((repeat' (first | (with_reducible apply And.intro) | intro _)); all_goals (first | exact trivial | (with_reducible assumption) | (show (_ : List Blk) = _; rfl) | (first | exact trivial | (with_reducible assumption) | omega | (split <;> omega) | (split <;> split <;> omega)) | skip); all_goals (try (refine ⟨rfl, (by first | exact Nat.le_refl _ | exact Nat.le_of_ble_eq_true rfl), rfl, rfl, ?_, (by repeat' (first | exact trivial | rfl | apply And.intro)), rfl, rfl⟩)))
      all_goals (first | exact absurd (by decide) (by assumption) | exact sameA_refl _ | omega | trace_state)
end Go.Proofs.YtplnfdgokpgbcaaDoor
