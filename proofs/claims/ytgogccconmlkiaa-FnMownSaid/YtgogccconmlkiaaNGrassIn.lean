/- The row GrassIn: the spec sums all 100 cells, the program those of the pasture. -/
import Derived.Test.YtgogccconmlkiaaSpots
namespace Go.Proofs.Ytgogccconmlkiaa
open Go Go.Eng
set_option linter.unusedSimpArgs false
set_option linter.unusedVariables false
set_option maxRecDepth 100000
set_option maxHeartbeats 4000000

def grassInS : Fun
  | [.ag .pas p], [] => some (.t2 (.i .i64 (if okP p then sumA p 10 else 0)) (.i .i64 (if okP p then 0 else 1)), [], [])
  | _, _ => .none

set_option maxRecDepth 100000 in
theorem s_specGrassIn : Sound Try.prog 44 grassInS := by
  intro args M r M' vs h hvs
  unfold grassInS at h
  split at h
  case h_2 => cases h
  rename_i p
  cases h
  refine SpecOK.assume fun hA hM => ?_
  have htb := (TbOk.cons s_l01Ok Try.func97 rfl rfl (TbOk.cons s_l01Sum Try.func98 rfl rfl (TbOk.nil : TbOk Try.prog tb0)))
  refine SpecOK.of_goes [] Try.func44 rfl ?_
  refine Goes.tree Γ_ok htb 1000 false false Try.func44 rfl ?_
  ((try simp only [decide_eq_true_eq, decide_eq_false_iff_not, Bool.not_eq_true', Bool.not_eq_false', Bool.not_true, Bool.not_false, Bool.and_eq_true, Bool.or_eq_true, bne_iff_ne, beq_iff_eq, ne_eq]); (try simp only [rng, lo, hi, mnI, mxI, Int.toNat_natCast, Sg.n, Nat.mul_one, Nat.zero_add, Nat.add_zero, Nat.reduceAdd, List.getD_cons_zero, List.getD_cons_succ]))
  ((repeat' (first | (with_reducible apply And.intro) | intro _)); all_goals (first | exact trivial | (with_reducible assumption) | (show (_ : List Blk) = _; rfl) | (first | exact trivial | (with_reducible assumption) | omega | (split <;> omega) | (split <;> split <;> omega)) | skip); all_goals (try (refine ⟨rfl, (by first | exact Nat.le_refl _ | exact Nat.le_of_ble_eq_true rfl), rfl, rfl, ?_, (by repeat' (first | exact trivial | rfl | apply And.intro)), rfl, rfl⟩)))
  · rename_i h
    rw [if_neg h, if_neg h]; exact sameA_refl _
  · rename_i h
    rw [if_pos h, if_pos h]; exact sameA_refl _

set_option maxRecDepth 100000 in
theorem s_implGrassIn : Sound Try.prog 45 grassInS := by
  intro args M r M' vs h hvs
  unfold grassInS at h
  split at h
  case h_2 => cases h
  rename_i p
  cases h
  refine SpecOK.assume fun hA hM => ?_
  have htb := (TbOk.cons s_ValidPasture Try.func75 rfl rfl (TbOk.cons s_all Try.func90 rfl rfl (TbOk.cons s_sumOf Try.func89 rfl rfl (TbOk.nil : TbOk Try.prog tb0))))
  refine SpecOK.of_goes [] Try.func45 rfl ?_
  refine Goes.tree Γ_ok htb 1000 false false Try.func45 rfl ?_
  ((try simp only [decide_eq_true_eq, decide_eq_false_iff_not, Bool.not_eq_true', Bool.not_eq_false', Bool.not_true, Bool.not_false, Bool.and_eq_true, Bool.or_eq_true, bne_iff_ne, beq_iff_eq, ne_eq]); (try simp only [rng, lo, hi, mnI, mxI, Int.toNat_natCast, Sg.n, Nat.mul_one, Nat.zero_add, Nat.add_zero, Nat.reduceAdd, List.getD_cons_zero, List.getD_cons_succ]))
  ((repeat' (first | (with_reducible apply And.intro) | intro _)); all_goals (first | exact trivial | (with_reducible assumption) | (show (_ : List Blk) = _; rfl) | (first | exact trivial | (with_reducible assumption) | omega | (split <;> omega) | (split <;> split <;> omega)) | skip); all_goals (try (refine ⟨rfl, (by first | exact Nat.le_refl _ | exact Nat.le_of_ble_eq_true rfl), rfl, rfl, ?_, (by repeat' (first | exact trivial | rfl | apply And.intro)), rfl, rfl⟩)))
  · rename_i h
    rw [if_neg h, if_neg h]; exact sameA_refl _
  · rename_i h
    exact (spots_ok h.1).1
  · rename_i h s hs
    exact (spots_ok h.1).2 s hs
  · rename_i h
    rw [if_pos h, if_pos h, sum_spots h]; exact sameA_refl _

end Go.Proofs.Ytgogccconmlkiaa
