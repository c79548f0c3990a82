/- All hurdles that stand: the spec and the program. -/
import Derived.Test.YtfelemoefhbphaaHur
namespace Go.Proofs.Ytfelemoefhbphaa
open Go Go.Eng
set_option linter.unusedSimpArgs false
set_option linter.unusedVariables false
set_option maxRecDepth 100000
set_option maxHeartbeats 4000000

def hurdlesS : Fun
  | [.ag .pas p], [] => some (.ow 0 (hurRows p).length .hur 113, [.l .hur (hurRows p)], [okD p])
  | _, _ => .none
set_option maxRecDepth 100000 in
theorem s_hurdles : Sound Try.prog 133 hurdlesS := by
  intro args M r M' vs h hvs
  unfold hurdlesS at h
  split at h
  case h_2 => cases h
  rename_i p
  cases h
  refine SpecOK.assume fun hA hM => ?_
  have htb := (TbOk.cons s_sides Try.func153 rfl rfl (TbOk.nil : TbOk Try.prog tb0))
  refine SpecOK.of_goes [1] Try.func133 rfl ?_
  obtain ⟨hd, -⟩ := hvs
  clear hA hM
  refine Goes.tree Γ_ok htb 1000 false false Try.func133 rfl ?_
  ((try simp only [decide_eq_true_eq, decide_eq_false_iff_not, Bool.not_eq_true', Bool.not_eq_false', Bool.not_true, Bool.not_false, Bool.and_eq_true, Bool.or_eq_true, bne_iff_ne, beq_iff_eq, ne_eq]); (try simp only [rng, lo, hi, mnI, mxI, Int.toNat_natCast, Sg.n, Nat.mul_one, Nat.zero_add, Nat.add_zero, Nat.reduceAdd, List.getD_cons_zero, List.getD_cons_succ]))
  ((repeat' (first | (with_reducible apply And.intro) | intro _)); all_goals (first | exact trivial | (with_reducible assumption) | (show (_ : List Blk) = _; rfl) | (first | exact trivial | (with_reducible assumption) | omega | (split <;> omega) | (split <;> split <;> omega)) | skip); all_goals (try (refine ⟨rfl, (by first | exact Nat.le_refl _ | exact Nat.le_of_ble_eq_true rfl), rfl, rfl, ?_, (by repeat' (first | exact trivial | rfl | apply And.intro)), rfl, rfl⟩)))
  all_goals (first | exact hd | rfl | exact sameA_refl _)

def hurOfS : Fun
  | [.ag .pas p], [] => some (.t2 (.fs .hur (if okP p then hurRows p else [])) (.i .i64 (if okP p then 0 else 1)), [], [])
  | _, _ => .none
def hurOkS : Fun
  | [.ag .pas p], [] => some (.t2 (.ow 0 (hurRows p).length .hur 113) (.i .i64 0), [.l .hur (hurRows p)], [okP p])
  | _, _ => .none
def hurErrS : Fun
  | [.ag .pas p], [] => some (.t2 .nsl (.i .i64 1), [], [¬ okP p])
  | _, _ => .none
end Go.Proofs.Ytfelemoefhbphaa
