/- The row YardOf: the spec and the program list the same yard. -/
import Derived.Test.YtgogccconmlkiaaYard
import Derived.Test.YtgogccconmlkiaaMarks
import Derived.Test.YtgogccconmlkiaaGr0
namespace Go.Proofs.Ytgogccconmlkiaa
open Go Go.Eng
set_option linter.unusedSimpArgs false
set_option linter.unusedVariables false
set_option maxRecDepth 100000
set_option maxHeartbeats 4000000

theorem codeP_cell {p s : List Int} (h : codeP p [s] = 0) : okD p ∧ isP p s = true := ⟨(codeP_all h).1.1, (codeP_all h).2 s (List.mem_singleton.2 rfl)⟩
noncomputable def yardOfS : Fun
  | [.ag .pas p, .ag .spot s], [] => some (.t2 (.fs .spot (if codeP p [s] = 0 then yardR p s else [])) (.i .i64 (codeP p [s])), [], [])
  | _, _ => .none

set_option maxRecDepth 100000 in
theorem s_specYardOf : Sound Try.prog 46 yardOfS := by
  intro args M r M' vs h hvs
  unfold yardOfS at h
  split at h
  case h_2 => cases h
  rename_i p s
  cases h
  refine SpecOK.assume fun hA hM => ?_
  have htb := (TbOk.cons s_l01Asked Try.func94 rfl rfl (TbOk.cons s_l01Yard Try.func96 rfl rfl (TbOk.nil : TbOk Try.prog tb0)))
  refine SpecOK.of_goes [] Try.func46 rfl ?_
  have hok := fun h => codeP_cell (p := p) (s := s) h
  clear hA hM
  refine Goes.tree Γ_ok htb 1000 true false Try.func46 rfl ?_
  ((try simp only [decide_eq_true_eq, decide_eq_false_iff_not, Bool.not_eq_true', Bool.not_eq_false', Bool.not_true, Bool.not_false, Bool.and_eq_true, Bool.or_eq_true, bne_iff_ne, beq_iff_eq, ne_eq]); (try simp only [rng, lo, hi, mnI, mxI, Int.toNat_natCast, Sg.n, Nat.mul_one, Nat.zero_add, Nat.add_zero, Nat.reduceAdd, List.getD_cons_zero, List.getD_cons_succ]))
  ((repeat' (first | (with_reducible apply And.intro) | intro _)); all_goals (first | exact trivial | (with_reducible assumption) | (show (_ : List Blk) = _; rfl) | (first | exact trivial | (with_reducible assumption) | omega | (split <;> omega) | (split <;> split <;> omega)) | skip); all_goals (try (refine ⟨rfl, (by first | exact Nat.le_refl _ | exact Nat.le_of_ble_eq_true rfl), rfl, rfl, ?_, (by repeat' (first | exact trivial | rfl | apply And.intro)), rfl, rfl⟩)))
  · refine sameA_ft ?_ rfl
    rw [if_neg (by assumption)]; rfl
  · exact (hok (by assumption)).1
  · exact (hok (by assumption)).2
  · rename_i h
    refine sameA_ft ?_ h
    rw [if_pos h]

noncomputable def yardOkS : Fun
  | [.ag .pas p, .ag .spot s], [] => some (.t2 (.ow 0 (yardR p s).length .spot 69) (.i .i64 0), [.l .spot (yardR p s)], [codeP p [s] = 0])
  | _, _ => .none
def yardErrS : Fun
  | [.ag .pas p, .ag .spot s], [] => some (.t2 .nsl (.i .i64 (codeP p [s])), [], [¬ codeP p [s] = 0])
  | _, _ => .none
end Go.Proofs.Ytgogccconmlkiaa
