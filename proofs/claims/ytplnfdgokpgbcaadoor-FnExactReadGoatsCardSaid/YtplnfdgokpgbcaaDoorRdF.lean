/- A spot read from its text: the program. -/
import Derived.Test.YtplnfdgokpgbcaaDoorRdE
namespace Go.Proofs.YtplnfdgokpgbcaaDoor
open Go Go.Eng
set_option linter.unusedSimpArgs false
set_option linter.unusedVariables false
set_option maxRecDepth 100000
set_option maxHeartbeats 4000000

def rsV (s : ByteArray) : Int := if numI s 9 = true then numK s s.size else 0
def rsO (s : ByteArray) : Bool := cutF s 44 && numI (cutA s 44) 9 && numI (cutZ s 44) 9
theorem rsV_rng (s : ByteArray) : 0 ≤ rsV s ∧ rsV s ≤ 9 := by
  unfold rsV
  split
  · rename_i h
    unfold numI at h
    rw [Bool.and_eq_true, decide_eq_true_eq] at h
    have := numK_val s h.1
    omega
  · omega
def rsS : Fun
  | [.s s], [] => some (.t2 (.ag .spot [rsV (cutA s 44), rsV (cutZ s 44)]) (.b (rsO s)), [], [s.size ≤ 1073741000])
  | _, _ => .none
set_option maxRecDepth 100000 in
theorem s_readSpot : Sound Tryd.prog 69 rsS := by
  intro args M r M' vs h hvs
  unfold rsS at h
  split at h
  case h_2 => cases h
  rename_i s
  cases h
  refine SpecOK.assume fun hA hM => ?_
  have htb := (TbOk.cons s_cut Tryd.func95 rfl rfl (TbOk.cons s_number Tryd.func96 rfl rfl (TbOk.nil : TbOk Tryd.prog tb0)))
  refine SpecOK.of_goes [] Tryd.func69 rfl ?_
  obtain ⟨hs, -⟩ := hvs
  clear hA hM
  obtain ⟨c1, c2⟩ := cut_size s 44
  have v1 := rsV_rng (cutA s 44)
  have v2 := rsV_rng (cutZ s 44)
  have e1 : (if numI (cutA s 44) 9 = true then numK (cutA s 44) (cutA s 44).size else 0) = rsV (cutA s 44) := rfl
  have e2 : (if numI (cutZ s 44) 9 = true then numK (cutZ s 44) (cutZ s 44).size else 0) = rsV (cutZ s 44) := rfl
  have e3 : rsO s = (cutF s 44 && numI (cutA s 44) 9 && numI (cutZ s 44) 9) := rfl
  have e4 : ((ByteArray.mk #[44]).data.getD 0 0) = (44 : UInt8) := rfl
  refine Goes.tree Γ_ok htb 1000 false false Tryd.func69 rfl ?_
  ((try simp only [decide_eq_true_eq, decide_eq_false_iff_not, Bool.not_eq_true', Bool.not_eq_false', Bool.not_true, Bool.not_false, Bool.and_eq_true, Bool.or_eq_true, bne_iff_ne, beq_iff_eq, ne_eq]); (try simp only [rng, lo, hi, mnI, mxI, Int.toNat_natCast, Sg.n, Nat.mul_one, Nat.zero_add, Nat.add_zero, Nat.reduceAdd, List.getD_cons_zero, List.getD_cons_succ, e1, e2, e4]))
  ((repeat' (first | (with_reducible apply And.intro) | intro _)); all_goals (first | exact trivial | (with_reducible assumption) | (show (_ : List Blk) = _; rfl) | (first | exact trivial | (with_reducible assumption) | omega | (split <;> omega) | (split <;> split <;> omega)) | skip); all_goals (try (refine ⟨rfl, (by first | exact Nat.le_refl _ | exact Nat.le_of_ble_eq_true rfl), rfl, rfl, ?_, (by repeat' (first | exact trivial | rfl | apply And.intro)), rfl, rfl⟩)))
  all_goals (try first | omega | rfl)
  all_goals (refine ⟨⟨rfl, rfl⟩, ?_⟩; show rsO s = _; rw [e3]; simp only [*, Bool.true_and, Bool.false_and, Bool.and_false])
end Go.Proofs.YtplnfdgokpgbcaaDoor
