/- A yard's cells; small codes. -/
import Derived.Test.YtfelemoefhbphaaYard
import Derived.Test.YtfelemoefhbphaaGr0
import Derived.Test.YtfelemoefhbphaaHas
namespace Go.Proofs.Ytfelemoefhbphaa
open Go Go.Eng
set_option linter.unusedSimpArgs false
set_option linter.unusedVariables false
set_option maxRecDepth 100000
set_option maxHeartbeats 4000000

theorem rowF_in {f : List Int → Bool} {acc : List (List Int)} {y w : Nat} (hy : y < 10) (hw : w ≤ 10) (h : ∀ s ∈ acc, inG s ∧ s.length = 2) : ∀ x, x ≤ w → ∀ s ∈ rowF f acc y x, inG s ∧ s.length = 2 := by
  intro x
  induction x with
  | zero => intro _; exact h
  | succ x ih =>
    intro hx s hs
    unfold rowF at hs
    split at hs
    · rcases List.mem_append.1 hs with hs | hs
      · exact ih (by omega) s hs
      · rw [List.mem_singleton.1 hs]
        exact ⟨by simp only [inG, List.getD_cons_zero, List.getD_cons_succ]; omega, rfl⟩
    · exact ih (by omega) s hs
theorem spotsF_in {f : List Int → Bool} {w : Nat} (hw : w ≤ 10) : ∀ y, y ≤ 10 → ∀ s ∈ spotsF f w y, inG s ∧ s.length = 2 := by
  intro y
  induction y with
  | zero => intro _ s hs; cases hs
  | succ y ih => intro hy; exact rowF_in (by omega) hw (ih (by omega)) w (Nat.le_refl _)
theorem yardR_cells {p s : List Int} (h : okD p) : cellsR (yardR p s) := by
  unfold okD at h
  exact spotsF_in (by omega) _ (by omega)
theorem yardR_100 {p s : List Int} (h : okD p) : (yardR p s).length ≤ 100 := by
  unfold okD at h
  have h1 := spotsF_len (inT (m1 (bfsD p [s]))) (p.getD 0 0).toNat (p.getD 1 0).toNat
  have h2 : (p.getD 0 0).toNat * (p.getD 1 0).toNat ≤ 10 * 10 := Nat.mul_le_mul (by omega) (by omega)
  unfold yardR; omega

noncomputable def yardZS : Fun
  | [.ag .pas p, .ag .spot s], [] => some (.fs .spot (yardR p s), [], [okD p ∧ isP p s = true])
  | _, _ => .none
set_option maxRecDepth 100000 in
theorem s_yardZ : Sound Try.prog 59 yardZS := by
  intro args M r M' vs h hvs
  unfold yardZS at h
  split at h
  case h_2 => cases h
  rename_i p s
  cases h
  refine SpecOK.assume fun hA hM => ?_
  have htb := (TbOk.cons s_far Try.func82 rfl rfl (TbOk.cons s_cellsYard Try.func108 rfl rfl (TbOk.nil : TbOk Try.prog tb0)))
  refine SpecOK.of_goes [] Try.func59 rfl ?_
  obtain ⟨⟨hd, hs⟩, -⟩ := hvs
  have hr := m1_rng hd (one_isP hs)
  clear hA hM
  refine Goes.tree Γ_ok htb 1000 true false Try.func59 rfl ?_
  ((try simp only [decide_eq_true_eq, decide_eq_false_iff_not, Bool.not_eq_true', Bool.not_eq_false', Bool.not_true, Bool.not_false, Bool.and_eq_true, Bool.or_eq_true, bne_iff_ne, beq_iff_eq, ne_eq]); (try simp only [rng, lo, hi, mnI, mxI, Int.toNat_natCast, Sg.n, Nat.mul_one, Nat.zero_add, Nat.add_zero, Nat.reduceAdd, List.getD_cons_zero, List.getD_cons_succ, one_row]))
  ((repeat' (first | (with_reducible apply And.intro) | intro _)); all_goals (first | exact trivial | (with_reducible assumption) | (show (_ : List Blk) = _; rfl) | (first | exact trivial | (with_reducible assumption) | omega | (split <;> omega) | (split <;> split <;> omega)) | skip); all_goals (try (refine ⟨rfl, (by first | exact Nat.le_refl _ | exact Nat.le_of_ble_eq_true rfl), rfl, rfl, ?_, (by repeat' (first | exact trivial | rfl | apply And.intro)), rfl, rfl⟩)))
  all_goals (try first | exact hd | exact one_isP hs _ (by assumption) | (simp; done) | exact (hr _).1 | exact (hr _).2 | exact sameA_refl _)

theorem fst_bound (p s : List Int) (q : Prop) [Decidable q] : fstI [[codeP p [s]], [if q then 0 else 2]] = boundC p s q := by
  unfold boundC
  simp only [fstI, List.getD_cons_zero]
  split <;> (try split) <;> simp_all

def isLeaveS : Fun
  | [.i .i64 d], [] => some (.i .i64 (if 0 ≤ d ∧ d ≤ 1000 then 0 else 2), [], [])
  | _, _ => .none
set_option maxRecDepth 100000 in
theorem s_isLeave : Sound Try.prog 68 isLeaveS := by
  intro args M r M' vs h hvs
  unfold isLeaveS at h
  split at h
  case h_2 => cases h
  rename_i d
  cases h
  refine SpecOK.assume fun hA hM => ?_
  have htb := (TbOk.cons s_within Try.func75 rfl rfl (TbOk.cons s_unless Try.func74 rfl rfl (TbOk.nil : TbOk Try.prog tb0)))
  refine SpecOK.of_goes [] Try.func68 rfl ?_
  refine Goes.tree Γ_ok htb 1000 false false Try.func68 rfl ?_
  ((try simp only [decide_eq_true_eq, decide_eq_false_iff_not, Bool.not_eq_true', Bool.not_eq_false', Bool.not_true, Bool.not_false, Bool.and_eq_true, Bool.or_eq_true, bne_iff_ne, beq_iff_eq, ne_eq]); (try simp only [rng, lo, hi, mnI, mxI, Int.toNat_natCast, Sg.n, Nat.mul_one, Nat.zero_add, Nat.add_zero, Nat.reduceAdd, List.getD_cons_zero, List.getD_cons_succ]))
  ((repeat' (first | (with_reducible apply And.intro) | intro _)); all_goals (first | exact trivial | (with_reducible assumption) | (show (_ : List Blk) = _; rfl) | (first | exact trivial | (with_reducible assumption) | omega | (split <;> omega) | (split <;> split <;> omega)) | skip); all_goals (try (refine ⟨rfl, (by first | exact Nat.le_refl _ | exact Nat.le_of_ble_eq_true rfl), rfl, rfl, ?_, (by repeat' (first | exact trivial | rfl | apply And.intro)), rfl, rfl⟩)))
  refine sameA_i ?_
  simp
def eatsS : Fun
  | [.i .i64 d], [] => some (.b (decide (0 ≤ d ∧ d ≤ 100000)), [], [])
  | _, _ => .none
set_option maxRecDepth 100000 in
theorem s_l04Eats : Sound Try.prog 72 eatsS := by
  intro args M r M' vs h hvs
  unfold eatsS at h
  split at h
  case h_2 => cases h
  rename_i d
  cases h
  refine SpecOK.assume fun hA hM => ?_
  have htb := (TbOk.cons s_l00In Try.func116 rfl rfl (TbOk.nil : TbOk Try.prog tb0))
  refine SpecOK.of_goes [] Try.func72 rfl ?_
  refine Goes.tree Γ_ok htb 1000 false false Try.func72 rfl ?_
  ((try simp only [decide_eq_true_eq, decide_eq_false_iff_not, Bool.not_eq_true', Bool.not_eq_false', Bool.not_true, Bool.not_false, Bool.and_eq_true, Bool.or_eq_true, bne_iff_ne, beq_iff_eq, ne_eq]); (try simp only [rng, lo, hi, mnI, mxI, Int.toNat_natCast, Sg.n, Nat.mul_one, Nat.zero_add, Nat.add_zero, Nat.reduceAdd, List.getD_cons_zero, List.getD_cons_succ]))
  ((repeat' (first | (with_reducible apply And.intro) | intro _)); all_goals (first | exact trivial | (with_reducible assumption) | (show (_ : List Blk) = _; rfl) | (first | exact trivial | (with_reducible assumption) | omega | (split <;> omega) | (split <;> split <;> omega)) | skip); all_goals (try (refine ⟨rfl, (by first | exact Nat.le_refl _ | exact Nat.le_of_ble_eq_true rfl), rfl, rfl, ?_, (by repeat' (first | exact trivial | rfl | apply And.intro)), rfl, rfl⟩)))
  exact sameA_refl _
end Go.Proofs.Ytfelemoefhbphaa
