/- The law FnExactCodeName, as printed over plain data, answers true for every int64 code. -/
import Derived.Test.YtclhjnlaopclcaaPFnExactCodeNamex1
namespace Go.Proofs.Ytclhjnlaopclcaa.Pure
open Go.RowKit Go.Proofs.Ytclhjnlaopclcaa.PFnExactCodeName Go.Proofs.YtclhjnlaopclcaaW.PrintWords Go.Proofs.YtclhjnlaopclcaaW.PrintLast

theorem l00In_eq (a b c : Int) : spec_l00In.f a b c = some (decide (b ≤ a) && decide (a ≤ c)) := by
  unfold spec_l00In.f
  by_cases h : a ≥ b
  · rw [if_pos h, decide_eq_true (show b ≤ a from h)]; rfl
  · rw [if_neg h, decide_eq_false (show ¬ b ≤ a from h)]; rfl

theorem within_eq (a b c : Int) : impl_within.f a b c = some (decide (b ≤ a) && decide (a ≤ c)) := by
  unfold impl_within.f
  by_cases h : b ≤ a
  · rw [if_pos h, decide_eq_true h]; rfl
  · rw [if_neg h, decide_eq_false h]; rfl

theorem FnExactCodeName : laws_FnExactCodeName.Pure := by
  intro a ha
  have e : impl_CodeName.f a = spec_CodeName.f a := by
    unfold impl_CodeName.f spec_CodeName.f impl_size_string.f
    have e8 : ∀ l : List ByteArray, l.length = 9 → impl_within.f a 0 (wrap64 ((l.length : Int) - 1)) = spec_l00In.f a 0 8 := by
      intro l hl
      rw [l00In_eq, within_eq, hl]
      have : wrap64 (((9 : Nat) : Int) - 1) = 8 := by unfold wrap64; omega
      rw [this]
    simp only [Option.bind_some]
    rw [e8 _ rfl]
  have h : ∃ r, spec_CodeName.f a = some r := by
    unfold spec_CodeName.f
    simp only [Option.bind_some, l00In_eq]
    by_cases h0 : 0 ≤ a
    · by_cases h8 : a ≤ 8
      · rw [decide_eq_true h0, decide_eq_true h8]
        simp only [Bool.and_self, if_true]
        rw [if_pos h0, if_pos (by simp only [List.length_cons, List.length_nil]; omega)]
        exact ⟨_, rfl⟩
      · rw [decide_eq_false h8, Bool.and_false]
        exact ⟨_, rfl⟩
    · rw [decide_eq_false h0, Bool.false_and]
      exact ⟨_, rfl⟩
  obtain ⟨r, hr⟩ := h
  unfold laws_FnExactCodeName.f
  rw [e, hr]
  simp

end Go.Proofs.Ytclhjnlaopclcaa.Pure
