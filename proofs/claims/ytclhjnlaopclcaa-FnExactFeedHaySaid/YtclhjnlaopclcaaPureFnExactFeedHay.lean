/- The law FnExactFeedHay, as printed over plain data, answers true for all int64 arguments, with enough rounds. -/
import Derived.Test.YtclhjnlaopclcaaPFnExactFeedHayx1
namespace Go.Proofs.Ytclhjnlaopclcaa.Pure
open Go.RowKit Go.Proofs.Ytclhjnlaopclcaa.PFnExactFeedHay Go.Proofs.YtclhjnlaopclcaaW.PrintWords Go.Proofs.YtclhjnlaopclcaaW.PrintLast

theorem l00In_eq (a b c : Int) : spec_l00In.f a b c = some (decide (b ≤ a) && decide (a ≤ c)) := by
  unfold spec_l00In.f
  by_cases h : a ≥ b
  · rw [if_pos h, decide_eq_true (show b ≤ a from h)]; rfl
  · rw [if_neg h, decide_eq_false (show ¬ b ≤ a from h)]; rfl

theorem within_eq (a b c : Int) : impl_within.f a b c = some (decide (b ≤ a) && decide (a ≤ c)) := by
  unfold impl_within.f
  by_cases h : b ≤ a
  · rw [if_pos h, decide_eq_true h]; rfl
  · rw [if_neg h, decide_eq_false h]; rfl

theorem loops (eats days : Int) (hd : days ≤ 365) (n : Nat) : ∀ (hay en d : Int), 0 ≤ hay → hay ≤ 1000000 → 0 ≤ eats → eats ≤ 100000 → 0 ≤ d → d ≤ days → 0 ≤ en → en ≤ d → days - d = n →
    ∃ r, spec_FeedHay.l0 (n + 1) hay eats days en d = some r ∧ impl_FeedHay.l0 (n + 1) hay eats en days d = some r := by
  induction n with
  | zero =>
    intro hay en d _ _ _ _ _ _ _ _ hn
    refine ⟨(hay, en, 0), ?_, ?_⟩
    · simp only [spec_FeedHay.l0]; rw [if_neg (by omega)]
    · simp only [impl_FeedHay.l0]; rw [if_neg (by omega)]
  | succ n ih =>
    intro hay en d h0 h1 e0 e1 d0 d1 n0 n1 hn
    have wd : wrap64 (d + 1) = d + 1 := by unfold wrap64; omega
    have we : wrap64 (en + 1) = en + 1 := by unfold wrap64; omega
    have w0 : wrap64 (en + 0) = en := by unfold wrap64; omega
    by_cases hb : hay ≥ eats
    · by_cases hc : hay < eats
      · omega
      · have wm : wrap64 (hay - eats) = hay - eats := by unfold wrap64; omega
        have hm : mn hay eats = eats := by unfold mn; omega
        obtain ⟨r, ra, rb⟩ := ih (hay - eats) (en + 1) (d + 1) (by omega) (by omega) e0 e1 (by omega) (by omega) (by omega) (by omega) (by omega)
        refine ⟨r, ?_, ?_⟩
        · rw [spec_FeedHay.l0, if_pos (by omega), if_pos hb]
          unfold spec_l00Min.f
          rw [if_neg hc]
          simp only [Option.bind_some]
          rw [wm, we, wd]; exact ra
        · rw [impl_FeedHay.l0, if_pos (by omega)]
          unfold impl_bit.f
          rw [decide_eq_true hb, if_pos rfl]
          simp only [Option.bind_some]
          rw [hm, wm, we, wd]; exact rb
    · have hc : hay < eats := by omega
      have wm : wrap64 (hay - hay) = 0 := by unfold wrap64; omega
      have hm : mn hay eats = hay := by unfold mn; omega
      obtain ⟨r, ra, rb⟩ := ih 0 en (d + 1) (by omega) (by omega) e0 e1 (by omega) (by omega) n0 (by omega) (by omega)
      refine ⟨r, ?_, ?_⟩
      · rw [spec_FeedHay.l0, if_pos (by omega), if_neg hb]
        unfold spec_l00Min.f
        rw [if_pos hc]
        simp only [Option.bind_some]
        rw [wm, wd]; exact ra
      · rw [impl_FeedHay.l0, if_pos (by omega)]
        unfold impl_bit.f
        rw [decide_eq_false hb, if_neg (by decide)]
        simp only [Option.bind_some]
        rw [hm, wm, w0, wd]; exact rb

theorem FnExactFeedHay : laws_FnExactFeedHay.Pure := by
  intro hay eats days _ _ _
  have key : ∃ k r, spec_FeedHay.f k hay eats days = some r ∧ impl_FeedHay.f k hay eats days = some r := by
    by_cases h : (0 ≤ hay ∧ hay ≤ 1000000) ∧ (0 ≤ eats ∧ eats ≤ 100000) ∧ (0 ≤ days ∧ days ≤ 365)
    · obtain ⟨⟨a0, a1⟩, ⟨b0, b1⟩, c0, c1⟩ := h
      obtain ⟨r, ra, rb⟩ := loops eats days c1 days.toNat hay 0 0 a0 a1 b0 b1 (by omega) c0 (by omega) (by omega) (by omega)
      refine ⟨days.toNat + 2, r, ?_, ?_⟩
      · unfold spec_FeedHay.f spec_l04Eats.f spec_l04Day.f
        simp only [Option.bind_some, l00In_eq, decide_eq_true a0, decide_eq_true a1, decide_eq_true b0, decide_eq_true b1, decide_eq_true c0, decide_eq_true c1, Bool.and_self, if_true, Bool.not_true]
        rw [spec_FeedHay.j0, if_neg (by decide)]; exact ra
      · unfold impl_FeedHay.f
        simp only [Option.bind_some, within_eq, decide_eq_true a0, decide_eq_true a1, decide_eq_true b0, decide_eq_true b1, decide_eq_true c0, decide_eq_true c1, Bool.and_self, if_true, Bool.not_true]
        rw [impl_FeedHay.j0, if_neg (by decide)]; exact rb
    · refine ⟨1, (0, 0, 2), ?_, ?_⟩
      · unfold spec_FeedHay.f spec_l04Eats.f spec_l04Day.f
        simp only [Option.bind_some, l00In_eq, spec_FeedHay.j0]
        by_cases x : (decide (0 ≤ hay) && decide (hay ≤ 1000000)) = true
        · rw [if_pos x]
          by_cases y : (decide (0 ≤ eats) && decide (eats ≤ 100000)) = true
          · rw [if_pos y]
            have z : (decide (0 ≤ days) && decide (days ≤ 365)) = false := by
              simp only [Bool.and_eq_true, decide_eq_true_eq] at x y
              rw [Bool.eq_false_iff]
              simp only [ne_eq, Bool.and_eq_true, decide_eq_true_eq]
              exact fun z => h ⟨x, y, z⟩
            rw [z]; rfl
          · rw [if_neg y]; rfl
        · rw [if_neg x]; rfl
      · unfold impl_FeedHay.f
        simp only [Option.bind_some, within_eq, impl_FeedHay.j0]
        by_cases x : (decide (0 ≤ hay) && decide (hay ≤ 1000000)) = true
        · rw [if_pos x]
          by_cases y : (decide (0 ≤ eats) && decide (eats ≤ 100000)) = true
          · rw [if_pos y]
            have z : (decide (0 ≤ days) && decide (days ≤ 365)) = false := by
              simp only [Bool.and_eq_true, decide_eq_true_eq] at x y
              rw [Bool.eq_false_iff]
              simp only [ne_eq, Bool.and_eq_true, decide_eq_true_eq]
              exact fun z => h ⟨x, y, z⟩
            rw [z]; rfl
          · rw [if_neg y]; rfl
        · rw [if_neg x]; rfl
  obtain ⟨k, r, ra, rb⟩ := key
  refine ⟨k, ?_⟩
  unfold laws_FnExactFeedHay.f
  rw [ra, rb]
  simp

end Go.Proofs.Ytclhjnlaopclcaa.Pure
