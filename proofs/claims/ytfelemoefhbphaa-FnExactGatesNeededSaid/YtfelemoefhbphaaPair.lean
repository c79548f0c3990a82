/- Two cells and the steps between them. -/
import Derived.Test.YtfelemoefhbphaaBfs
namespace Go.Proofs.Ytfelemoefhbphaa
open Go Go.Eng
set_option linter.unusedSimpArgs false
set_option linter.unusedVariables false
set_option maxRecDepth 100000
set_option maxHeartbeats 4000000

theorem codeP_pair {p a b : List Int} (h : codeP p [a, b] = 0) : okD p ∧ isP p a = true ∧ isP p b = true := by
  have := codeP_all h
  exact ⟨this.1.1, this.2 a (by simp), this.2 b (by simp)⟩
theorem codeP_asked (p a b : List Int) : (if isP p b = true then codeP p [a] else if okP p then 2 else 1) = codeP p [a, b] := by
  rw [codeP_one, codeP_two]
  cases isP p a <;> cases isP p b <;> simp

theorem one_len {a : List Int} : 0 < [a].length ∧ [a].length ≤ 1000000 := ⟨by simp, by simp⟩
end Go.Proofs.Ytfelemoefhbphaa
