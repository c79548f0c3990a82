/- The cells that are chosen. -/
import Derived.Test.YtfelemoefhbphaaCell
namespace Go.Proofs.Ytfelemoefhbphaa
open Go Go.Eng
set_option linter.unusedSimpArgs false
set_option linter.unusedVariables false
set_option maxRecDepth 100000
set_option maxHeartbeats 4000000

/-- The chosen cells of the first x cells of row y, behind others; then of rows. -/
def rowF (f : List Int → Bool) (acc : List (List Int)) (y : Nat) : Nat → List (List Int)
  | 0 => acc
  | x + 1 => if f [(x : Int), (y : Int)] = true then rowF f acc y x ++ [[(x : Int), (y : Int)]] else rowF f acc y x
def spotsF (f : List Int → Bool) (w : Nat) : Nat → List (List Int)
  | 0 => []
  | y + 1 => rowF f (spotsF f w y) y w

theorem rowF_len (f : List Int → Bool) (acc : List (List Int)) (y x : Nat) : (rowF f acc y x).length ≤ acc.length + x := by
  induction x with
  | zero => exact Nat.le_refl _
  | succ x ih => unfold rowF; split <;> (try simp only [List.length_append, List.length_cons, List.length_nil]) <;> omega
theorem spotsF_len (f : List Int → Bool) (w y : Nat) : (spotsF f w y).length ≤ w * y := by
  induction y with
  | zero => exact Nat.le_refl _
  | succ y ih => have := rowF_len f (spotsF f w y) y w; rw [spotsF, Nat.mul_succ]; omega

end Go.Proofs.Ytfelemoefhbphaa
