/- The laws' marks: what is written into a result, and read again. -/
import Derived.Test.YtplnfdgokpgbcaaDoorLists
namespace Go.Proofs.YtplnfdgokpgbcaaDoor
open Go Go.Eng
set_option linter.unusedSimpArgs false
set_option linter.unusedVariables false
set_option maxRecDepth 100000
set_option maxHeartbeats 4000000

def mkSpot (k : Int) : List Int := [IntKind.i8.wrap k, IntKind.i8.wrap (k + 1)]
/-- n marked spots. -/
def mkL (k : Int) : Nat → List (List Int)
  | 0 => []
  | n + 1 => mkL k n ++ [mkSpot (k + 2 * n)]

theorem mkL_len (k : Int) : ∀ i, (mkL k i).length = i
  | 0 => rfl
  | i + 1 => by simp [mkL, mkL_len k i]
theorem set_row2 {A : List (List Int)} {i : Nat} (hi : i < A.length) (hr : (A.getD i []).length = 2) (u v : Int) :
    (A.set i ((A.getD i []).set 0 u)).set i (((A.set i ((A.getD i []).set 0 u)).getD i []).set 1 v) = A.set i [u, v] := by
  rw [List.set_set]
  have e : (A.set i ((A.getD i []).set 0 u)).getD i [] = (A.getD i []).set 0 u := by
    rw [List.getD_eq_getElem?_getD, List.getElem?_set_self hi]; rfl
  rw [e]
  obtain ⟨a, b, h⟩ := len2 hr
  rw [h]; rfl
theorem mk_app {k : Int} {i : Nat} {rows : List (List Int)} (x : List Int) (hi : i < rows.length) : (mkL k i ++ rows.drop i).set i x = (mkL k i ++ [x]) ++ rows.drop (i + 1) := by
  rw [List.set_append_right _ _ (by rw [mkL_len]; exact Nat.le_refl _), mkL_len, Nat.sub_self, List.drop_eq_getElem_cons hi, List.set_cons_zero, List.append_assoc]; rfl
theorem mk_get {k : Int} {i : Nat} {rows : List (List Int)} (hi : i < rows.length) : (mkL k i ++ rows.drop i).getD i [] = rows[i] := by
  rw [List.getD_eq_getElem?_getD, List.getElem?_append_right (by rw [mkL_len]; exact Nat.le_refl _), mkL_len, Nat.sub_self, List.drop_eq_getElem_cons hi]; rfl

def markS : Fun
  | [.ow 0 n .spot 72, .i .i64 k], [.l .spot rows] => some (.i .i64 (k + 2 * n), [.l .spot (mkL k n)], [n = rows.length ∧ n ≤ 1073741824 ∧ 0 ≤ k ∧ k ≤ 1073741824])
  | _, _ => .none


def heldS : Fun
  | [.ow 0 n .spot 72, .i .i64 k], [.l .spot rows] => some (.i .i64 (k + 2 * n), [.l .spot rows], [rows = mkL k n ∧ n ≤ 1073741824 ∧ 0 ≤ k ∧ k ≤ 1073741824])
  | _, _ => .none

theorem mkL_get (k : Int) : ∀ n i, i < n → (mkL k n).getD i [] = mkSpot (k + 2 * i) := by
  intro n
  induction n with
  | zero => intro i h; omega
  | succ n ih =>
    intro i h
    rw [mkL, List.getD_eq_getElem?_getD]
    by_cases hi : i < n
    · rw [List.getElem?_append_left (by rw [mkL_len]; exact hi), ← List.getD_eq_getElem?_getD]; exact ih i hi
    · obtain rfl : i = n := by omega
      rw [List.getElem?_append_right (by rw [mkL_len]; exact Nat.le_refl _), mkL_len, Nat.sub_self]; rfl


/-- Own rows compared with frozen ones that are the same. -/
def refOS : Fun
  | [.ow 0 n .spot 72, .fs .spot ys], [.l .spot rows] => some (.d true, [.l .spot rows], [rows = ys ∧ n = rows.length ∧ n ≤ 1073741824])
  | _, _ => .none


/-- The one, and where it does not answer the other. -/
def orS (F G : Fun) : Fun := fun a M => match F a M with
  | some x => some x
  | .none => G a M
theorem or_sound {k : FuncId} {F G : Fun} (h : Sound Tryd.prog k F) (h' : Sound Tryd.prog k G) : Sound Tryd.prog k (orS F G) := by
  intro args M r M' vs he hv
  unfold orS at he
  split at he
  · cases he; exact h _ _ _ _ _ (by assumption) hv
  · exact h' _ _ _ _ _ he hv

def nilK : Fun
  | [.nsl, .i .i64 k], [] => some (.i .i64 k, [], [])
  | _, _ => .none
end Go.Proofs.YtplnfdgokpgbcaaDoor
