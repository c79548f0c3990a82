/- The greatest number of a list, and its place. -/
import Derived.Test.YtgogccconmlkiaaHay
namespace Go.Proofs.Ytgogccconmlkiaa
open Go Go.Eng
set_option linter.unusedSimpArgs false
set_option linter.unusedVariables false
set_option maxRecDepth 100000
set_option maxHeartbeats 4000000

/-- The greatest one of the first i + 1 numbers. -/
def maxK (rows : List (List Int)) : Nat → Int
  | 0 => (rows.getD 0 []).getD 0 0
  | i + 1 => if maxK rows i < (rows.getD (i + 1) []).getD 0 0 then (rows.getD (i + 1) []).getD 0 0 else maxK rows i
def maxRS : Fun
  | [.fs .i64 rows], [] => some (.i .i64 (maxK rows (rows.length - 1)), [], [0 < rows.length])
  | _, _ => .none
set_option maxRecDepth 100000 in
theorem s_maxR : Sound Try.prog 101 maxRS := by
  intro args M r M' vs h hvs
  unfold maxRS at h
  split at h
  case h_2 => cases h
  rename_i rows
  cases h
  refine SpecOK.assume fun hA hM => ?_
  have htb := (TbOk.nil : TbOk Try.prog tb0)
  refine SpecOK.of_goes [] Try.func101 rfl ?_
  have hl : rows.length ≤ maxLen := hA.1
  have hm : maxLen = 9223372036854775807 := rfl
  obtain ⟨h0, -⟩ := hvs
  clear hA hM
  refine Goes.tree Γ_ok htb 1000 false false Try.func101 rfl ?_
  ((try simp only [decide_eq_true_eq, decide_eq_false_iff_not, Bool.not_eq_true', Bool.not_eq_false', Bool.not_true, Bool.not_false, Bool.and_eq_true, Bool.or_eq_true, bne_iff_ne, beq_iff_eq, ne_eq]); (try simp only [rng, lo, hi, mnI, mxI, Int.toNat_natCast, Sg.n, Nat.mul_one, Nat.zero_add, Nat.add_zero, Nat.reduceAdd, List.getD_cons_zero, List.getD_cons_succ]))
  ((repeat' (first | (with_reducible apply And.intro) | intro _)); all_goals (first | exact trivial | (with_reducible assumption) | (show (_ : List Blk) = _; rfl) | (first | exact trivial | (with_reducible assumption) | omega | (split <;> omega) | (split <;> split <;> omega)) | skip); all_goals (try (refine ⟨rfl, (by first | exact Nat.le_refl _ | exact Nat.le_of_ble_eq_true rfl), rfl, rfl, ?_, (by repeat' (first | exact trivial | rfl | apply And.intro)), rfl, rfl⟩)))
  all_goals (try omega)
  refine ⟨?_⟩
  refine Goes.loopR (fun i : Nat => rows.length - (i + 1)) (fun i => i + 1 ≤ rows.length) (fun i => (.fs .i64 rows :: .any :: .any :: .i .i64 (maxK rows i) :: .i .i64 ((i:Int) + 1) :: .any :: .any :: .any :: .any :: .any :: .any :: .any :: .any :: .any :: .any :: .any :: .any :: .any :: .any :: .any :: .any :: .any :: .any :: .any :: .any :: [])) (fun _ => []) 0 [] (by omega) ⟨rfl, rfl, rfl, (by repeat' (first | exact trivial | rfl | apply And.intro)), (by repeat' (first | exact trivial | rfl | apply And.intro)), rfl, rfl, rfl⟩ fun i hle ih => ?_
  have e1 : maxK rows (i + 1) = if maxK rows i < (rows.getD (i + 1) []).getD 0 0 then (rows.getD (i + 1) []).getD 0 0 else maxK rows i := rfl
  have ei : (((i:Int) + 1).toNat) = i + 1 := by omega
  refine Goes.tree Γ_ok htb 1000 false false Try.func101 rfl ?_
  ((try simp only [decide_eq_true_eq, decide_eq_false_iff_not, Bool.not_eq_true', Bool.not_eq_false', Bool.not_true, Bool.not_false, Bool.and_eq_true, Bool.or_eq_true, bne_iff_ne, beq_iff_eq, ne_eq]); (try simp only [rng, lo, hi, mnI, mxI, Int.toNat_natCast, Sg.n, Nat.mul_one, Nat.zero_add, Nat.add_zero, Nat.reduceAdd, List.getD_cons_zero, List.getD_cons_succ, ei]))
  ((repeat' (first | (with_reducible apply And.intro) | intro _)); all_goals (first | exact trivial | (with_reducible assumption) | (show (_ : List Blk) = _; rfl) | (first | exact trivial | (with_reducible assumption) | omega | (split <;> omega) | (split <;> split <;> omega)) | skip); all_goals (try (refine ⟨rfl, (by first | exact Nat.le_refl _ | exact Nat.le_of_ble_eq_true rfl), rfl, rfl, ?_, (by repeat' (first | exact trivial | rfl | apply And.intro)), rfl, rfl⟩)))
  · refine ⟨ih (i + 1) (by omega) (by omega) [] _ _ ?_⟩
    rw [e1]
    exact ⟨rfl, rfl, rfl, (by repeat' (first | exact trivial | rfl | apply And.intro)), (by repeat' (first | exact trivial | rfl | apply And.intro)), rfl, rfl, rfl⟩
  · obtain e : rows.length - 1 = i := by omega
    rw [e]
    exact sameA_refl _

def isI (v : Int) (r : List Int) : Bool := decide (v = r.getD 0 0)
def idxIS : Fun
  | [.fs .i64 rows, .i .i64 v], [] => some (.i .i64 (findI (isI v) rows), [], [])
  | _, _ => .none
set_option maxRecDepth 100000 in
theorem s_idxI : Sound Try.prog 102 idxIS := by
  intro args M r M' vs h hvs
  unfold idxIS at h
  split at h
  case h_2 => cases h
  rename_i rows v
  cases h
  refine SpecOK.assume fun hA hM => ?_
  have htb := (TbOk.nil : TbOk Try.prog tb0)
  refine SpecOK.of_goes [] Try.func102 rfl ?_
  have hl : rows.length ≤ maxLen := hA.1
  have hm : maxLen = 9223372036854775807 := rfl
  clear hA hM
  refine Goes.tree Γ_ok htb 1000 false false Try.func102 rfl ?_
  refine ⟨?_⟩
  refine Goes.loopR (fun i : Nat => rows.length - i) (fun i => i ≤ rows.length ∧ ∀ j, j < i → isI v (rows.getD j []) = false) (fun i => (.fs .i64 rows :: .i .i64 v :: .any :: .any :: .any :: .any :: .any :: .i .i64 (rows.length:Int) :: .i .i64 (i:Int) :: .any :: .any :: .any :: .any :: .any :: .any :: .any :: .any :: .any :: .any :: [])) (fun _ => []) 0 [] ⟨Nat.zero_le _, fun j hj => by omega⟩ ⟨rfl, rfl, rfl, (by repeat' (first | exact trivial | rfl | apply And.intro)), (by repeat' (first | exact trivial | rfl | apply And.intro)), rfl, rfl, rfl⟩ fun i ⟨hle, hno⟩ ih => ?_
  refine Goes.tree Γ_ok htb 1000 false false Try.func102 rfl ?_
  ((try simp only [decide_eq_true_eq, decide_eq_false_iff_not, Bool.not_eq_true', Bool.not_eq_false', Bool.not_true, Bool.not_false, Bool.and_eq_true, Bool.or_eq_true, bne_iff_ne, beq_iff_eq, ne_eq]); (try simp only [rng, lo, hi, mnI, mxI, Int.toNat_natCast, Sg.n, Nat.mul_one, Nat.zero_add, Nat.add_zero, Nat.reduceAdd, List.getD_cons_zero, List.getD_cons_succ]))
  ((repeat' (first | (with_reducible apply And.intro) | intro _)); all_goals (first | exact trivial | (with_reducible assumption) | (show (_ : List Blk) = _; rfl) | (first | exact trivial | (with_reducible assumption) | omega | (split <;> omega) | (split <;> split <;> omega)) | skip); all_goals (try (refine ⟨rfl, (by first | exact Nat.le_refl _ | exact Nat.le_of_ble_eq_true rfl), rfl, rfl, ?_, (by repeat' (first | exact trivial | rfl | apply And.intro)), rfl, rfl⟩)))
  · rename_i h1 h2
    rw [findI_some (i := i) (by omega) (decide_eq_true h2) hno]
    exact sameA_refl _
  · rename_i h1 h2
    refine ⟨ih (i + 1) ⟨by omega, fun j hj => ?_⟩ (by omega) [] _ _ ⟨rfl, rfl, rfl, (by repeat' (first | exact trivial | rfl | apply And.intro)), (by repeat' (first | exact trivial | rfl | apply And.intro)), rfl, rfl, rfl⟩⟩
    by_cases hji : j = i
    · subst hji; exact decide_eq_false h2
    · exact hno j (by omega)
  · obtain rfl : i = rows.length := by omega
    rw [findI_none hno]
    exact sameA_refl _

/-- The first greatest one of numbers, and its place. -/
def bestK (f : Nat → Int) : Nat → Nat × Int
  | 0 => (0, f 0)
  | d + 1 => if (bestK f d).2 < f (d + 1) then (d + 1, f (d + 1)) else bestK f d
theorem bestK_ok (f : Nat → Int) : ∀ d, (bestK f d).1 ≤ d ∧ f (bestK f d).1 = (bestK f d).2 ∧ ∀ j, j < (bestK f d).1 → f j < (bestK f d).2 := by
  have hmax : ∀ d j, j ≤ d → f j ≤ (bestK f d).2 := by
    intro d
    induction d with
    | zero => intro j hj; rw [Nat.le_zero.1 hj]; exact Int.le_refl _
    | succ d ih =>
      intro j hj
      unfold bestK
      split
      · rename_i h
        by_cases hjd : j ≤ d
        · have := ih j hjd; dsimp only; omega
        · obtain rfl : j = d + 1 := by omega
          exact Int.le_refl _
      · rename_i h
        by_cases hjd : j ≤ d
        · exact ih j hjd
        · obtain rfl : j = d + 1 := by omega
          omega
  intro d
  induction d with
  | zero => exact ⟨Nat.le_refl _, rfl, fun j hj => by simp [bestK] at hj⟩
  | succ d ih =>
    unfold bestK
    split
    · rename_i h
      refine ⟨Nat.le_refl _, rfl, fun j hj => ?_⟩
      have := hmax d j (by dsimp only at hj; omega)
      dsimp only; omega
    · exact ⟨by omega, ih.2⟩
theorem maxK_best (f : Nat → Int) (rows : List (List Int)) {n : Nat} (h : ∀ i, i < n → rows.getD i [] = [f i]) : ∀ i, i < n → maxK rows i = (bestK f i).2 := by
  intro i
  induction i with
  | zero => intro hi; unfold maxK bestK; rw [h 0 hi]; rfl
  | succ i ih =>
    intro hi
    unfold maxK bestK
    rw [h (i + 1) hi, ih (by omega)]
    simp only [List.getD_cons_zero]
    split <;> rfl
theorem findI_best (f : Nat → Int) (rows : List (List Int)) {n : Nat} (hl : rows.length = n + 1) (h : ∀ i, i < n + 1 → rows.getD i [] = [f i]) : findI (isI (bestK f n).2) rows = ((bestK f n).1 : Nat) := by
  obtain ⟨h1, h2, h3⟩ := bestK_ok f n
  refine findI_some (by omega) ?_ fun j hj => ?_
  · rw [h _ (by omega)]
    unfold isI
    rw [List.getD_cons_zero, h2]
    exact decide_eq_true rfl
  · have := h3 j hj
    rw [h j (by omega)]
    unfold isI
    rw [List.getD_cons_zero]
    exact decide_eq_false (by omega)
end Go.Proofs.Ytgogccconmlkiaa
