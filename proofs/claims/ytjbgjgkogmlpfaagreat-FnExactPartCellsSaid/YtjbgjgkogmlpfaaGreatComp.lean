/- Equal neighbours in a row of cells, each once. -/
import Derived.Test.YtjbgjgkogmlpfaaGreatWay2
namespace Go.Proofs.YtjbgjgkogmlpfaaGreat
open Go Go.Eng
set_option linter.unusedSimpArgs false
set_option linter.unusedVariables false
set_option maxRecDepth 100000
set_option maxHeartbeats 4000000

/-- The first i, each once of equal neighbours. -/
def cmpN (rows : List (List Int)) : Nat → List (List Int)
  | 0 => []
  | i + 1 => if 0 < i ∧ rows.getD i [] = rows.getD (i - 1) [] then cmpN rows i else cmpN rows i ++ [rows.getD i []]
def compL (rows : List (List Int)) : List (List Int) := cmpN rows rows.length
/-- Are there equal neighbours among the first i? -/
def dupN (rows : List (List Int)) (i : Nat) : Prop := ∃ k, 0 < k ∧ k < i ∧ rows.getD k [] = rows.getD (k - 1) []
theorem cmpN_no {rows : List (List Int)} : ∀ i, i ≤ rows.length → ¬ dupN rows i → cmpN rows i = rows.take i := by
  intro i
  induction i with
  | zero => intro _ _; rfl
  | succ i ih =>
    intro hi hn
    have h1 : ¬ dupN rows i := fun ⟨k, a, b, c⟩ => hn ⟨k, a, by omega, c⟩
    have h2 : ¬ (0 < i ∧ rows.getD i [] = rows.getD (i - 1) []) := fun ⟨a, c⟩ => hn ⟨i, a, by omega, c⟩
    unfold cmpN
    rw [if_neg h2, ih (by omega) h1, take_snocW rows [] (by omega)]
/-- The inner loop: memory and where the next one goes. -/
def cpK (rows : List (List Int)) (k0 : Nat) : Nat → List (List Int) × Nat
  | 0 => (rows, k0)
  | j + 1 => if (cpK rows k0 j).1.getD (k0 + 1 + j) [] = (cpK rows k0 j).1.getD (k0 + j) [] then cpK rows k0 j else ((cpK rows k0 j).1.set (cpK rows k0 j).2 ((cpK rows k0 j).1.getD (k0 + 1 + j) []), (cpK rows k0 j).2 + 1)
theorem cpK_ok {rows : List (List Int)} {k0 : Nat} (h0 : 0 < k0) (h1 : k0 < rows.length) (hd : rows.getD k0 [] = rows.getD (k0 - 1) []) (hno : ¬ dupN rows k0) : ∀ j, k0 + 1 + j ≤ rows.length →
    (cpK rows k0 j).1.length = rows.length ∧ (cpK rows k0 j).2 ≤ k0 + j ∧ (∀ m, k0 + j ≤ m → (cpK rows k0 j).1.getD m [] = rows.getD m []) ∧ (cpK rows k0 j).1.take (cpK rows k0 j).2 = cmpN rows (k0 + 1 + j) := by
  intro j
  induction j with
  | zero =>
    intro hk
    refine ⟨rfl, Nat.le_refl _, fun _ _ => rfl, ?_⟩
    show rows.take k0 = cmpN rows (k0 + 1)
    unfold cmpN
    rw [if_pos ⟨h0, hd⟩, cmpN_no k0 (by omega) hno]
  | succ j ih =>
    intro hk
    obtain ⟨a1, a2, a3, a4⟩ := ih (by omega)
    have e1 : (cpK rows k0 j).1.getD (k0 + 1 + j) [] = rows.getD (k0 + 1 + j) [] := a3 _ (by omega)
    have e2 : (cpK rows k0 j).1.getD (k0 + j) [] = rows.getD (k0 + j) [] := a3 _ (Nat.le_refl _)
    have e3 : k0 + 1 + (j + 1) = (k0 + 1 + j) + 1 := by omega
    have e4 : k0 + 1 + j - 1 = k0 + j := by omega
    rw [e3]
    have ec : cmpN rows (k0 + 1 + j + 1) = if 0 < k0 + 1 + j ∧ rows.getD (k0 + 1 + j) [] = rows.getD (k0 + 1 + j - 1) [] then cmpN rows (k0 + 1 + j) else cmpN rows (k0 + 1 + j) ++ [rows.getD (k0 + 1 + j) []] := rfl
    rw [ec, e4]
    unfold cpK
    rw [e1, e2]
    by_cases hq : rows.getD (k0 + 1 + j) [] = rows.getD (k0 + j) []
    · rw [if_pos hq, if_pos ⟨by omega, hq⟩]
      exact ⟨a1, by omega, fun m hm => a3 m (by omega), a4⟩
    · rw [if_neg hq, if_neg (fun h => hq h.2)]
      refine ⟨by rw [List.length_set]; exact a1, by dsimp only; omega, fun m hm => ?_, ?_⟩
      · rw [List.getD_eq_getElem?_getD, List.getElem?_set, if_neg (by omega), ← List.getD_eq_getElem?_getD]
        exact a3 m (by omega)
      · dsimp only
        rw [← a4, take_snocW _ [] (by rw [List.length_set, a1]; omega), List.take_set_of_le (Nat.le_refl _)]
        congr 2
        rw [List.getD_eq_getElem?_getD, List.getElem?_set_self (by rw [a1]; omega)]; rfl

def compNoS : Fun
  | [.ow 0 n .spot 54], [.l .spot rows] => some (.ow 0 n .spot 54, [.l .spot rows], [n = rows.length ∧ rows.length ≤ 1000000000 ∧ ¬ dupN rows rows.length])
  | _, _ => .none
set_option maxRecDepth 100000 in
theorem s_compNo : Sound Tryz.prog 77 compNoS := by
  intro args M r M' vs h hvs
  unfold compNoS at h
  split at h
  case h_2 => cases h
  rename_i n rows
  cases h
  refine SpecOK.assume fun hA hM => ?_
  have htb := (TbOk.nil : TbOk Tryz.prog tb0)
  refine SpecOK.of_goes [0] Tryz.func77 rfl ?_
  obtain ⟨⟨rfl, hl, hn⟩, -⟩ := hvs
  clear hA hM
  refine Goes.tree Γ_ok htb 1000 false false Tryz.func77 rfl ?_
  ((try simp only [decide_eq_true_eq, decide_eq_false_iff_not, Bool.not_eq_true', Bool.not_eq_false', Bool.not_true, Bool.not_false, Bool.and_eq_true, Bool.or_eq_true, bne_iff_ne, beq_iff_eq, ne_eq]); (try simp only [rng, lo, hi, mnI, mxI, Int.toNat_natCast, Sg.n, Nat.mul_one, Nat.zero_add, Nat.add_zero, Nat.reduceAdd, List.getD_cons_zero, List.getD_cons_succ]))
  ((repeat' (first | (with_reducible apply And.intro) | intro _)); all_goals (first | exact trivial | (with_reducible assumption) | (show (_ : List Blk) = _; rfl) | (first | exact trivial | (with_reducible assumption) | omega | (split <;> omega) | (split <;> split <;> omega)) | skip); all_goals (try (refine ⟨rfl, (by first | exact Nat.le_refl _ | exact Nat.le_of_ble_eq_true rfl), rfl, rfl, ?_, (by repeat' (first | exact trivial | rfl | apply And.intro)), rfl, rfl⟩)))
  · exact sameA_refl _
  refine ⟨?_⟩
  refine Goes.loopR (fun k : Nat => rows.length - k) (fun k => 1 ≤ k ∧ k ≤ rows.length) (fun k => (.ow 0 rows.length .spot 54 :: .any :: .any :: .i .i64 (k : Int) :: .any :: .any :: .any :: .any :: .any :: .any :: .any :: .any :: .any :: .any :: .any :: .any :: .any :: .any :: .any :: .any :: .any :: .any :: .any :: .any :: .any :: .any :: .any :: .any :: .any :: .any :: .any :: .any :: .any :: .any :: .any :: .any :: .any :: .any :: .any :: .any :: .any :: .any :: .any :: .any :: .any :: .any :: .any :: .any :: .any :: .any :: .any :: .any :: .any :: .any :: .any :: .any :: .any :: .any :: .any :: .any :: .any :: []))
    (fun k => [.l .spot rows]) 1 [0] (by omega) ⟨rfl, rfl, rfl, (by repeat' (first | exact trivial | rfl | apply And.intro)), (by repeat' (first | exact trivial | rfl | apply And.intro)), rfl, rfl, rfl⟩ fun k hk ih => ?_
  by_cases hlt : k < rows.length
  · have hne : ¬ rows.getD k [] = rows.getD (k - 1) [] := fun h => hn ⟨k, by omega, hlt, h⟩
    have e1 : ((k : Int) - 1).toNat = k - 1 := by omega
    refine Goes.tree Γ_ok htb 1000 false false Tryz.func77 rfl ?_
    ((try simp only [decide_eq_true_eq, decide_eq_false_iff_not, Bool.not_eq_true', Bool.not_eq_false', Bool.not_true, Bool.not_false, Bool.and_eq_true, Bool.or_eq_true, bne_iff_ne, beq_iff_eq, ne_eq]); (try simp only [rng, lo, hi, mnI, mxI, Int.toNat_natCast, Sg.n, Nat.mul_one, Nat.zero_add, Nat.add_zero, Nat.reduceAdd, List.getD_cons_zero, List.getD_cons_succ, e1]))
    ((repeat' (first | (with_reducible apply And.intro) | intro _)); all_goals (first | exact trivial | (with_reducible assumption) | (show (_ : List Blk) = _; rfl) | (first | exact trivial | (with_reducible assumption) | omega | (split <;> omega) | (split <;> split <;> omega)) | skip); all_goals (try (refine ⟨rfl, (by first | exact Nat.le_refl _ | exact Nat.le_of_ble_eq_true rfl), rfl, rfl, ?_, (by repeat' (first | exact trivial | rfl | apply And.intro)), rfl, rfl⟩)))
    all_goals (try first | omega | exact absurd (by assumption) hne)
    exact ⟨ih (k + 1) (by omega) (by omega) [0] _ _ ⟨rfl, rfl, rfl, (by repeat' (first | exact trivial | rfl | apply And.intro)), (by repeat' (first | exact trivial | rfl | apply And.intro)), rfl, rfl, rfl⟩⟩
  · obtain rfl : k = rows.length := by omega
    clear ih
    refine Goes.tree Γ_ok htb 1000 false false Tryz.func77 rfl ?_
    ((try simp only [decide_eq_true_eq, decide_eq_false_iff_not, Bool.not_eq_true', Bool.not_eq_false', Bool.not_true, Bool.not_false, Bool.and_eq_true, Bool.or_eq_true, bne_iff_ne, beq_iff_eq, ne_eq]); (try simp only [rng, lo, hi, mnI, mxI, Int.toNat_natCast, Sg.n, Nat.mul_one, Nat.zero_add, Nat.add_zero, Nat.reduceAdd, List.getD_cons_zero, List.getD_cons_succ]))
    ((repeat' (first | (with_reducible apply And.intro) | intro _)); all_goals (first | exact trivial | (with_reducible assumption) | (show (_ : List Blk) = _; rfl) | (first | exact trivial | (with_reducible assumption) | omega | (split <;> omega) | (split <;> split <;> omega)) | skip); all_goals (try (refine ⟨rfl, (by first | exact Nat.le_refl _ | exact Nat.le_of_ble_eq_true rfl), rfl, rfl, ?_, (by repeat' (first | exact trivial | rfl | apply And.intro)), rfl, rfl⟩)))
    all_goals (first | contradiction | exact sameA_refl _)

def compYesS : Fun
  | [.ow 0 n .spot 54], [.l .spot rows] => some (.ow 1 (compL rows).length .spot 54, [.dead, .l .spot (compL rows)], [n = rows.length ∧ rows.length ≤ 1000000000 ∧ dupN rows rows.length])
  | _, _ => .none
set_option maxRecDepth 100000 in
theorem s_compYes : Sound Tryz.prog 77 compYesS := by
  intro args M r M' vs h hvs
  unfold compYesS at h
  split at h
  case h_2 => cases h
  rename_i n rows
  cases h
  refine SpecOK.assume fun hA hM => ?_
  have htb := (TbOk.nil : TbOk Tryz.prog tb0)
  refine SpecOK.of_goes [0, 1] Tryz.func77 rfl ?_
  obtain ⟨⟨rfl, hl, hn⟩, -⟩ := hvs
  clear hA hM
  obtain ⟨k0, hk0, hk1, hk2, hk3⟩ : ∃ k0, 0 < k0 ∧ k0 < rows.length ∧ rows.getD k0 [] = rows.getD (k0 - 1) [] ∧ ¬ dupN rows k0 := by
    have key : ∀ n, n ≤ rows.length → dupN rows n → ∃ k0, 0 < k0 ∧ k0 < rows.length ∧ rows.getD k0 [] = rows.getD (k0 - 1) [] ∧ ¬ dupN rows k0 := by
      intro n
      induction n with
      | zero => rintro _ ⟨k, a, b, c⟩; omega
      | succ n ih =>
        rintro hn ⟨k, a, b, c⟩
        by_cases hp : dupN rows n
        · exact ih (by omega) hp
        · have : k = n := by
            rcases Nat.lt_or_ge k n with h | h
            · exact absurd ⟨k, a, h, c⟩ hp
            · omega
          subst this
          exact ⟨k, a, by omega, c, hp⟩
    exact key _ (Nat.le_refl _) hn
  have hK := cpK_ok hk0 hk1 hk2 hk3
  refine Goes.tree Γ_ok htb 1000 false false Tryz.func77 rfl ?_
  ((try simp only [decide_eq_true_eq, decide_eq_false_iff_not, Bool.not_eq_true', Bool.not_eq_false', Bool.not_true, Bool.not_false, Bool.and_eq_true, Bool.or_eq_true, bne_iff_ne, beq_iff_eq, ne_eq]); (try simp only [rng, lo, hi, mnI, mxI, Int.toNat_natCast, Sg.n, Nat.mul_one, Nat.zero_add, Nat.add_zero, Nat.reduceAdd, List.getD_cons_zero, List.getD_cons_succ]))
  ((repeat' (first | (with_reducible apply And.intro) | intro _)); all_goals (first | exact trivial | (with_reducible assumption) | (show (_ : List Blk) = _; rfl) | (first | exact trivial | (with_reducible assumption) | omega | (split <;> omega) | (split <;> split <;> omega)) | skip); all_goals (try (refine ⟨rfl, (by first | exact Nat.le_refl _ | exact Nat.le_of_ble_eq_true rfl), rfl, rfl, ?_, (by repeat' (first | exact trivial | rfl | apply And.intro)), rfl, rfl⟩)))
  all_goals (try omega)
  refine ⟨?_⟩
  refine Goes.loopR (fun k : Nat => rows.length - k) (fun k => 1 ≤ k ∧ k ≤ k0) (fun k => (.ow 0 rows.length .spot 54 :: .any :: .any :: .i .i64 (k : Int) :: .any :: .any :: .any :: .any :: .any :: .any :: .any :: .any :: .any :: .any :: .any :: .any :: .any :: .any :: .any :: .any :: .any :: .any :: .any :: .any :: .any :: .any :: .any :: .any :: .any :: .any :: .any :: .any :: .any :: .any :: .any :: .any :: .any :: .any :: .any :: .any :: .any :: .any :: .any :: .any :: .any :: .any :: .any :: .any :: .any :: .any :: .any :: .any :: .any :: .any :: .any :: .any :: .any :: .any :: .any :: .any :: .any :: []))
    (fun k => [.l .spot rows]) 1 [0] (by omega) ⟨rfl, rfl, rfl, (by repeat' (first | exact trivial | rfl | apply And.intro)), (by repeat' (first | exact trivial | rfl | apply And.intro)), rfl, rfl, rfl⟩ fun k hk ih => ?_
  have e1 : ((k : Int) - 1).toNat = k - 1 := by omega
  by_cases hlt : k < k0
  · have hne : ¬ rows.getD k [] = rows.getD (k - 1) [] := fun h => hk3 ⟨k, by omega, hlt, h⟩
    refine Goes.tree Γ_ok htb 1000 false false Tryz.func77 rfl ?_
    ((try simp only [decide_eq_true_eq, decide_eq_false_iff_not, Bool.not_eq_true', Bool.not_eq_false', Bool.not_true, Bool.not_false, Bool.and_eq_true, Bool.or_eq_true, bne_iff_ne, beq_iff_eq, ne_eq]); (try simp only [rng, lo, hi, mnI, mxI, Int.toNat_natCast, Sg.n, Nat.mul_one, Nat.zero_add, Nat.add_zero, Nat.reduceAdd, List.getD_cons_zero, List.getD_cons_succ, e1]))
    ((repeat' (first | (with_reducible apply And.intro) | intro _)); all_goals (first | exact trivial | (with_reducible assumption) | (show (_ : List Blk) = _; rfl) | (first | exact trivial | (with_reducible assumption) | omega | (split <;> omega) | (split <;> split <;> omega)) | skip); all_goals (try (refine ⟨rfl, (by first | exact Nat.le_refl _ | exact Nat.le_of_ble_eq_true rfl), rfl, rfl, ?_, (by repeat' (first | exact trivial | rfl | apply And.intro)), rfl, rfl⟩)))
    all_goals (try first | omega | exact absurd (by assumption) hne)
    exact ⟨ih (k + 1) (by omega) (by omega) [0] _ _ ⟨rfl, rfl, rfl, (by repeat' (first | exact trivial | rfl | apply And.intro)), (by repeat' (first | exact trivial | rfl | apply And.intro)), rfl, rfl, rfl⟩⟩
  obtain rfl : k = k0 := by omega
  clear ih
  refine Goes.tree Γ_ok htb 1000 false false Tryz.func77 rfl ?_
  ((try simp only [decide_eq_true_eq, decide_eq_false_iff_not, Bool.not_eq_true', Bool.not_eq_false', Bool.not_true, Bool.not_false, Bool.and_eq_true, Bool.or_eq_true, bne_iff_ne, beq_iff_eq, ne_eq]); (try simp only [rng, lo, hi, mnI, mxI, Int.toNat_natCast, Sg.n, Nat.mul_one, Nat.zero_add, Nat.add_zero, Nat.reduceAdd, List.getD_cons_zero, List.getD_cons_succ, e1]))
  ((repeat' (first | (with_reducible apply And.intro) | intro _)); all_goals (first | exact trivial | (with_reducible assumption) | (show (_ : List Blk) = _; rfl) | (first | exact trivial | (with_reducible assumption) | omega | (split <;> omega) | (split <;> split <;> omega)) | skip); all_goals (try (refine ⟨rfl, (by first | exact Nat.le_refl _ | exact Nat.le_of_ble_eq_true rfl), rfl, rfl, ?_, (by repeat' (first | exact trivial | rfl | apply And.intro)), rfl, rfl⟩)))
  all_goals (try first | omega | exact absurd hk2 (by assumption))
  refine ⟨?_⟩
  refine Goes.loopR (fun j : Nat => rows.length - j) (fun j => k + 1 + j ≤ rows.length) (fun j => (.ow 0 rows.length .spot 54 :: .any :: .any :: .i .i64 ((cpK rows k j).2 : Int) :: .sl 0 (k * 2) (rows.length - k) .spot :: .i .i64 ((1 + j : Nat) : Int) :: .any :: .any :: .any :: .any :: .any :: .any :: .any :: .any :: .any :: .any :: .any :: .any :: .any :: .any :: .any :: .any :: .any :: .any :: .any :: .any :: .any :: .any :: .any :: .any :: .any :: .any :: .any :: .any :: .any :: .any :: .any :: .any :: .any :: .any :: .any :: .any :: .any :: .any :: .any :: .any :: .any :: .any :: .any :: .any :: .any :: .any :: .any :: .any :: .any :: .any :: .any :: .any :: .any :: .any :: .any :: []))
    (fun j => [.l .spot (cpK rows k j).1]) 0 [0] (by omega) ⟨rfl, rfl, rfl, (by repeat' (first | exact trivial | rfl | apply And.intro)), (by repeat' (first | exact trivial | rfl | apply And.intro)), rfl, rfl, rfl⟩ fun j hj ih => ?_
  obtain ⟨a1, a2, a3, a4⟩ := hK j hj
  by_cases hlt : k + 1 + j < rows.length
  · have hyes : (cpK rows k j).1.getD (k + 1 + j) [] = (cpK rows k j).1.getD (k + j) [] → cpK rows k (j + 1) = cpK rows k j := fun h => if_pos h
    have hnot : ¬ (cpK rows k j).1.getD (k + 1 + j) [] = (cpK rows k j).1.getD (k + j) [] → cpK rows k (j + 1) = ((cpK rows k j).1.set (cpK rows k j).2 ((cpK rows k j).1.getD (k + 1 + j) []), (cpK rows k j).2 + 1) := fun h => if_neg h
    have e2 : k * 2 / 2 + (1 + j) = k + 1 + j := by omega
    have e3 : k * 2 / 2 + (((1 + j : Nat) : Int) - 1).toNat = k + j := by omega
    refine Goes.tree Γ_ok htb 1000 false false Tryz.func77 rfl ?_
    ((try simp only [decide_eq_true_eq, decide_eq_false_iff_not, Bool.not_eq_true', Bool.not_eq_false', Bool.not_true, Bool.not_false, Bool.and_eq_true, Bool.or_eq_true, bne_iff_ne, beq_iff_eq, ne_eq]); (try simp only [rng, lo, hi, mnI, mxI, Int.toNat_natCast, Sg.n, Nat.mul_one, Nat.zero_add, Nat.add_zero, Nat.reduceAdd, List.getD_cons_zero, List.getD_cons_succ, e2, e3]))
    ((repeat' (first | (with_reducible apply And.intro) | intro _)); all_goals (first | exact trivial | (with_reducible assumption) | (show (_ : List Blk) = _; rfl) | (first | exact trivial | (with_reducible assumption) | omega | (split <;> omega) | (split <;> split <;> omega)) | skip); all_goals (try (refine ⟨rfl, (by first | exact Nat.le_refl _ | exact Nat.le_of_ble_eq_true rfl), rfl, rfl, ?_, (by repeat' (first | exact trivial | rfl | apply And.intro)), rfl, rfl⟩)))
    all_goals (try omega)
    · rename_i h1 h2
      refine ⟨ih (j + 1) (by omega) (by omega) [0] _ _ ?_⟩
      rw [hnot (by assumption)]
      exact ⟨rfl, rfl, rfl, (by repeat' (first | exact trivial | rfl | apply And.intro)), (by repeat' (first | exact trivial | rfl | apply And.intro)), rfl, rfl, rfl⟩
    · rename_i h1 h2
      refine ⟨ih (j + 1) (by omega) (by omega) [0] _ _ ?_⟩
      rw [hyes (by assumption)]
      exact ⟨rfl, rfl, rfl, (by repeat' (first | exact trivial | rfl | apply And.intro)), (by repeat' (first | exact trivial | rfl | apply And.intro)), rfl, rfl, rfl⟩
  · have hle : (cpK rows k j).2 < rows.length := by omega
    have hfin : compL rows = (cpK rows k j).1.take (cpK rows k j).2 := by
      rw [a4]
      unfold compL
      congr 1
      omega
    have hl1 : ((cpK rows k j).1.take (cpK rows k j).2).length = (cpK rows k j).2 := by rw [List.length_take]; omega
    have hf2 : ∀ Z : List (List Int), List.take (cpK rows k j).2 (List.take ((cpK rows k j).2 * 2 / 2) (cpK rows k j).1 ++ Z) = (cpK rows k j).1.take (cpK rows k j).2 := fun Z => by
      rw [Nat.mul_div_cancel _ (by decide), List.take_append_of_le_length (by rw [hl1]; exact Nat.le_refl _), List.take_take, Nat.min_self]
    rw [hfin, hl1]
    clear ih
    refine Goes.tree Γ_ok htb 1000 false false Tryz.func77 rfl ?_
    ((try simp only [decide_eq_true_eq, decide_eq_false_iff_not, Bool.not_eq_true', Bool.not_eq_false', Bool.not_true, Bool.not_false, Bool.and_eq_true, Bool.or_eq_true, bne_iff_ne, beq_iff_eq, ne_eq]); (try simp only [rng, lo, hi, mnI, mxI, Int.toNat_natCast, Sg.n, Nat.mul_one, Nat.zero_add, Nat.add_zero, Nat.reduceAdd, List.getD_cons_zero, List.getD_cons_succ, hf2]))
    ((repeat' (first | (with_reducible apply And.intro) | intro _)); all_goals (first | exact trivial | (with_reducible assumption) | (show (_ : List Blk) = _; rfl) | (first | exact trivial | (with_reducible assumption) | omega | (split <;> omega) | (split <;> split <;> omega)) | skip); all_goals (try (refine ⟨rfl, (by first | exact Nat.le_refl _ | exact Nat.le_of_ble_eq_true rfl), rfl, rfl, ?_, (by repeat' (first | exact trivial | rfl | apply And.intro)), rfl, rfl⟩)))
    all_goals (first | exact sameA_refl _ | omega | trace_state)
end Go.Proofs.YtjbgjgkogmlpfaaGreat
