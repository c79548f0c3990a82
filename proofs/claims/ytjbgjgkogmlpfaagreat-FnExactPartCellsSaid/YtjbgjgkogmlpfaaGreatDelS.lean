/- Hurdles that stand are taken out of a list. -/
import Derived.Test.YtjbgjgkogmlpfaaGreatHur
import Derived.Test.YtjbgjgkogmlpfaaGreatWay2
namespace Go.Proofs.YtjbgjgkogmlpfaaGreat
open Go Go.Eng
set_option linter.unusedSimpArgs false
set_option linter.unusedVariables false
set_option maxRecDepth 100000
set_option maxHeartbeats 4000000

/-! What is left behind the deletion. -/
def leftF (f : List Int → Bool) (rows : List (List Int)) : List (List Int) := rows.filter fun h => !f h
def dKF (f : List Int → Bool) (rows : List (List Int)) (i0 : Nat) : Nat → List (List Int) × Nat
  | 0 => (rows, i0)
  | k + 1 => if f ((dKF f rows i0 k).1.getD (i0 + 1 + k) []) = true then dKF f rows i0 k else ((dKF f rows i0 k).1.set (dKF f rows i0 k).2 ((dKF f rows i0 k).1.getD (i0 + 1 + k) []), (dKF f rows i0 k).2 + 1)

theorem filterF_snoc (f : List Int → Bool) (l : List (List Int)) (h : List Int) : leftF f (l ++ [h]) = leftF f l ++ if f h = true then [] else [h] := by
  unfold leftF
  rw [List.filter_append]
  congr 1
  cases hh : f h <;> simp [hh]
theorem take_snocF {α : Type} (l : List α) (d : α) {i : Nat} (h : i < l.length) : l.take (i + 1) = l.take i ++ [l.getD i d] := by
  rw [List.take_add_one, List.getElem?_eq_getElem h, List.getD_eq_getElem?_getD, List.getElem?_eq_getElem h]; rfl

theorem dKF_ok {f : List Int → Bool} {rows : List (List Int)} {i0 : Nat} (h0 : i0 < rows.length) (hd : f (rows.getD i0 []) = true) (hno : ∀ j, j < i0 → f (rows.getD j []) = false) : ∀ k, i0 + 1 + k ≤ rows.length →
    (dKF f rows i0 k).1.length = rows.length ∧ (dKF f rows i0 k).2 ≤ i0 + k ∧ (∀ m, i0 + 1 + k ≤ m → (dKF f rows i0 k).1.getD m [] = rows.getD m []) ∧ (dKF f rows i0 k).1.take (dKF f rows i0 k).2 = leftF f (rows.take (i0 + 1 + k)) ∧ ∀ r ∈ (dKF f rows i0 k).1, r ∈ rows := by
  intro k
  induction k with
  | zero =>
    intro hk
    refine ⟨rfl, Nat.le_refl _, fun _ _ => rfl, ?_, fun r hr => hr⟩
    show rows.take i0 = leftF f (rows.take (i0 + 1 + 0))
    rw [Nat.add_zero, take_snocF rows [] h0, filterF_snoc, if_pos hd, List.append_nil]
    have : ∀ n, n ≤ i0 → leftF f (rows.take n) = rows.take n := by
      intro n
      induction n with
      | zero => intro _; rfl
      | succ n ih =>
        intro hn
        rw [take_snocF rows [] (by omega), filterF_snoc, ih (by omega), if_neg (by rw [hno n (by omega)]; decide)]
    exact (this i0 (Nat.le_refl _)).symm
  | succ k ih =>
    intro hk
    obtain ⟨a1, a2, a3, a4, a5⟩ := ih (by omega)
    have e1 : (dKF f rows i0 k).1.getD (i0 + 1 + k) [] = rows.getD (i0 + 1 + k) [] := a3 _ (Nat.le_refl _)
    have e2 : rows.take (i0 + 1 + (k + 1)) = rows.take (i0 + 1 + k) ++ [rows.getD (i0 + 1 + k) []] := take_snocF (i := i0 + 1 + k) rows [] (by omega)
    rw [e2, filterF_snoc]
    unfold dKF
    rw [e1]
    split
    · exact ⟨a1, by omega, fun m hm => a3 m (by omega), by rw [List.append_nil]; exact a4, a5⟩
    · refine ⟨by rw [List.length_set]; exact a1, by dsimp only; omega, fun m hm => ?_, ?_, fun r hr => ?_⟩
      · rw [List.getD_eq_getElem?_getD, List.getElem?_set, if_neg (by omega), ← List.getD_eq_getElem?_getD]
        exact a3 m (by omega)
      · dsimp only
        rw [← a4, take_snocF _ [] (by rw [List.length_set, a1]; omega), List.take_set_of_le (Nat.le_refl _)]
        congr 2
        rw [List.getD_eq_getElem?_getD, List.getElem?_set_self (by rw [a1]; omega)]; rfl
      · rcases List.mem_or_eq_of_mem_set hr with hr | rfl
        · exact a5 r hr
        · exact getD_mem (by omega)

def idxDelSS : Fun
  | [.ow 0 n .hur 62, .fb 40 .pas p], [.l .hur rows] => some (.i .i64 (findI (standsP p) rows), [.l .hur rows], [n = rows.length ∧ rows.length ≤ 1000000 ∧ (∀ r ∈ rows, inG r)])
  | _, _ => .none
set_option maxRecDepth 100000 in
theorem s_idxDelS : Sound Tryz.prog 60 idxDelSS := by
  intro args M r M' vs h hvs
  unfold idxDelSS at h
  split at h
  case h_2 => cases h
  rename_i n p rows
  cases h
  refine SpecOK.assume fun hA hM => ?_
  have htb := (TbOk.cons s_stands Tryz.func40 rfl rfl (TbOk.nil : TbOk Tryz.prog tb0))
  refine SpecOK.of_goes [0] Tryz.func60 rfl ?_
  obtain ⟨⟨rfl, hl, hn⟩, -⟩ := hvs
  clear hA hM
  refine Goes.tree Γ_ok htb 1000 false false Tryz.func60 rfl ?_
  refine ⟨?_⟩
  refine Goes.loopR (fun i : Nat => rows.length - i) (fun i => i ≤ rows.length ∧ ∀ j, j < i → standsP p (rows.getD j []) = false) (fun i => (.ow 0 rows.length .hur 62 :: .fb 40 .pas p :: .any :: .any :: .any :: .any :: .any :: .i .i64 (rows.length:Int) :: .i .i64 (i:Int) :: .any :: .any :: .any :: .any :: .any :: .any :: .any :: .any :: .any :: .any :: [])) (fun _ => [.l .hur rows]) 0 [0] ⟨by omega, fun j hj => by omega⟩ ⟨rfl, rfl, rfl, (by repeat' (first | exact trivial | rfl | apply And.intro)), (by repeat' (first | exact trivial | rfl | apply And.intro)), rfl, rfl, rfl⟩ fun i ⟨hle, hno⟩ ih => ?_
  by_cases hlt : i < rows.length
  · have hni := hn _ (getD_mem (d := []) hlt)
    refine Goes.tree Γ_ok htb 1000 false false Tryz.func60 rfl ?_
    ((try simp only [decide_eq_true_eq, decide_eq_false_iff_not, Bool.not_eq_true', Bool.not_eq_false', Bool.not_true, Bool.not_false, Bool.and_eq_true, Bool.or_eq_true, bne_iff_ne, beq_iff_eq, ne_eq]); (try simp only [rng, lo, hi, mnI, mxI, Int.toNat_natCast, Sg.n, Nat.mul_one, Nat.zero_add, Nat.add_zero, Nat.reduceAdd, List.getD_cons_zero, List.getD_cons_succ]))
    ((repeat' (first | (with_reducible apply And.intro) | intro _)); all_goals (first | exact trivial | (with_reducible assumption) | (show (_ : List Blk) = _; rfl) | (first | exact trivial | (with_reducible assumption) | omega | (split <;> omega) | (split <;> split <;> omega)) | skip); all_goals (try (refine ⟨rfl, (by first | exact Nat.le_refl _ | exact Nat.le_of_ble_eq_true rfl), rfl, rfl, ?_, (by repeat' (first | exact trivial | rfl | apply And.intro)), rfl, rfl⟩)))
    · rename_i h1 h2
      rw [findI_some (by omega) h2 hno]
      exact sameA_refl _
    · rename_i h1 h2
      refine ⟨ih (i + 1) ⟨by omega, fun j hj => ?_⟩ (by omega) [0] _ _ ⟨rfl, rfl, rfl, (by repeat' (first | exact trivial | rfl | apply And.intro)), (by repeat' (first | exact trivial | rfl | apply And.intro)), rfl, rfl, rfl⟩⟩
      by_cases hji : j = i
      · subst hji; exact h2
      · exact hno j (by omega)
  · obtain rfl : i = rows.length := by omega
    clear ih
    refine Goes.tree Γ_ok htb 1000 false false Tryz.func60 rfl ?_
    ((try simp only [decide_eq_true_eq, decide_eq_false_iff_not, Bool.not_eq_true', Bool.not_eq_false', Bool.not_true, Bool.not_false, Bool.and_eq_true, Bool.or_eq_true, bne_iff_ne, beq_iff_eq, ne_eq]); (try simp only [rng, lo, hi, mnI, mxI, Int.toNat_natCast, Sg.n, Nat.mul_one, Nat.zero_add, Nat.add_zero, Nat.reduceAdd, List.getD_cons_zero, List.getD_cons_succ]))
    ((repeat' (first | (with_reducible apply And.intro) | intro _)); all_goals (first | exact trivial | (with_reducible assumption) | (show (_ : List Blk) = _; rfl) | (first | exact trivial | (with_reducible assumption) | omega | (split <;> omega) | (split <;> split <;> omega)) | skip); all_goals (try (refine ⟨rfl, (by first | exact Nat.le_refl _ | exact Nat.le_of_ble_eq_true rfl), rfl, rfl, ?_, (by repeat' (first | exact trivial | rfl | apply And.intro)), rfl, rfl⟩)))
    rw [findI_none hno]
    exact sameA_refl _

def delSOkS : Fun
  | [.ow 0 n .hur 62, .fb 40 .pas p], [.l .hur rows] => some (.ow 1 (leftF (standsP p) rows).length .hur 62, [.dead, .l .hur (leftF (standsP p) rows)], [n = rows.length ∧ rows.length ≤ 1000000 ∧ (∀ r ∈ rows, inG r) ∧ rows.any (standsP p) = true])
  | _, _ => .none
set_option maxRecDepth 100000 in
theorem s_delSOk : Sound Tryz.prog 38 delSOkS := by
  intro args M r M' vs h hvs
  unfold delSOkS at h
  split at h
  case h_2 => cases h
  rename_i n p rows
  cases h
  refine SpecOK.assume fun hA hM => ?_
  have htb := (TbOk.cons s_stands Tryz.func40 rfl rfl (TbOk.cons s_idxDelS Tryz.func60 rfl rfl (TbOk.nil : TbOk Tryz.prog tb0)))
  refine SpecOK.of_goes [0, 1] Tryz.func38 rfl ?_
  obtain ⟨⟨rfl, hl, hn, ha⟩, -⟩ := hvs
  clear hA hM
  obtain ⟨i0, h0, hf, hd, hno⟩ : ∃ i0 : Nat, i0 < rows.length ∧ findI (standsP p) rows = (i0 : Int) ∧ standsP p (rows.getD i0 []) = true ∧ ∀ j, j < i0 → standsP p (rows.getD j []) = false := by
    have ha' := findI_any (standsP p) rows
    rw [ha] at ha'
    have h1 : 0 ≤ findI (standsP p) rows := of_decide_eq_true ha'
    refine ⟨rows.findIdx (standsP p), List.findIdx_lt_length_of_exists (List.any_eq_true.1 ha), ?_, ?_, ?_⟩
    · unfold findI
      rw [if_pos ha]
    · have hlt := List.findIdx_lt_length_of_exists (List.any_eq_true.1 ha)
      rw [List.getD_eq_getElem?_getD, List.getElem?_eq_getElem hlt]
      exact List.findIdx_getElem
    · intro j hj
      have hlt := List.findIdx_lt_length_of_exists (List.any_eq_true.1 ha)
      rw [List.getD_eq_getElem?_getD, List.getElem?_eq_getElem (by omega)]
      have := List.not_of_lt_findIdx hj
      simpa using this
  have hK := dKF_ok h0 hd hno
  refine Goes.tree Γ_ok htb 1000 false false Tryz.func38 rfl ?_
  ((try simp only [decide_eq_true_eq, decide_eq_false_iff_not, Bool.not_eq_true', Bool.not_eq_false', Bool.not_true, Bool.not_false, Bool.and_eq_true, Bool.or_eq_true, bne_iff_ne, beq_iff_eq, ne_eq]); (try simp only [rng, lo, hi, mnI, mxI, Int.toNat_natCast, Sg.n, Nat.mul_one, Nat.zero_add, Nat.add_zero, Nat.reduceAdd, List.getD_cons_zero, List.getD_cons_succ, hf]))
  ((repeat' (first | (with_reducible apply And.intro) | intro _)); all_goals (first | exact trivial | (with_reducible assumption) | (show (_ : List Blk) = _; rfl) | (first | exact trivial | (with_reducible assumption) | omega | (split <;> omega) | (split <;> split <;> omega)) | skip); all_goals (try (refine ⟨rfl, (by first | exact Nat.le_refl _ | exact Nat.le_of_ble_eq_true rfl), rfl, rfl, ?_, (by repeat' (first | exact trivial | rfl | apply And.intro)), rfl, rfl⟩)))
  all_goals (try first | exact hn _ (by assumption) | contradiction)
  refine ⟨?_⟩
  refine Goes.loopR (fun k : Nat => rows.length - k) (fun k => i0 + 1 + k ≤ rows.length) (fun k => (.ow 0 rows.length .hur 62 :: .fb 40 .pas p :: .any :: .any :: .any :: .i .i64 ((dKF (standsP p) rows i0 k).2 : Int) :: .i .i64 (((i0 + 1 + k : Nat)) : Int) :: .any :: .any :: .any :: .any :: .any :: .any :: .any :: .any :: .any :: .any :: .any :: .any :: .any :: .any :: .any :: .any :: .any :: .any :: .any :: .any :: .any :: .any :: .any :: .any :: .any :: .any :: .any :: .any :: .any :: .any :: .any :: .any :: .any :: .any :: .any :: []))
    (fun k => [.l .hur (dKF (standsP p) rows i0 k).1]) 0 [0] (by omega) ⟨rfl, rfl, rfl, (by repeat' (first | exact trivial | rfl | apply And.intro)), (by repeat' (first | exact trivial | rfl | apply And.intro)), rfl, rfl, rfl⟩ fun k hk ih => ?_
  obtain ⟨a1, a2, a3, a4, a5⟩ := hK k hk
  by_cases hlt : i0 + 1 + k < rows.length
  · have hni : inG ((dKF (standsP p) rows i0 k).1.getD (i0 + 1 + k) []) := hn _ (a5 _ (getD_mem (by omega)))
    have hyes : standsP p ((dKF (standsP p) rows i0 k).1.getD (i0 + 1 + k) []) = true → dKF (standsP p) rows i0 (k + 1) = dKF (standsP p) rows i0 k := fun h => if_pos h
    have hnot : standsP p ((dKF (standsP p) rows i0 k).1.getD (i0 + 1 + k) []) = false → dKF (standsP p) rows i0 (k + 1) = ((dKF (standsP p) rows i0 k).1.set (dKF (standsP p) rows i0 k).2 ((dKF (standsP p) rows i0 k).1.getD (i0 + 1 + k) []), (dKF (standsP p) rows i0 k).2 + 1) := fun h => if_neg (by rw [h]; decide)
    refine Goes.tree Γ_ok htb 1000 false false Tryz.func38 rfl ?_
    ((try simp only [decide_eq_true_eq, decide_eq_false_iff_not, Bool.not_eq_true', Bool.not_eq_false', Bool.not_true, Bool.not_false, Bool.and_eq_true, Bool.or_eq_true, bne_iff_ne, beq_iff_eq, ne_eq]); (try simp only [rng, lo, hi, mnI, mxI, Int.toNat_natCast, Sg.n, Nat.mul_one, Nat.zero_add, Nat.add_zero, Nat.reduceAdd, List.getD_cons_zero, List.getD_cons_succ]))
    ((repeat' (first | (with_reducible apply And.intro) | intro _)); all_goals (first | exact trivial | (with_reducible assumption) | (show (_ : List Blk) = _; rfl) | (first | exact trivial | (with_reducible assumption) | omega | (split <;> omega) | (split <;> split <;> omega)) | skip); all_goals (try (refine ⟨rfl, (by first | exact Nat.le_refl _ | exact Nat.le_of_ble_eq_true rfl), rfl, rfl, ?_, (by repeat' (first | exact trivial | rfl | apply And.intro)), rfl, rfl⟩)))
    · refine ⟨ih (k + 1) (by omega) (by omega) [0] _ _ ?_⟩
      rw [hnot (by assumption)]
      exact ⟨rfl, rfl, rfl, (by repeat' (first | exact trivial | rfl | apply And.intro)), (by repeat' (first | exact trivial | rfl | apply And.intro)), rfl, rfl, rfl⟩
    · refine ⟨ih (k + 1) (by omega) (by omega) [0] _ _ ?_⟩
      rw [hyes (by assumption)]
      exact ⟨rfl, rfl, rfl, (by repeat' (first | exact trivial | rfl | apply And.intro)), (by repeat' (first | exact trivial | rfl | apply And.intro)), rfl, rfl, rfl⟩
  · have hle : (dKF (standsP p) rows i0 k).2 < rows.length := by omega
    have hfin : leftF (standsP p) rows = (dKF (standsP p) rows i0 k).1.take (dKF (standsP p) rows i0 k).2 := by rw [a4, List.take_of_length_le (by omega)]
    have hl1 : ((dKF (standsP p) rows i0 k).1.take (dKF (standsP p) rows i0 k).2).length = (dKF (standsP p) rows i0 k).2 := by rw [List.length_take]; omega
    have hf2 : ∀ Z : List (List Int), List.take (dKF (standsP p) rows i0 k).2 (List.take ((dKF (standsP p) rows i0 k).2 * 3 / 3) (dKF (standsP p) rows i0 k).1 ++ Z) = (dKF (standsP p) rows i0 k).1.take (dKF (standsP p) rows i0 k).2 := fun Z => by
      rw [Nat.mul_div_cancel _ (by decide), List.take_append_of_le_length (by rw [hl1]; exact Nat.le_refl _), List.take_take, Nat.min_self]
    rw [hfin, hl1]
    clear ih
    refine Goes.tree Γ_ok htb 1000 false false Tryz.func38 rfl ?_
    ((try simp only [decide_eq_true_eq, decide_eq_false_iff_not, Bool.not_eq_true', Bool.not_eq_false', Bool.not_true, Bool.not_false, Bool.and_eq_true, Bool.or_eq_true, bne_iff_ne, beq_iff_eq, ne_eq]); (try simp only [rng, lo, hi, mnI, mxI, Int.toNat_natCast, Sg.n, Nat.mul_one, Nat.zero_add, Nat.add_zero, Nat.reduceAdd, List.getD_cons_zero, List.getD_cons_succ, hf2]))
    ((repeat' (first | (with_reducible apply And.intro) | intro _)); all_goals (first | exact trivial | (with_reducible assumption) | (show (_ : List Blk) = _; rfl) | (first | exact trivial | (with_reducible assumption) | omega | (split <;> omega) | (split <;> split <;> omega)) | skip); all_goals (try (refine ⟨rfl, (by first | exact Nat.le_refl _ | exact Nat.le_of_ble_eq_true rfl), rfl, rfl, ?_, (by repeat' (first | exact trivial | rfl | apply And.intro)), rfl, rfl⟩)))
    all_goals (first | exact sameA_refl _ | trace_state)

def delSNoS : Fun
  | [.ow 0 n .hur 62, .fb 40 .pas p], [.l .hur rows] => some (.ow 0 n .hur 62, [.l .hur rows], [n = rows.length ∧ rows.length ≤ 1000000 ∧ (∀ r ∈ rows, inG r) ∧ ¬ rows.any (standsP p) = true])
  | _, _ => .none
set_option maxRecDepth 100000 in
theorem s_delSNo : Sound Tryz.prog 38 delSNoS := by
  intro args M r M' vs h hvs
  unfold delSNoS at h
  split at h
  case h_2 => cases h
  rename_i n p rows
  cases h
  refine SpecOK.assume fun hA hM => ?_
  have htb := (TbOk.cons s_stands Tryz.func40 rfl rfl (TbOk.cons s_idxDelS Tryz.func60 rfl rfl (TbOk.nil : TbOk Tryz.prog tb0)))
  refine SpecOK.of_goes [0] Tryz.func38 rfl ?_
  obtain ⟨⟨rfl, hl, hn, ha⟩, -⟩ := hvs
  clear hA hM
  have hf : findI (standsP p) rows = -1 := by unfold findI; rw [if_neg ha]
  refine Goes.tree Γ_ok htb 1000 false false Tryz.func38 rfl ?_
  ((try simp only [decide_eq_true_eq, decide_eq_false_iff_not, Bool.not_eq_true', Bool.not_eq_false', Bool.not_true, Bool.not_false, Bool.and_eq_true, Bool.or_eq_true, bne_iff_ne, beq_iff_eq, ne_eq]); (try simp only [rng, lo, hi, mnI, mxI, Int.toNat_natCast, Sg.n, Nat.mul_one, Nat.zero_add, Nat.add_zero, Nat.reduceAdd, List.getD_cons_zero, List.getD_cons_succ, hf]))
  ((repeat' (first | (with_reducible apply And.intro) | intro _)); all_goals (first | exact trivial | (with_reducible assumption) | (show (_ : List Blk) = _; rfl) | (first | exact trivial | (with_reducible assumption) | omega | (split <;> omega) | (split <;> split <;> omega)) | skip); all_goals (try (refine ⟨rfl, (by first | exact Nat.le_refl _ | exact Nat.le_of_ble_eq_true rfl), rfl, rfl, ?_, (by repeat' (first | exact trivial | rfl | apply And.intro)), rfl, rfl⟩)))
  all_goals (try first | exact hn _ (by assumption) | contradiction | exact sameA_refl _)
  all_goals trace_state
end Go.Proofs.YtjbgjgkogmlpfaaGreat
