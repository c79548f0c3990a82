/- The sides of some cells, by the program. -/
import Derived.Test.YtjbgjgkogmlpfaaGreatOrd
import Derived.Test.YtjbgjgkogmlpfaaGreatHas
namespace Go.Proofs.YtjbgjgkogmlpfaaGreat
open Go Go.Eng
set_option linter.unusedSimpArgs false
set_option linter.unusedVariables false
set_option maxRecDepth 100000
set_option maxHeartbeats 4000000

/-- Is there a cell beyond that is none of them? -/
def outC (p : List Int) (xs : List (List Int)) (s : List Int) (d : Int) : Bool := isP p (ahead s d) && !hasR xs (ahead s d)
def sdN (p : List Int) (xs acc : List (List Int)) (s : List Int) : Nat → List (List Int)
  | 0 => acc
  | d + 1 => if outC p xs s d = true then sdN p xs acc s d ++ [hurdleAt s d] else sdN p xs acc s d
def sdK (p : List Int) (xs rows : List (List Int)) : Nat → List (List Int)
  | 0 => []
  | i + 1 => sdN p xs (sdK p xs rows i) (rows.getD i []) 4
def sideL (p : List Int) (xs : List (List Int)) : List (List Int) := sdK p xs (ordL xs) (ordL xs).length
theorem sdN_len (p : List Int) (xs acc : List (List Int)) (s : List Int) : ∀ d, (sdN p xs acc s d).length ≤ acc.length + d := by
  intro d
  induction d with
  | zero => exact Nat.le_refl _
  | succ d ih => unfold sdN; split <;> (try simp only [List.length_append, List.length_cons, List.length_nil]) <;> omega
theorem sdK_len (p : List Int) (xs rows : List (List Int)) : ∀ i, (sdK p xs rows i).length ≤ 4 * i := by
  intro i
  induction i with
  | zero => exact Nat.le_refl _
  | succ i ih => have := sdN_len p xs (sdK p xs rows i) (rows.getD i []) 4; unfold sdK; omega
theorem cmpN_len (rows : List (List Int)) : ∀ i, (cmpN rows i).length ≤ i := by
  intro i
  induction i with
  | zero => exact Nat.le_refl _
  | succ i ih => unfold cmpN; split <;> (try simp only [List.length_append, List.length_cons, List.length_nil]) <;> omega
theorem cmpN_mem {rows : List (List Int)} : ∀ i, i ≤ rows.length → ∀ r, r ∈ cmpN rows i ↔ r ∈ rows.take i := by
  intro i
  induction i with
  | zero => intro _ r; simp [cmpN]
  | succ i ih =>
    intro hi r
    rw [take_snocW rows [] (by omega), List.mem_append, List.mem_singleton]
    unfold cmpN
    split
    · rename_i h
      rw [ih (by omega)]
      refine ⟨.inl, fun g => g.elim id fun g => ?_⟩
      subst g
      rw [h.2]
      have : rows.getD (i - 1) [] ∈ rows.take i := by
        rw [List.getD_eq_getElem?_getD, List.getElem?_eq_getElem (by omega)]
        exact List.mem_take_iff_getElem.2 ⟨i - 1, by omega, rfl⟩
      exact this
    · rw [List.mem_append, List.mem_singleton, ih (by omega)]
theorem ordL_mem (rows : List (List Int)) (r : List Int) : r ∈ ordL rows ↔ r ∈ rows := by
  unfold ordL compL
  rw [cmpN_mem _ (Nat.le_refl _), List.take_length]
  unfold sortL
  exact List.mem_mergeSort
theorem ordL_len (rows : List (List Int)) : (ordL rows).length ≤ rows.length := by
  have := cmpN_len (sortL cmpI rows) (sortL cmpI rows).length
  rw [sortL_len] at this
  unfold ordL compL
  rw [sortL_len]
  exact this

def sidesOfS : Fun
  | [.ag .pas p, .fs .spot xs], [] => some (.ow 0 (sideL p xs).length .hur 62, [.l .hur (sideL p xs)], [okD p ∧ (∀ s ∈ xs, isP p s = true) ∧ 0 < xs.length ∧ xs.length ≤ 10000000])
  | _, _ => .none
set_option maxRecDepth 100000 in
theorem s_sidesOf : Sound Tryz.prog 39 sidesOfS := by
  intro args M r M' vs h hvs
  unfold sidesOfS at h
  split at h
  case h_2 => cases h
  rename_i p xs
  cases h
  refine SpecOK.assume fun hA hM => ?_
  have htb := (TbOk.cons s_ordered Tryz.func61 rfl rfl (TbOk.cons s_ahead Tryz.func62 rfl rfl (TbOk.cons s_isCell Tryz.func54 rfl rfl (TbOk.cons s_hasR Tryz.func59 rfl rfl (TbOk.cons s_hurdleAt Tryz.func63 rfl rfl (TbOk.nil : TbOk Tryz.prog tb0))))))
  refine SpecOK.of_goes [1] Tryz.func39 rfl ?_
  obtain ⟨⟨hd, hx, h0, hl⟩, -⟩ := hvs
  clear hA hM
  have hol := ordL_len xs
  have hom : ∀ s ∈ ordL xs, isP p s = true := fun s hs => hx s ((ordL_mem xs s).1 hs)
  refine Goes.tree Γ_ok htb 1000 false false Tryz.func39 rfl ?_
  ((try simp only [decide_eq_true_eq, decide_eq_false_iff_not, Bool.not_eq_true', Bool.not_eq_false', Bool.not_true, Bool.not_false, Bool.and_eq_true, Bool.or_eq_true, bne_iff_ne, beq_iff_eq, ne_eq]); (try simp only [rng, lo, hi, mnI, mxI, Int.toNat_natCast, Sg.n, Nat.mul_one, Nat.zero_add, Nat.add_zero, Nat.reduceAdd, List.getD_cons_zero, List.getD_cons_succ]))
  ((repeat' (first | (with_reducible apply And.intro) | intro _)); all_goals (first | exact trivial | (with_reducible assumption) | (show (_ : List Blk) = _; rfl) | (first | exact trivial | (with_reducible assumption) | omega | (split <;> omega) | (split <;> split <;> omega)) | skip); all_goals (try (refine ⟨rfl, (by first | exact Nat.le_refl _ | exact Nat.le_of_ble_eq_true rfl), rfl, rfl, ?_, (by repeat' (first | exact trivial | rfl | apply And.intro)), rfl, rfl⟩)))
  all_goals (try omega)
  refine ⟨?_⟩
  refine Goes.loopR (fun i : Nat => (ordL xs).length - i) (fun i => i ≤ (ordL xs).length) (fun i => (.any :: .fs .spot xs :: .pw 0 .pas :: .any :: .any :: .ow 1 (sdK p xs (ordL xs) i).length .hur 62 :: .any :: .any :: .any :: .any :: .any :: .any :: .ow 2 (ordL xs).length .spot 54 :: .i .i64 ((ordL xs).length : Int) :: .i .i64 (i : Int) :: .any :: .any :: .any :: .any :: .any :: .any :: .any :: .any :: .any :: .any :: .any :: .any :: .any :: .any :: .any :: .any :: .any :: .any :: .any :: .any :: .any :: .any :: .any :: .any :: .any :: .any :: .any :: []))
    (fun i => [.c .pas p, .l .hur (sdK p xs (ordL xs) i), .l .spot (ordL xs)]) 0 [0, 1, 2] (by omega) ⟨rfl, rfl, rfl, (by repeat' (first | exact trivial | rfl | apply And.intro)), (by repeat' (first | exact trivial | rfl | apply And.intro)), rfl, rfl, rfl⟩ fun i hib ihO => ?_
  have hk := sdK_len p xs (ordL xs) i
  by_cases hlt : i < (ordL xs).length
  · have hs := hom _ (getD_mem (d := []) hlt)
    have hne := near_of hd hs
    have ek : sdK p xs (ordL xs) (i + 1) = sdN p xs (sdK p xs (ordL xs) i) ((ordL xs).getD i []) 4 := rfl
    have ihO := ihO (i + 1)
    rw [ek] at ihO
    refine Goes.tree Γ_ok htb 1000 false false Tryz.func39 rfl ?_
    ((try simp only [decide_eq_true_eq, decide_eq_false_iff_not, Bool.not_eq_true', Bool.not_eq_false', Bool.not_true, Bool.not_false, Bool.and_eq_true, Bool.or_eq_true, bne_iff_ne, beq_iff_eq, ne_eq]); (try simp only [rng, lo, hi, mnI, mxI, Int.toNat_natCast, Sg.n, Nat.mul_one, Nat.zero_add, Nat.add_zero, Nat.reduceAdd, List.getD_cons_zero, List.getD_cons_succ]))
    ((repeat' (first | (with_reducible apply And.intro) | intro _)); all_goals (first | exact trivial | (with_reducible assumption) | (show (_ : List Blk) = _; rfl) | (first | exact trivial | (with_reducible assumption) | omega | (split <;> omega) | (split <;> split <;> omega)) | skip); all_goals (try (refine ⟨rfl, (by first | exact Nat.le_refl _ | exact Nat.le_of_ble_eq_true rfl), rfl, rfl, ?_, (by repeat' (first | exact trivial | rfl | apply And.intro)), rfl, rfl⟩)))
    refine ⟨?_⟩
    refine Goes.loopR (fun d : Nat => 4 - d) (fun d => d ≤ 4) (fun d => (.any :: .fs .spot xs :: .pw 0 .pas :: .any :: .any :: .ow 1 (sdN p xs (sdK p xs (ordL xs) i) ((ordL xs).getD i []) d).length .hur 62 :: .any :: .pw 3 .spot :: .any :: .any :: .any :: .any :: .ow 2 (ordL xs).length .spot 54 :: .i .i64 ((ordL xs).length : Int) :: .i .i64 (i : Int) :: .any :: .any :: .any :: .i .i64 (d : Int) :: .any :: .any :: .any :: .any :: .any :: .any :: .any :: .any :: .any :: .any :: .any :: .any :: .any :: .any :: .any :: .any :: .any :: .any :: .any :: .any :: .any :: .any :: .any :: []))
      (fun d => [.c .pas p, .l .hur (sdN p xs (sdK p xs (ordL xs) i) ((ordL xs).getD i []) d), .l .spot (ordL xs), .c .spot ((ordL xs).getD i [])]) 0 [0, 1, 2, 3] (by omega) ⟨rfl, rfl, rfl, (by repeat' (first | exact trivial | rfl | apply And.intro)), (by repeat' (first | exact trivial | rfl | apply And.intro)), rfl, rfl, rfl⟩ fun d hd4 ih => ?_
    have hsl := sdN_len p xs (sdK p xs (ordL xs) i) ((ordL xs).getD i []) d
    have hyes : outC p xs ((ordL xs).getD i []) d = true → sdN p xs (sdK p xs (ordL xs) i) ((ordL xs).getD i []) (d + 1) = sdN p xs (sdK p xs (ordL xs) i) ((ordL xs).getD i []) d ++ [hurdleAt ((ordL xs).getD i []) d] := fun h => if_pos h
    have hno : ¬ outC p xs ((ordL xs).getD i []) d = true → sdN p xs (sdK p xs (ordL xs) i) ((ordL xs).getD i []) (d + 1) = sdN p xs (sdK p xs (ordL xs) i) ((ordL xs).getD i []) d := fun h => if_neg h
    have hoc : outC p xs ((ordL xs).getD i []) d = (isP p (ahead ((ordL xs).getD i []) d) && !hasR xs (ahead ((ordL xs).getD i []) d)) := rfl
    generalize (ordL xs).getD i [] = s at *
    by_cases hd5 : d < 4
    · refine Goes.tree Γ_ok htb 1000 false false Tryz.func39 rfl ?_
      ((try simp only [decide_eq_true_eq, decide_eq_false_iff_not, Bool.not_eq_true', Bool.not_eq_false', Bool.not_true, Bool.not_false, Bool.and_eq_true, Bool.or_eq_true, bne_iff_ne, beq_iff_eq, ne_eq]); (try simp only [rng, lo, hi, mnI, mxI, Int.toNat_natCast, Sg.n, Nat.mul_one, Nat.zero_add, Nat.add_zero, Nat.reduceAdd, List.getD_cons_zero, List.getD_cons_succ, one_row]))
      ((repeat' (first | (with_reducible apply And.intro) | intro _)); all_goals (first | exact trivial | (with_reducible assumption) | (show (_ : List Blk) = _; rfl) | (first | exact trivial | (with_reducible assumption) | omega | (split <;> omega) | (split <;> split <;> omega)) | skip); all_goals (try (refine ⟨rfl, (by first | exact Nat.le_refl _ | exact Nat.le_of_ble_eq_true rfl), rfl, rfl, ?_, (by repeat' (first | exact trivial | rfl | apply And.intro)), rfl, rfl⟩)))
      all_goals (try first | omega | exact hne | exact hd.2.1 | exact hd.2.2.2 | (show (sdN p xs (sdK p xs (ordL xs) i) s d ++ [_]).length ≤ _; simp only [List.length_append, List.length_cons, List.length_nil]; omega))
      · rename_i h1 h2
        refine ⟨ih (d + 1) (by omega) (by omega) [0, 6, 2, 3] _ _ ?_⟩
        rw [hyes (by rw [hoc, h1, h2]; rfl)]
        exact ⟨rfl, rfl, rfl, (by repeat' (first | exact trivial | rfl | apply And.intro)), (by repeat' (first | exact trivial | rfl | apply And.intro)), rfl, rfl, rfl⟩
      · rename_i h1 h2
        refine ⟨ih (d + 1) (by omega) (by omega) [0, 1, 2, 3] _ _ ?_⟩
        rw [hno (by rw [hoc, h1, h2]; decide)]
        exact ⟨rfl, rfl, rfl, (by repeat' (first | exact trivial | rfl | apply And.intro)), (by repeat' (first | exact trivial | rfl | apply And.intro)), rfl, rfl, rfl⟩
      · rename_i h1
        refine ⟨ih (d + 1) (by omega) (by omega) [0, 1, 2, 3] _ _ ?_⟩
        rw [hno (by rw [hoc, h1]; simp)]
        exact ⟨rfl, rfl, rfl, (by repeat' (first | exact trivial | rfl | apply And.intro)), (by repeat' (first | exact trivial | rfl | apply And.intro)), rfl, rfl, rfl⟩
    · obtain rfl : d = 4 := by omega
      refine Goes.tree Γ_ok htb 1000 false false Tryz.func39 rfl ?_
      ((try simp only [decide_eq_true_eq, decide_eq_false_iff_not, Bool.not_eq_true', Bool.not_eq_false', Bool.not_true, Bool.not_false, Bool.and_eq_true, Bool.or_eq_true, bne_iff_ne, beq_iff_eq, ne_eq]); (try simp only [rng, lo, hi, mnI, mxI, Int.toNat_natCast, Sg.n, Nat.mul_one, Nat.zero_add, Nat.add_zero, Nat.reduceAdd, List.getD_cons_zero, List.getD_cons_succ, one_row]))
      ((repeat' (first | (with_reducible apply And.intro) | intro _)); all_goals (first | exact trivial | (with_reducible assumption) | (show (_ : List Blk) = _; rfl) | (first | exact trivial | (with_reducible assumption) | omega | (split <;> omega) | (split <;> split <;> omega)) | skip); all_goals (try (refine ⟨rfl, (by first | exact Nat.le_refl _ | exact Nat.le_of_ble_eq_true rfl), rfl, rfl, ?_, (by repeat' (first | exact trivial | rfl | apply And.intro)), rfl, rfl⟩)))
      all_goals (try first | omega | contradiction)
      exact ⟨ihO (by omega) (by omega) [0, 1, 2] _ _ ⟨rfl, rfl, rfl, (by repeat' (first | exact trivial | rfl | apply And.intro)), (by repeat' (first | exact trivial | rfl | apply And.intro)), rfl, rfl, rfl⟩⟩
  · obtain rfl : i = (ordL xs).length := by omega
    clear ihO
    refine Goes.tree Γ_ok htb 1000 false false Tryz.func39 rfl ?_
    ((try simp only [decide_eq_true_eq, decide_eq_false_iff_not, Bool.not_eq_true', Bool.not_eq_false', Bool.not_true, Bool.not_false, Bool.and_eq_true, Bool.or_eq_true, bne_iff_ne, beq_iff_eq, ne_eq]); (try simp only [rng, lo, hi, mnI, mxI, Int.toNat_natCast, Sg.n, Nat.mul_one, Nat.zero_add, Nat.add_zero, Nat.reduceAdd, List.getD_cons_zero, List.getD_cons_succ, one_row]))
    ((repeat' (first | (with_reducible apply And.intro) | intro _)); all_goals (first | exact trivial | (with_reducible assumption) | (show (_ : List Blk) = _; rfl) | (first | exact trivial | (with_reducible assumption) | omega | (split <;> omega) | (split <;> split <;> omega)) | skip); all_goals (try (refine ⟨rfl, (by first | exact Nat.le_refl _ | exact Nat.le_of_ble_eq_true rfl), rfl, rfl, ?_, (by repeat' (first | exact trivial | rfl | apply And.intro)), rfl, rfl⟩)))
    all_goals (first | contradiction | exact sameA_refl _ | trace_state)

/-- None at all. -/
def sidesOfES : Fun
  | [.ag .pas p, .fs .spot []], [] => some (.ow 0 0 .hur 62, [.l .hur []], [])
  | _, _ => .none
set_option maxRecDepth 100000 in
theorem s_sidesOfE : Sound Tryz.prog 39 sidesOfES := by
  intro args M r M' vs h hvs
  unfold sidesOfES at h
  split at h
  case h_2 => cases h
  rename_i p
  cases h
  refine SpecOK.assume fun hA hM => ?_
  have htb := (TbOk.cons s_orderedE Tryz.func61 rfl rfl (TbOk.nil : TbOk Tryz.prog tb0))
  refine SpecOK.of_goes [1] Tryz.func39 rfl ?_
  clear hA hM
  refine Goes.tree Γ_ok htb 1000 false false Tryz.func39 rfl ?_
  ((try simp only [decide_eq_true_eq, decide_eq_false_iff_not, Bool.not_eq_true', Bool.not_eq_false', Bool.not_true, Bool.not_false, Bool.and_eq_true, Bool.or_eq_true, bne_iff_ne, beq_iff_eq, ne_eq]); (try simp only [rng, lo, hi, mnI, mxI, Int.toNat_natCast, Sg.n, Nat.mul_one, Nat.zero_add, Nat.add_zero, Nat.reduceAdd, List.getD_cons_zero, List.getD_cons_succ]))
  ((repeat' (first | (with_reducible apply And.intro) | intro _)); all_goals (first | exact trivial | (with_reducible assumption) | (show (_ : List Blk) = _; rfl) | (first | exact trivial | (with_reducible assumption) | omega | (split <;> omega) | (split <;> split <;> omega)) | skip); all_goals (try (refine ⟨rfl, (by first | exact Nat.le_refl _ | exact Nat.le_of_ble_eq_true rfl), rfl, rfl, ?_, (by repeat' (first | exact trivial | rfl | apply And.intro)), rfl, rfl⟩)))
  refine ⟨?_⟩
  refine Goes.tree Γ_ok htb 1000 false false Tryz.func39 rfl ?_
  ((try simp only [decide_eq_true_eq, decide_eq_false_iff_not, Bool.not_eq_true', Bool.not_eq_false', Bool.not_true, Bool.not_false, Bool.and_eq_true, Bool.or_eq_true, bne_iff_ne, beq_iff_eq, ne_eq]); (try simp only [rng, lo, hi, mnI, mxI, Int.toNat_natCast, Sg.n, Nat.mul_one, Nat.zero_add, Nat.add_zero, Nat.reduceAdd, List.getD_cons_zero, List.getD_cons_succ]))
  ((repeat' (first | (with_reducible apply And.intro) | intro _)); all_goals (first | exact trivial | (with_reducible assumption) | (show (_ : List Blk) = _; rfl) | (first | exact trivial | (with_reducible assumption) | omega | (split <;> omega) | (split <;> split <;> omega)) | skip); all_goals (try (refine ⟨rfl, (by first | exact Nat.le_refl _ | exact Nat.le_of_ble_eq_true rfl), rfl, rfl, ?_, (by repeat' (first | exact trivial | rfl | apply And.intro)), rfl, rfl⟩)))
  all_goals (first | contradiction | exact sameA_refl _ | exact absurd (by decide) (by assumption) | trace_state)
end Go.Proofs.YtjbgjgkogmlpfaaGreat
