/- The laws' marks in lists of numbers. -/
import Derived.Test.YtgogccconmlkiaaInts
import Derived.Test.YtgogccconmlkiaaMarks
import Derived.Test.YtgogccconmlkiaaLend
namespace Go.Proofs.Ytgogccconmlkiaa
open Go Go.Eng
set_option linter.unusedSimpArgs false
set_option linter.unusedVariables false
set_option maxRecDepth 100000
set_option maxHeartbeats 4000000

def mkI (k : Int) : Nat → List (List Int)
  | 0 => []
  | n + 1 => mkI k n ++ [[k + n]]
theorem mkI_len (k : Int) : ∀ i, (mkI k i).length = i
  | 0 => rfl
  | i + 1 => by simp [mkI, mkI_len k i]
theorem mkI_app {k : Int} {i : Nat} {rows : List (List Int)} (x : List Int) (hi : i < rows.length) : (mkI k i ++ rows.drop i).set i x = (mkI k i ++ [x]) ++ rows.drop (i + 1) := by
  rw [List.set_append_right _ _ (by rw [mkI_len]; exact Nat.le_refl _), mkI_len, Nat.sub_self, List.drop_eq_getElem_cons hi, List.set_cons_zero, List.append_assoc]; rfl
theorem mkI_at {k : Int} {i : Nat} {rows : List (List Int)} (hi : i < rows.length) : (mkI k i ++ rows.drop i).getD i [] = rows[i] := by
  rw [List.getD_eq_getElem?_getD, List.getElem?_append_right (by rw [mkI_len]; exact Nat.le_refl _), mkI_len, Nat.sub_self, List.drop_eq_getElem_cons hi]; rfl
theorem mkI_get (k : Int) : ∀ n i, i < n → (mkI k n).getD i [] = [k + i] := by
  intro n
  induction n with
  | zero => intro i h; omega
  | succ n ih =>
    intro i h
    rw [mkI, List.getD_eq_getElem?_getD]
    by_cases hi : i < n
    · rw [List.getElem?_append_left (by rw [mkI_len]; exact hi), ← List.getD_eq_getElem?_getD]; exact ih i hi
    · obtain rfl : i = n := by omega
      rw [List.getElem?_append_right (by rw [mkI_len]; exact Nat.le_refl _), mkI_len, Nat.sub_self]; rfl
theorem set_row1 {r : List Int} (hr : r.length = 1) (v : Int) : r.set 0 v = [v] := by
  match r, hr with
  | [a], _ => rfl

def markIS : Fun
  | [.ow 0 n .i64 2, .i .i64 k], [.l .i64 rows] => some (.i .i64 (k + n), [.l .i64 (mkI k n)], [n = rows.length ∧ n ≤ 1073741824 ∧ 0 ≤ k ∧ k ≤ 1073741824])
  | _, _ => .none
set_option maxRecDepth 100000 in
theorem s_markI : Sound Try.prog 24 markIS := by
  intro args M r M' vs h hvs
  unfold markIS at h
  split at h
  case h_2 => cases h
  rename_i n k rows
  cases h
  refine SpecOK.assume fun hA hM => ?_
  have htb := (TbOk.nil : TbOk Try.prog tb0)
  refine SpecOK.of_goes [0] Try.func24 rfl ?_
  obtain ⟨⟨rfl, hl, hk0, hk1⟩, -⟩ := hvs
  have hr : RowsOk .i64 rows := hM.1
  clear hA hM
  refine Goes.tree Γ_ok htb 1000 false true Try.func24 rfl ?_
  refine ⟨?_⟩
  refine Goes.loopR (fun i : Nat => rows.length - i) (fun i => i ≤ rows.length) (fun i => (.ow 0 rows.length .i64 2 :: .i .i64 (k + (i:Int)) :: .any :: .any :: .any :: .i .i64 (i:Int) :: .any :: .any :: .any :: .any :: .any :: .any :: .any :: .any :: .any :: .any :: .any :: .any :: .any :: [])) (fun i => [.l .i64 (mkI k i ++ rows.drop i)]) 0 [0] (by omega) ⟨rfl, rfl, rfl, (by show leF _ _; rw [show k + ((0 : Nat) : Int) = k from Int.add_zero k]; exact (by repeat' (first | exact trivial | rfl | apply And.intro))), (by repeat' (first | exact trivial | rfl | apply And.intro)), rfl, rfl, rfl⟩ fun i hle ih => ?_
  have w1 : IntKind.i64.wrap (k + (i:Int) + 1) = k + i + 1 := wrap_of_rng (by simp only [rng, lo, hi]; omega)
  have w3 : IntKind.i64.wrap ((i:Int) + 1) = i + 1 := wrap_of_rng (by simp only [rng, lo, hi]; omega)
  by_cases hlt : i < rows.length
  · have hlen : (mkI k i ++ rows.drop i).length = rows.length := by rw [List.length_append, mkI_len, List.length_drop]; omega
    have hrow : ((mkI k i ++ rows.drop i).getD i []).length = 1 := by rw [mkI_at hlt]; exact (hr _ (List.getElem_mem hlt)).1
    have e1 : (mkI k i ++ rows.drop i).set i (((mkI k i ++ rows.drop i).getD i []).set 0 (k + i)) = mkI k (i + 1) ++ rows.drop (i + 1) := by
      rw [set_row1 hrow, mkI_app _ hlt]; rfl
    have e2 : k + ((i + 1 : Nat) : Int) = k + i + 1 := by omega
    refine Goes.tree Γ_ok htb 1000 false true Try.func24 rfl ?_
    ((try simp only [decide_eq_true_eq, decide_eq_false_iff_not, Bool.not_eq_true', Bool.not_eq_false', Bool.not_true, Bool.not_false, Bool.and_eq_true, Bool.or_eq_true, bne_iff_ne, beq_iff_eq, ne_eq]); (try simp only [rng, lo, hi, mnI, mxI, Int.toNat_natCast, Sg.n, Nat.mul_one, Nat.zero_add, Nat.add_zero, Nat.reduceAdd, List.getD_cons_zero, List.getD_cons_succ, w1, w3]))
    ((repeat' (first | (with_reducible apply And.intro) | intro _)); all_goals (first | exact trivial | (with_reducible assumption) | (show (_ : List Blk) = _; rfl) | (first | exact trivial | (with_reducible assumption) | omega | (split <;> omega) | (split <;> split <;> omega)) | skip); all_goals (try (refine ⟨rfl, (by first | exact Nat.le_refl _ | exact Nat.le_of_ble_eq_true rfl), rfl, rfl, ?_, (by repeat' (first | exact trivial | rfl | apply And.intro)), rfl, rfl⟩)))
    all_goals (try (first | contradiction | omega))
    refine ⟨ih (i + 1) (by omega) (by omega) [0] _ _ ?_⟩
    rw [e2, ← e1]
    exact ⟨rfl, rfl, rfl, (by repeat' (first | exact trivial | rfl | apply And.intro)), (by repeat' (first | exact trivial | rfl | apply And.intro)), rfl, rfl, rfl⟩
  · obtain rfl : i = rows.length := by omega
    clear ih
    rw [List.drop_length, List.append_nil]
    refine Goes.tree Γ_ok htb 1000 false true Try.func24 rfl ?_
    ((try simp only [decide_eq_true_eq, decide_eq_false_iff_not, Bool.not_eq_true', Bool.not_eq_false', Bool.not_true, Bool.not_false, Bool.and_eq_true, Bool.or_eq_true, bne_iff_ne, beq_iff_eq, ne_eq]); (try simp only [rng, lo, hi, mnI, mxI, Int.toNat_natCast, Sg.n, Nat.mul_one, Nat.zero_add, Nat.add_zero, Nat.reduceAdd, List.getD_cons_zero, List.getD_cons_succ, w1, w3]))
    ((repeat' (first | (with_reducible apply And.intro) | intro _)); all_goals (first | exact trivial | (with_reducible assumption) | (show (_ : List Blk) = _; rfl) | (first | exact trivial | (with_reducible assumption) | omega | (split <;> omega) | (split <;> split <;> omega)) | skip); all_goals (try (refine ⟨rfl, (by first | exact Nat.le_refl _ | exact Nat.le_of_ble_eq_true rfl), rfl, rfl, ?_, (by repeat' (first | exact trivial | rfl | apply And.intro)), rfl, rfl⟩)))
    all_goals (first | contradiction | exact sameA_refl _ | trace_state)

def heldIS : Fun
  | [.ow 0 n .i64 2, .i .i64 k], [.l .i64 rows] => some (.i .i64 (k + n), [.l .i64 rows], [rows = mkI k n ∧ n ≤ 1073741824 ∧ 0 ≤ k ∧ k ≤ 1073741824])
  | _, _ => .none
set_option maxRecDepth 100000 in
theorem s_heldI : Sound Try.prog 25 heldIS := by
  intro args M r M' vs h hvs
  unfold heldIS at h
  split at h
  case h_2 => cases h
  rename_i n k rows
  cases h
  refine SpecOK.assume fun hA hM => ?_
  have htb := (TbOk.nil : TbOk Try.prog tb0)
  refine SpecOK.of_goes [0] Try.func25 rfl ?_
  obtain ⟨⟨rfl, hl, hk0, hk1⟩, -⟩ := hvs
  clear hA hM
  have hlen := mkI_len k n
  refine Goes.tree Γ_ok htb 1000 false true Try.func25 rfl ?_
  refine ⟨?_⟩
  refine Goes.loopR (fun i : Nat => n - i) (fun i => i ≤ n) (fun i => (.ow 0 n .i64 2 :: .i .i64 (k + (i:Int)) :: .any :: .any :: .any :: .i .i64 (i:Int) :: .any :: .any :: .any :: .any :: .any :: .any :: .any :: .any :: .any :: .any :: .any :: .any :: .any :: .any :: .any :: [])) (fun i => [.l .i64 (mkI k n)]) 0 [0] (by omega) ⟨rfl, rfl, rfl, (by show leF _ _; rw [show k + ((0 : Nat) : Int) = k from Int.add_zero k]; exact (by repeat' (first | exact trivial | rfl | apply And.intro))), (by repeat' (first | exact trivial | rfl | apply And.intro)), rfl, rfl, rfl⟩ fun i hle ih => ?_
  have w1 : IntKind.i64.wrap (k + (i:Int) + 1) = k + i + 1 := wrap_of_rng (by simp only [rng, lo, hi]; omega)
  have w3 : IntKind.i64.wrap ((i:Int) + 1) = i + 1 := wrap_of_rng (by simp only [rng, lo, hi]; omega)
  by_cases hlt : i < n
  · have hg : ((mkI k n).getD i []).getD 0 0 = k + i := by rw [mkI_get k n i hlt]; rfl
    have e2 : k + ((i + 1 : Nat) : Int) = k + i + 1 := by omega
    refine Goes.tree Γ_ok htb 1000 false true Try.func25 rfl ?_
    ((try simp only [decide_eq_true_eq, decide_eq_false_iff_not, Bool.not_eq_true', Bool.not_eq_false', Bool.not_true, Bool.not_false, Bool.and_eq_true, Bool.or_eq_true, bne_iff_ne, beq_iff_eq, ne_eq]); (try simp only [rng, lo, hi, mnI, mxI, Int.toNat_natCast, Sg.n, Nat.mul_one, Nat.zero_add, Nat.add_zero, Nat.reduceAdd, List.getD_cons_zero, List.getD_cons_succ, w1, w3, hg]))
    ((repeat' (first | (with_reducible apply And.intro) | intro _)); all_goals (first | exact trivial | (with_reducible assumption) | (show (_ : List Blk) = _; rfl) | (first | exact trivial | (with_reducible assumption) | omega | (split <;> omega) | (split <;> split <;> omega)) | skip); all_goals (try (refine ⟨rfl, (by first | exact Nat.le_refl _ | exact Nat.le_of_ble_eq_true rfl), rfl, rfl, ?_, (by repeat' (first | exact trivial | rfl | apply And.intro)), rfl, rfl⟩)))
    all_goals (try (first | contradiction | exact absurd trivial (by assumption)))
    refine ⟨ih (i + 1) (by omega) (by omega) [0] _ _ ?_⟩
    rw [e2]
    exact ⟨rfl, rfl, rfl, (by repeat' (first | exact trivial | rfl | apply And.intro)), (by repeat' (first | exact trivial | rfl | apply And.intro)), rfl, rfl, rfl⟩
  · obtain rfl : i = n := by omega
    clear ih
    refine Goes.tree Γ_ok htb 1000 false true Try.func25 rfl ?_
    ((try simp only [decide_eq_true_eq, decide_eq_false_iff_not, Bool.not_eq_true', Bool.not_eq_false', Bool.not_true, Bool.not_false, Bool.and_eq_true, Bool.or_eq_true, bne_iff_ne, beq_iff_eq, ne_eq]); (try simp only [rng, lo, hi, mnI, mxI, Int.toNat_natCast, Sg.n, Nat.mul_one, Nat.zero_add, Nat.add_zero, Nat.reduceAdd, List.getD_cons_zero, List.getD_cons_succ, w1, w3]))
    ((repeat' (first | (with_reducible apply And.intro) | intro _)); all_goals (first | exact trivial | (with_reducible assumption) | (show (_ : List Blk) = _; rfl) | (first | exact trivial | (with_reducible assumption) | omega | (split <;> omega) | (split <;> split <;> omega)) | skip); all_goals (try (refine ⟨rfl, (by first | exact Nat.le_refl _ | exact Nat.le_of_ble_eq_true rfl), rfl, rfl, ?_, (by repeat' (first | exact trivial | rfl | apply And.intro)), rfl, rfl⟩)))
    all_goals (first | contradiction | exact sameA_refl _ | trace_state)

/-- Own lists that are the same. -/
def eqOOS : Fun
  | [.ow 0 n .i64 2, .ow 1 m .i64 2], [.l .i64 xs, .l .i64 ys] => some (.d true, [.l .i64 xs, .l .i64 ys], [xs = ys ∧ n = xs.length ∧ m = xs.length ∧ n ≤ 1073741824])
  | _, _ => .none
set_option maxRecDepth 100000 in
theorem s_eqOO : Sound Try.prog 21 eqOOS := by
  intro args M r M' vs h hvs
  unfold eqOOS at h
  split at h
  case h_2 => cases h
  rename_i n m xs ys
  cases h
  refine SpecOK.assume fun hA hM => ?_
  have htb := (TbOk.nil : TbOk Try.prog tb0)
  refine SpecOK.of_goes [0, 1] Try.func21 rfl ?_
  obtain ⟨⟨rfl, rfl, rfl, hl⟩, -⟩ := hvs
  clear hA hM
  refine Goes.tree Γ_ok htb 1000 false false Try.func21 rfl ?_
  ((try simp only [decide_eq_true_eq, decide_eq_false_iff_not, Bool.not_eq_true', Bool.not_eq_false', Bool.not_true, Bool.not_false, Bool.and_eq_true, Bool.or_eq_true, bne_iff_ne, beq_iff_eq, ne_eq]); (try simp only [rng, lo, hi, mnI, mxI, Int.toNat_natCast, Sg.n, Nat.mul_one, Nat.zero_add, Nat.add_zero, Nat.reduceAdd, List.getD_cons_zero, List.getD_cons_succ]))
  ((repeat' (first | (with_reducible apply And.intro) | intro _)); all_goals (first | exact trivial | (with_reducible assumption) | (show (_ : List Blk) = _; rfl) | (first | exact trivial | (with_reducible assumption) | omega | (split <;> omega) | (split <;> split <;> omega)) | skip); all_goals (try (refine ⟨rfl, (by first | exact Nat.le_refl _ | exact Nat.le_of_ble_eq_true rfl), rfl, rfl, ?_, (by repeat' (first | exact trivial | rfl | apply And.intro)), rfl, rfl⟩)))
  all_goals (try (first | contradiction | exact absurd trivial (by assumption)))
  refine ⟨?_⟩
  refine Goes.loopR (fun i : Nat => xs.length - i) (fun i => i ≤ xs.length) (fun i => (.ow 0 xs.length .i64 2 :: .ow 1 xs.length .i64 2 :: .any :: .any :: .any :: .i .i64 (i:Int) :: .any :: .any :: .any :: .any :: .any :: .any :: .any :: .any :: .any :: .any :: .any :: .any :: .any :: .any :: .any :: .any :: .any :: .any :: .any :: .any :: [])) (fun i => [.l .i64 xs, .l .i64 xs]) 0 [0, 1] (by omega) ⟨rfl, rfl, rfl, (by repeat' (first | exact trivial | rfl | apply And.intro)), (by repeat' (first | exact trivial | rfl | apply And.intro)), rfl, rfl, rfl⟩ fun i hle ih => ?_
  by_cases hlt : i < xs.length
  · refine Goes.tree Γ_ok htb 1000 false false Try.func21 rfl ?_
    ((try simp only [decide_eq_true_eq, decide_eq_false_iff_not, Bool.not_eq_true', Bool.not_eq_false', Bool.not_true, Bool.not_false, Bool.and_eq_true, Bool.or_eq_true, bne_iff_ne, beq_iff_eq, ne_eq]); (try simp only [rng, lo, hi, mnI, mxI, Int.toNat_natCast, Sg.n, Nat.mul_one, Nat.zero_add, Nat.add_zero, Nat.reduceAdd, List.getD_cons_zero, List.getD_cons_succ]))
    ((repeat' (first | (with_reducible apply And.intro) | intro _)); all_goals (first | exact trivial | (with_reducible assumption) | (show (_ : List Blk) = _; rfl) | (first | exact trivial | (with_reducible assumption) | omega | (split <;> omega) | (split <;> split <;> omega)) | skip); all_goals (try (refine ⟨rfl, (by first | exact Nat.le_refl _ | exact Nat.le_of_ble_eq_true rfl), rfl, rfl, ?_, (by repeat' (first | exact trivial | rfl | apply And.intro)), rfl, rfl⟩)))
    all_goals (first | exact ⟨ih (i + 1) (by omega) (by omega) [0, 1] _ _ ⟨rfl, rfl, rfl, (by repeat' (first | exact trivial | rfl | apply And.intro)), (by repeat' (first | exact trivial | rfl | apply And.intro)), rfl, rfl, rfl⟩⟩ | contradiction | exact absurd trivial (by assumption) | trace_state)
  · obtain rfl : i = xs.length := by omega
    clear ih
    refine Goes.tree Γ_ok htb 1000 false false Try.func21 rfl ?_
    ((try simp only [decide_eq_true_eq, decide_eq_false_iff_not, Bool.not_eq_true', Bool.not_eq_false', Bool.not_true, Bool.not_false, Bool.and_eq_true, Bool.or_eq_true, bne_iff_ne, beq_iff_eq, ne_eq]); (try simp only [rng, lo, hi, mnI, mxI, Int.toNat_natCast, Sg.n, Nat.mul_one, Nat.zero_add, Nat.add_zero, Nat.reduceAdd, List.getD_cons_zero, List.getD_cons_succ]))
    ((repeat' (first | (with_reducible apply And.intro) | intro _)); all_goals (first | exact trivial | (with_reducible assumption) | (show (_ : List Blk) = _; rfl) | (first | exact trivial | (with_reducible assumption) | omega | (split <;> omega) | (split <;> split <;> omega)) | skip); all_goals (try (refine ⟨rfl, (by first | exact Nat.le_refl _ | exact Nat.le_of_ble_eq_true rfl), rfl, rfl, ?_, (by repeat' (first | exact trivial | rfl | apply And.intro)), rfl, rfl⟩)))
    all_goals (first | contradiction | exact sameA_refl _ | trace_state)
def eqNOS : Fun
  | [.nsl, .ow 0 0 .i64 2], [.l .i64 []] => some (.d true, [.l .i64 []], [])
  | _, _ => .none
set_option maxRecDepth 100000 in
theorem s_eqNO : Sound Try.prog 21 eqNOS := by
  intro args M r M' vs h hvs
  unfold eqNOS at h
  split at h
  case h_2 => cases h
  cases h
  refine SpecOK.assume fun hA hM => ?_
  have htb := (TbOk.nil : TbOk Try.prog tb0)
  refine SpecOK.of_goes [0] Try.func21 rfl ?_
  clear hA hM
  refine Goes.tree Γ_ok htb 1000 false false Try.func21 rfl ?_
  ((try simp only [decide_eq_true_eq, decide_eq_false_iff_not, Bool.not_eq_true', Bool.not_eq_false', Bool.not_true, Bool.not_false, Bool.and_eq_true, Bool.or_eq_true, bne_iff_ne, beq_iff_eq, ne_eq]); (try simp only [rng, lo, hi, mnI, mxI, Int.toNat_natCast, Sg.n, Nat.mul_one, Nat.zero_add, Nat.add_zero, Nat.reduceAdd, List.getD_cons_zero, List.getD_cons_succ]))
  ((repeat' (first | (with_reducible apply And.intro) | intro _)); all_goals (first | exact trivial | (with_reducible assumption) | (show (_ : List Blk) = _; rfl) | (first | exact trivial | (with_reducible assumption) | omega | (split <;> omega) | (split <;> split <;> omega)) | skip); all_goals (try (refine ⟨rfl, (by first | exact Nat.le_refl _ | exact Nat.le_of_ble_eq_true rfl), rfl, rfl, ?_, (by repeat' (first | exact trivial | rfl | apply And.intro)), rfl, rfl⟩)))
  all_goals (try (first | contradiction | exact absurd trivial (by assumption)))
  refine ⟨?_⟩
  refine Goes.tree Γ_ok htb 1000 false false Try.func21 rfl ?_
  ((try simp only [decide_eq_true_eq, decide_eq_false_iff_not, Bool.not_eq_true', Bool.not_eq_false', Bool.not_true, Bool.not_false, Bool.and_eq_true, Bool.or_eq_true, bne_iff_ne, beq_iff_eq, ne_eq]); (try simp only [rng, lo, hi, mnI, mxI, Int.toNat_natCast, Sg.n, Nat.mul_one, Nat.zero_add, Nat.add_zero, Nat.reduceAdd, List.getD_cons_zero, List.getD_cons_succ]))
  ((repeat' (first | (with_reducible apply And.intro) | intro _)); all_goals (first | exact trivial | (with_reducible assumption) | (show (_ : List Blk) = _; rfl) | (first | exact trivial | (with_reducible assumption) | omega | (split <;> omega) | (split <;> split <;> omega)) | skip); all_goals (try (refine ⟨rfl, (by first | exact Nat.le_refl _ | exact Nat.le_of_ble_eq_true rfl), rfl, rfl, ?_, (by repeat' (first | exact trivial | rfl | apply And.intro)), rfl, rfl⟩)))
  all_goals (first | contradiction | exact sameA_refl _ | exact absurd trivial (by assumption) | trace_state)
theorem s_eqErr : Sound Try.prog 21 (orS eqOOS eqNOS) := or_sound s_eqOO s_eqNO
set_option maxRecDepth 100000 in
theorem s_markNI : Sound Try.prog 24 nilK := by
  intro args M r M' vs h hvs
  unfold nilK at h
  split at h
  case h_2 => cases h
  rename_i k
  cases h
  refine SpecOK.assume fun hA hM => ?_
  have htb := (TbOk.nil : TbOk Try.prog tb0)
  refine SpecOK.of_goes [] Try.func24 rfl ?_
  clear hA hM
  refine Goes.tree Γ_ok htb 1000 false false Try.func24 rfl ?_
  refine ⟨?_⟩
  refine Goes.tree Γ_ok htb 1000 false false Try.func24 rfl ?_
  ((try simp only [decide_eq_true_eq, decide_eq_false_iff_not, Bool.not_eq_true', Bool.not_eq_false', Bool.not_true, Bool.not_false, Bool.and_eq_true, Bool.or_eq_true, bne_iff_ne, beq_iff_eq, ne_eq]); (try simp only [rng, lo, hi, mnI, mxI, Int.toNat_natCast, Sg.n, Nat.mul_one, Nat.zero_add, Nat.add_zero, Nat.reduceAdd, List.getD_cons_zero, List.getD_cons_succ]))
  ((repeat' (first | (with_reducible apply And.intro) | intro _)); all_goals (first | exact trivial | (with_reducible assumption) | (show (_ : List Blk) = _; rfl) | (first | exact trivial | (with_reducible assumption) | omega | (split <;> omega) | (split <;> split <;> omega)) | skip); all_goals (try (refine ⟨rfl, (by first | exact Nat.le_refl _ | exact Nat.le_of_ble_eq_true rfl), rfl, rfl, ?_, (by repeat' (first | exact trivial | rfl | apply And.intro)), rfl, rfl⟩)))
  all_goals (first | contradiction | exact sameA_refl _ | exact absurd trivial (by assumption))
set_option maxRecDepth 100000 in
theorem s_heldNI : Sound Try.prog 25 nilK := by
  intro args M r M' vs h hvs
  unfold nilK at h
  split at h
  case h_2 => cases h
  rename_i k
  cases h
  refine SpecOK.assume fun hA hM => ?_
  have htb := (TbOk.nil : TbOk Try.prog tb0)
  refine SpecOK.of_goes [] Try.func25 rfl ?_
  clear hA hM
  refine Goes.tree Γ_ok htb 1000 false false Try.func25 rfl ?_
  refine ⟨?_⟩
  refine Goes.tree Γ_ok htb 1000 false false Try.func25 rfl ?_
  ((try simp only [decide_eq_true_eq, decide_eq_false_iff_not, Bool.not_eq_true', Bool.not_eq_false', Bool.not_true, Bool.not_false, Bool.and_eq_true, Bool.or_eq_true, bne_iff_ne, beq_iff_eq, ne_eq]); (try simp only [rng, lo, hi, mnI, mxI, Int.toNat_natCast, Sg.n, Nat.mul_one, Nat.zero_add, Nat.add_zero, Nat.reduceAdd, List.getD_cons_zero, List.getD_cons_succ]))
  ((repeat' (first | (with_reducible apply And.intro) | intro _)); all_goals (first | exact trivial | (with_reducible assumption) | (show (_ : List Blk) = _; rfl) | (first | exact trivial | (with_reducible assumption) | omega | (split <;> omega) | (split <;> split <;> omega)) | skip); all_goals (try (refine ⟨rfl, (by first | exact Nat.le_refl _ | exact Nat.le_of_ble_eq_true rfl), rfl, rfl, ?_, (by repeat' (first | exact trivial | rfl | apply And.intro)), rfl, rfl⟩)))
  all_goals (first | contradiction | exact sameA_refl _ | exact absurd trivial (by assumption))
theorem s_markErr : Sound Try.prog 24 (orS markIS nilK) := or_sound s_markI s_markNI

def toIOS : Fun
  | [.fs .i64 xs], [] => some (.ow 0 xs.length .i64 2, [.l .i64 xs], [xs.length ≤ 1073741824])
  | _, _ => .none
set_option maxRecDepth 100000 in
theorem s_toIO : Sound Try.prog 19 toIOS := by
  intro args M r M' vs h hvs
  unfold toIOS at h
  split at h
  case h_2 => cases h
  rename_i xs
  cases h
  refine SpecOK.assume fun hA hM => ?_
  have htb := (TbOk.nil : TbOk Try.prog tb0)
  refine SpecOK.of_goes [0] Try.func19 rfl ?_
  obtain ⟨hl, -⟩ := hvs
  have hro : RowsOk .i64 xs := hA.2.1
  clear hA hM
  refine Goes.tree Γ_ok htb 1000 false false Try.func19 rfl ?_
  ((try simp only [decide_eq_true_eq, decide_eq_false_iff_not, Bool.not_eq_true', Bool.not_eq_false', Bool.not_true, Bool.not_false, Bool.and_eq_true, Bool.or_eq_true, bne_iff_ne, beq_iff_eq, ne_eq]); (try simp only [rng, lo, hi, mnI, mxI, Int.toNat_natCast, Sg.n, Nat.mul_one, Nat.zero_add, Nat.add_zero, Nat.reduceAdd, List.getD_cons_zero, List.getD_cons_succ]))
  ((repeat' (first | (with_reducible apply And.intro) | intro _)); all_goals (first | exact trivial | (with_reducible assumption) | (show (_ : List Blk) = _; rfl) | (first | exact trivial | (with_reducible assumption) | omega | (split <;> omega) | (split <;> split <;> omega)) | skip); all_goals (try (refine ⟨rfl, (by first | exact Nat.le_refl _ | exact Nat.le_of_ble_eq_true rfl), rfl, rfl, ?_, (by repeat' (first | exact trivial | rfl | apply And.intro)), rfl, rfl⟩)))
  refine ⟨?_⟩
  refine Goes.loopR (fun i : Nat => xs.length - i) (fun i => i ≤ xs.length) (fun i => (.fs .i64 xs :: .any :: .any :: .ow 0 xs.length .i64 2 :: .i .i64 (i:Int) :: .any :: .any :: .any :: .any :: .any :: .any :: .any :: .any :: .any :: .any :: .any :: .any :: .any :: .any :: .any :: .any :: .any :: [])) (fun i => [.l .i64 (cpR xs (List.replicate xs.length (List.replicate Sg.i64.n 0)) i)]) 0 [0] (by omega) ⟨rfl, rfl, rfl, (by repeat' (first | exact trivial | rfl | apply And.intro)), (by repeat' (first | exact trivial | rfl | apply And.intro)), rfl, rfl, rfl⟩ fun i hle ih => ?_
  have hcl := cpR_len xs (List.replicate xs.length (List.replicate Sg.i64.n 0)) i
  rw [List.length_replicate] at hcl
  by_cases hlt : i < xs.length
  · have e1 : (cpR xs (List.replicate xs.length (List.replicate Sg.i64.n 0)) i).set i (((cpR xs (List.replicate xs.length (List.replicate Sg.i64.n 0)) i).getD i []).set 0 ((xs.getD i []).getD 0 0)) = cpR xs (List.replicate xs.length (List.replicate Sg.i64.n 0)) (i + 1) := by
      rw [set_one _ (hro _ (getD_memI (by omega))).1]
      · rfl
      · rw [cpR_late _ _ _ _ (Nat.le_refl _), List.getD_eq_getElem?_getD, List.getElem?_replicate, if_pos (by omega)]; rfl
    refine Goes.tree Γ_ok htb 1000 false false Try.func19 rfl ?_
    ((try simp only [decide_eq_true_eq, decide_eq_false_iff_not, Bool.not_eq_true', Bool.not_eq_false', Bool.not_true, Bool.not_false, Bool.and_eq_true, Bool.or_eq_true, bne_iff_ne, beq_iff_eq, ne_eq]); (try simp only [rng, lo, hi, mnI, mxI, Int.toNat_natCast, Sg.n, Nat.mul_one, Nat.zero_add, Nat.add_zero, Nat.reduceAdd, List.getD_cons_zero, List.getD_cons_succ]))
    ((repeat' (first | (with_reducible apply And.intro) | intro _)); all_goals (first | exact trivial | (with_reducible assumption) | (show (_ : List Blk) = _; rfl) | (first | exact trivial | (with_reducible assumption) | omega | (split <;> omega) | (split <;> split <;> omega)) | skip); all_goals (try (refine ⟨rfl, (by first | exact Nat.le_refl _ | exact Nat.le_of_ble_eq_true rfl), rfl, rfl, ?_, (by repeat' (first | exact trivial | rfl | apply And.intro)), rfl, rfl⟩)))
    refine ⟨ih (i + 1) (by omega) (by omega) [0] _ _ ?_⟩
    rw [← e1]
    exact ⟨rfl, rfl, rfl, (by repeat' (first | exact trivial | rfl | apply And.intro)), (by repeat' (first | exact trivial | rfl | apply And.intro)), rfl, rfl, rfl⟩
  · obtain rfl : i = xs.length := by omega
    clear ih
    have e := cpR_all xs (List.replicate xs.length (List.replicate Sg.i64.n 0)) (by rw [List.length_replicate])
    rw [e]
    refine Goes.tree Γ_ok htb 1000 false false Try.func19 rfl ?_
    ((try simp only [decide_eq_true_eq, decide_eq_false_iff_not, Bool.not_eq_true', Bool.not_eq_false', Bool.not_true, Bool.not_false, Bool.and_eq_true, Bool.or_eq_true, bne_iff_ne, beq_iff_eq, ne_eq]); (try simp only [rng, lo, hi, mnI, mxI, Int.toNat_natCast, Sg.n, Nat.mul_one, Nat.zero_add, Nat.add_zero, Nat.reduceAdd, List.getD_cons_zero, List.getD_cons_succ]))
    ((repeat' (first | (with_reducible apply And.intro) | intro _)); all_goals (first | exact trivial | (with_reducible assumption) | (show (_ : List Blk) = _; rfl) | (first | exact trivial | (with_reducible assumption) | omega | (split <;> omega) | (split <;> split <;> omega)) | skip); all_goals (try (refine ⟨rfl, (by first | exact Nat.le_refl _ | exact Nat.le_of_ble_eq_true rfl), rfl, rfl, ?_, (by repeat' (first | exact trivial | rfl | apply And.intro)), rfl, rfl⟩)))
    all_goals (first | contradiction | exact sameA_refl _ | trace_state)
end Go.Proofs.Ytgogccconmlkiaa
