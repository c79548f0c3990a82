/- The laws' marks of hurdles. -/
import Derived.Test.YtjbgjgkogmlpfaaGreatMarks
namespace Go.Proofs.YtjbgjgkogmlpfaaGreat
open Go Go.Eng
set_option linter.unusedSimpArgs false
set_option linter.unusedVariables false
set_option maxRecDepth 100000
set_option maxHeartbeats 4000000

def mkHur (k : Int) : List Int := [IntKind.i8.wrap k, IntKind.i8.wrap (k + 1), if (k + 1 + 1).tmod 3 = 0 then 1 else 0]
/-- n marked hurdles. -/
def mkH (k : Int) : Nat → List (List Int)
  | 0 => []
  | n + 1 => mkH k n ++ [mkHur (k + 3 * n)]
theorem mkH_len (k : Int) : ∀ i, (mkH k i).length = i
  | 0 => rfl
  | i + 1 => by simp [mkH, mkH_len k i]
theorem mkH_get (k : Int) : ∀ n i, i < n → (mkH k n).getD i [] = mkHur (k + 3 * i) := by
  intro n
  induction n with
  | zero => intro i h; omega
  | succ n ih =>
    intro i h
    rw [mkH, List.getD_eq_getElem?_getD]
    by_cases hi : i < n
    · rw [List.getElem?_append_left (by rw [mkH_len]; exact hi), ← List.getD_eq_getElem?_getD]; exact ih i hi
    · obtain rfl : i = n := by omega
      rw [List.getElem?_append_right (by rw [mkH_len]; exact Nat.le_refl _), mkH_len, Nat.sub_self]; rfl
theorem mkh_app {k : Int} {i : Nat} {rows : List (List Int)} (x : List Int) (hi : i < rows.length) : (mkH k i ++ rows.drop i).set i x = (mkH k i ++ [x]) ++ rows.drop (i + 1) := by
  rw [List.set_append_right _ _ (by rw [mkH_len]; exact Nat.le_refl _), mkH_len, Nat.sub_self, List.drop_eq_getElem_cons hi, List.set_cons_zero, List.append_assoc]; rfl
theorem mkh_get {k : Int} {i : Nat} {rows : List (List Int)} (hi : i < rows.length) : (mkH k i ++ rows.drop i).getD i [] = rows[i] := by
  rw [List.getD_eq_getElem?_getD, List.getElem?_append_right (by rw [mkH_len]; exact Nat.le_refl _), mkH_len, Nat.sub_self, List.drop_eq_getElem_cons hi]; rfl
theorem set_row3 {A : List (List Int)} {i : Nat} (hi : i < A.length) {r : List Int} (hr : A.getD i [] = r) (hl : r.length = 3) (u v w : Int) :
    ((A.set i ((A.getD i []).set 0 u)).set i (((A.set i ((A.getD i []).set 0 u)).getD i []).set 1 v)).set i ((((A.set i ((A.getD i []).set 0 u)).set i (((A.set i ((A.getD i []).set 0 u)).getD i []).set 1 v)).getD i []).set 2 w) = A.set i [u, v, w] := by
  have e : ∀ x, (A.set i x).getD i [] = x := fun x => by rw [List.getD_eq_getElem?_getD, List.getElem?_set_self hi]; rfl
  have e2 : ∀ (B : List (List Int)) x, B.length = A.length → (B.set i x).getD i [] = x := fun B x hB => by rw [List.getD_eq_getElem?_getD, List.getElem?_set_self (by omega)]; rfl
  rw [e, e2 _ _ (by simp), List.set_set, List.set_set, hr]
  obtain ⟨a, b, c, rfl⟩ := len3 hl
  rfl

def markHS : Fun
  | [.ow 0 n .hur 62, .i .i64 k], [.l .hur rows] => some (.i .i64 (k + 3 * n), [.l .hur (mkH k n)], [n = rows.length ∧ n ≤ 1000000 ∧ 0 ≤ k ∧ k ≤ 1000000])
  | _, _ => .none
set_option maxRecDepth 100000 in
theorem s_markHurdleS : Sound Tryz.prog 12 markHS := by
  intro args M r M' vs h hvs
  unfold markHS at h
  split at h
  case h_2 => cases h
  rename_i n k rows
  cases h
  refine SpecOK.assume fun hA hM => ?_
  have htb := (TbOk.nil : TbOk Tryz.prog tb0)
  refine SpecOK.of_goes [0] Tryz.func12 rfl ?_
  obtain ⟨⟨rfl, hl, hk0, hk1⟩, -⟩ := hvs
  have hr : RowsOk .hur rows := hM.1
  clear hA hM
  refine Goes.tree Γ_ok htb 1000 false true Tryz.func12 rfl ?_
  refine ⟨?_⟩
  refine Goes.loopR (fun i : Nat => rows.length - i) (fun i => i ≤ rows.length) (fun i => (.ow 0 rows.length .hur 62 :: .i .i64 (k + 3 * (i:Int)) :: .any :: .any :: .any :: .i .i64 (i:Int) :: .any :: .any :: .any :: .any :: .any :: .any :: .any :: .any :: .any :: .any :: .any :: .any :: .any :: .any :: .any :: .any :: .any :: .any :: .any :: .any :: .any :: .any :: .any :: .any :: .any :: .any :: .any :: .any :: .any :: .any :: .any :: .any :: .any :: .any :: [])) (fun i => [.l .hur (mkH k i ++ rows.drop i)]) 0 [0] (Nat.zero_le _) ⟨rfl, rfl, rfl, (by rw [Int.ofNat_zero, Int.mul_zero, Int.add_zero]; exact (by repeat' (first | exact trivial | rfl | apply And.intro))), (by repeat' (first | exact trivial | rfl | apply And.intro)), rfl, rfl, rfl⟩ fun i hle ih => ?_
  have w1 : IntKind.i64.wrap (k + 3 * (i:Int) + 1) = k + 3 * i + 1 := wrap_of_rng (by simp only [rng, lo, hi]; omega)
  have w2 : IntKind.i64.wrap (k + 3 * (i:Int) + 1 + 1) = k + 3 * i + 1 + 1 := wrap_of_rng (by simp only [rng, lo, hi]; omega)
  have w4 : IntKind.i64.wrap (k + 3 * (i:Int) + 1 + 1 + 1) = k + 3 * i + 1 + 1 + 1 := wrap_of_rng (by simp only [rng, lo, hi]; omega)
  have w3 : IntKind.i64.wrap ((i:Int) + 1) = i + 1 := wrap_of_rng (by simp only [rng, lo, hi]; omega)
  have ht : 0 ≤ (k + 3 * (i:Int) + 1 + 1).tmod 3 ∧ (k + 3 * (i:Int) + 1 + 1).tmod 3 ≤ 2 := by rw [Int.tmod_eq_emod_of_nonneg (by omega)]; omega
  by_cases hlt : i < rows.length
  · refine Goes.tree Γ_ok htb 1000 false true Tryz.func12 rfl ?_
    ((try simp only [decide_eq_true_eq, decide_eq_false_iff_not, Bool.not_eq_true', Bool.not_eq_false', Bool.not_true, Bool.not_false, Bool.and_eq_true, Bool.or_eq_true, bne_iff_ne, beq_iff_eq, ne_eq]); (try simp only [rng, lo, hi, mnI, mxI, Int.toNat_natCast, Sg.n, Nat.mul_one, Nat.zero_add, Nat.add_zero, Nat.reduceAdd, List.getD_cons_zero, List.getD_cons_succ, w1, w2, w3, w4]))
    ((repeat' (first | (with_reducible apply And.intro) | intro _)); all_goals (first | exact trivial | (with_reducible assumption) | (show (_ : List Blk) = _; rfl) | (first | exact trivial | (with_reducible assumption) | omega | (split <;> omega) | (split <;> split <;> omega)) | skip); all_goals (try (refine ⟨rfl, (by first | exact Nat.le_refl _ | exact Nat.le_of_ble_eq_true rfl), rfl, rfl, ?_, (by repeat' (first | exact trivial | rfl | apply And.intro)), rfl, rfl⟩)))
    all_goals (try omega)
    have hlen : (mkH k i ++ rows.drop i).length = rows.length := by rw [List.length_append, mkH_len, List.length_drop]; omega
    have hrow : ((mkH k i ++ rows.drop i).getD i []).length = 3 := by rw [mkh_get hlt]; exact (hr _ (List.getElem_mem hlt)).1
    refine ⟨ih (i + 1) (by omega) (by omega) [0] _ _ ?_⟩
    rw [set_row3 (by rw [hlen]; exact hlt) rfl hrow, mkh_app _ hlt]
    refine ⟨rfl, rfl, rfl, ?_, (by repeat' (first | exact trivial | rfl | apply And.intro)), rfl, rfl, rfl⟩
    have e : k + 3 * ((i + 1 : Nat) : Int) = k + 3 * i + 1 + 1 + 1 := by omega
    rw [e]
    exact (by repeat' (first | exact trivial | rfl | apply And.intro))
  · obtain rfl : i = rows.length := by omega
    clear ih
    rw [List.drop_length, List.append_nil]
    refine Goes.tree Γ_ok htb 1000 false true Tryz.func12 rfl ?_
    ((try simp only [decide_eq_true_eq, decide_eq_false_iff_not, Bool.not_eq_true', Bool.not_eq_false', Bool.not_true, Bool.not_false, Bool.and_eq_true, Bool.or_eq_true, bne_iff_ne, beq_iff_eq, ne_eq]); (try simp only [rng, lo, hi, mnI, mxI, Int.toNat_natCast, Sg.n, Nat.mul_one, Nat.zero_add, Nat.add_zero, Nat.reduceAdd, List.getD_cons_zero, List.getD_cons_succ, w1, w2, w3]))
    ((repeat' (first | (with_reducible apply And.intro) | intro _)); all_goals (first | exact trivial | (with_reducible assumption) | (show (_ : List Blk) = _; rfl) | (first | exact trivial | (with_reducible assumption) | omega | (split <;> omega) | (split <;> split <;> omega)) | skip); all_goals (try (refine ⟨rfl, (by first | exact Nat.le_refl _ | exact Nat.le_of_ble_eq_true rfl), rfl, rfl, ?_, (by repeat' (first | exact trivial | rfl | apply And.intro)), rfl, rfl⟩)))
    all_goals (first | contradiction | exact sameA_refl _ | trace_state)

def heldHS : Fun
  | [.ow 0 n .hur 62, .i .i64 k], [.l .hur rows] => some (.i .i64 (k + 3 * n), [.l .hur rows], [rows = mkH k n ∧ n ≤ 1000000 ∧ 0 ≤ k ∧ k ≤ 1000000])
  | _, _ => .none
theorem bool_same (c : Prop) [Decidable c] : (((if c then (1 : Int) else 0) != 0) == decide c) = true := by
  by_cases h : c <;> simp [h]
set_option maxRecDepth 100000 in
theorem s_heldHurdleS : Sound Tryz.prog 13 heldHS := by
  intro args M r M' vs h hvs
  unfold heldHS at h
  split at h
  case h_2 => cases h
  rename_i n k rows
  cases h
  refine SpecOK.assume fun hA hM => ?_
  have htb := (TbOk.nil : TbOk Tryz.prog tb0)
  refine SpecOK.of_goes [0] Tryz.func13 rfl ?_
  obtain ⟨⟨rfl, hl, hk0, hk1⟩, -⟩ := hvs
  clear hA hM
  refine Goes.tree Γ_ok htb 1000 false true Tryz.func13 rfl ?_
  refine ⟨?_⟩
  refine Goes.loopR (fun i : Nat => n - i) (fun i => i ≤ n) (fun i => (.ow 0 n .hur 62 :: .i .i64 (k + 3 * (i:Int)) :: .any :: .any :: .any :: .i .i64 (i:Int) :: .any :: .any :: .any :: .any :: .any :: .any :: .any :: .any :: .any :: .any :: .any :: .any :: .any :: .any :: .any :: .any :: .any :: .any :: .any :: .any :: .any :: .any :: .any :: .any :: .any :: .any :: .any :: .any :: .any :: .any :: .any :: .any :: .any :: .any :: .any :: .any :: .any :: .any :: .any :: .any :: [])) (fun i => [.l .hur (mkH k n)]) 0 [0] (Nat.zero_le _) ⟨rfl, rfl, rfl, (by rw [Int.ofNat_zero, Int.mul_zero, Int.add_zero]; exact (by repeat' (first | exact trivial | rfl | apply And.intro))), (by repeat' (first | exact trivial | rfl | apply And.intro)), rfl, rfl, rfl⟩ fun i hle ih => ?_
  have w1 : IntKind.i64.wrap (k + 3 * (i:Int) + 1) = k + 3 * i + 1 := wrap_of_rng (by simp only [rng, lo, hi]; omega)
  have w2 : IntKind.i64.wrap (k + 3 * (i:Int) + 1 + 1) = k + 3 * i + 1 + 1 := wrap_of_rng (by simp only [rng, lo, hi]; omega)
  have w4 : IntKind.i64.wrap (k + 3 * (i:Int) + 1 + 1 + 1) = k + 3 * i + 1 + 1 + 1 := wrap_of_rng (by simp only [rng, lo, hi]; omega)
  have w3 : IntKind.i64.wrap ((i:Int) + 1) = i + 1 := wrap_of_rng (by simp only [rng, lo, hi]; omega)
  have ht : 0 ≤ (k + 3 * (i:Int) + 1 + 1).tmod 3 ∧ (k + 3 * (i:Int) + 1 + 1).tmod 3 ≤ 2 := by rw [Int.tmod_eq_emod_of_nonneg (by omega)]; omega
  have hg : i < n → (mkH k n).getD i [] = [IntKind.i8.wrap (k + 3 * i), IntKind.i8.wrap (k + 3 * i + 1), if (k + 3 * (i:Int) + 1 + 1).tmod 3 = 0 then 1 else 0] := fun h => mkH_get k n i h
  by_cases hlt : i < n
  · have hg := hg hlt
    have hlen := mkH_len k n
    have hbs := bool_same ((k + 3 * (i:Int) + 1 + 1).tmod 3 = 0)
    refine Goes.tree Γ_ok htb 1000 false true Tryz.func13 rfl ?_
    ((try simp only [decide_eq_true_eq, decide_eq_false_iff_not, Bool.not_eq_true', Bool.not_eq_false', Bool.not_true, Bool.not_false, Bool.and_eq_true, Bool.or_eq_true, bne_iff_ne, beq_iff_eq, ne_eq]); (try simp only [rng, lo, hi, mnI, mxI, Int.toNat_natCast, Sg.n, Nat.mul_one, Nat.zero_add, Nat.add_zero, Nat.reduceAdd, List.getD_cons_zero, List.getD_cons_succ, w1, w2, w3, w4, hg]))
    ((repeat' (first | (with_reducible apply And.intro) | intro _)); all_goals (first | exact trivial | (with_reducible assumption) | (show (_ : List Blk) = _; rfl) | (first | exact trivial | (with_reducible assumption) | omega | (split <;> omega) | (split <;> split <;> omega)) | skip); all_goals (try (refine ⟨rfl, (by first | exact Nat.le_refl _ | exact Nat.le_of_ble_eq_true rfl), rfl, rfl, ?_, (by repeat' (first | exact trivial | rfl | apply And.intro)), rfl, rfl⟩)))
    all_goals (try omega)
    all_goals (try exact absurd trivial (by assumption))
    · rename_i hf
      rw [hbs] at hf; cases hf
    · refine ⟨ih (i + 1) (by omega) (by omega) [0] _ _ ?_⟩
      refine ⟨rfl, rfl, rfl, ?_, (by repeat' (first | exact trivial | rfl | apply And.intro)), rfl, rfl, rfl⟩
      have e : k + 3 * ((i + 1 : Nat) : Int) = k + 3 * i + 1 + 1 + 1 := by omega
      rw [e]
      exact (by repeat' (first | exact trivial | rfl | apply And.intro))
  · obtain rfl : i = n := by omega
    clear ih
    refine Goes.tree Γ_ok htb 1000 false true Tryz.func13 rfl ?_
    ((try simp only [decide_eq_true_eq, decide_eq_false_iff_not, Bool.not_eq_true', Bool.not_eq_false', Bool.not_true, Bool.not_false, Bool.and_eq_true, Bool.or_eq_true, bne_iff_ne, beq_iff_eq, ne_eq]); (try simp only [rng, lo, hi, mnI, mxI, Int.toNat_natCast, Sg.n, Nat.mul_one, Nat.zero_add, Nat.add_zero, Nat.reduceAdd, List.getD_cons_zero, List.getD_cons_succ, w1, w2, w3]))
    ((repeat' (first | (with_reducible apply And.intro) | intro _)); all_goals (first | exact trivial | (with_reducible assumption) | (show (_ : List Blk) = _; rfl) | (first | exact trivial | (with_reducible assumption) | omega | (split <;> omega) | (split <;> split <;> omega)) | skip); all_goals (try (refine ⟨rfl, (by first | exact Nat.le_refl _ | exact Nat.le_of_ble_eq_true rfl), rfl, rfl, ?_, (by repeat' (first | exact trivial | rfl | apply And.intro)), rfl, rfl⟩)))
    all_goals (first | contradiction | exact sameA_refl _)

def refHS : Fun
  | [.ow 0 n .hur 62, .fs .hur ys], [.l .hur rows] => some (.d true, [.l .hur rows], [rows = ys ∧ n = rows.length ∧ n ≤ 1073741824])
  | _, _ => .none
set_option maxRecDepth 100000 in
theorem s_eqHurdleO : Sound Tryz.prog 9 refHS := by
  intro args M r M' vs h hvs
  unfold refHS at h
  split at h
  case h_2 => cases h
  rename_i n ys rows
  cases h
  refine SpecOK.assume fun hA hM => ?_
  have htb := (TbOk.cons s_eqHurdle Tryz.func23 rfl rfl (TbOk.nil : TbOk Tryz.prog tb0))
  refine SpecOK.of_goes [0] Tryz.func9 rfl ?_
  obtain ⟨⟨rfl, rfl, hl⟩, -⟩ := hvs
  clear hA hM
  refine Goes.tree Γ_ok htb 1000 false false Tryz.func9 rfl ?_
  ((try simp only [decide_eq_true_eq, decide_eq_false_iff_not, Bool.not_eq_true', Bool.not_eq_false', Bool.not_true, Bool.not_false, Bool.and_eq_true, Bool.or_eq_true, bne_iff_ne, beq_iff_eq, ne_eq]); (try simp only [rng, lo, hi, mnI, mxI, Int.toNat_natCast, Sg.n, Nat.mul_one, Nat.zero_add, Nat.add_zero, Nat.reduceAdd, List.getD_cons_zero, List.getD_cons_succ]))
  ((repeat' (first | (with_reducible apply And.intro) | intro _)); all_goals (first | exact trivial | (with_reducible assumption) | (show (_ : List Blk) = _; rfl) | (first | exact trivial | (with_reducible assumption) | omega | (split <;> omega) | (split <;> split <;> omega)) | skip); all_goals (try (refine ⟨rfl, (by first | exact Nat.le_refl _ | exact Nat.le_of_ble_eq_true rfl), rfl, rfl, ?_, (by repeat' (first | exact trivial | rfl | apply And.intro)), rfl, rfl⟩)))
  · exact absurd trivial (by assumption)
  refine ⟨?_⟩
  refine Goes.loopR (fun i : Nat => rows.length - i) (fun i => i ≤ rows.length) (fun i => (.ow 0 rows.length .hur 62 :: .fs .hur rows :: .any :: .any :: .any :: .i .i64 (i:Int) :: .any :: .any :: .any :: .any :: .any :: .any :: .any :: .any :: .any :: .any :: .any :: .any :: .any :: .any :: .any :: .any :: .any :: .any :: .any :: .any :: .any :: [])) (fun i => [.l .hur rows]) 0 [0] (Nat.zero_le _) ⟨rfl, rfl, rfl, (by repeat' (first | exact trivial | rfl | apply And.intro)), (by repeat' (first | exact trivial | rfl | apply And.intro)), rfl, rfl, rfl⟩ fun i hle ih => ?_
  refine Goes.tree Γ_ok htb 1000 false false Tryz.func9 rfl ?_
  ((try simp only [decide_eq_true_eq, decide_eq_false_iff_not, Bool.not_eq_true', Bool.not_eq_false', Bool.not_true, Bool.not_false, Bool.and_eq_true, Bool.or_eq_true, bne_iff_ne, beq_iff_eq, ne_eq]); (try simp only [rng, lo, hi, mnI, mxI, Int.toNat_natCast, Sg.n, Nat.mul_one, Nat.zero_add, Nat.add_zero, Nat.reduceAdd, List.getD_cons_zero, List.getD_cons_succ]))
  ((repeat' (first | (with_reducible apply And.intro) | intro _)); all_goals (first | exact trivial | (with_reducible assumption) | (show (_ : List Blk) = _; rfl) | (first | exact trivial | (with_reducible assumption) | omega | (split <;> omega) | (split <;> split <;> omega)) | skip); all_goals (try (refine ⟨rfl, (by first | exact Nat.le_refl _ | exact Nat.le_of_ble_eq_true rfl), rfl, rfl, ?_, (by repeat' (first | exact trivial | rfl | apply And.intro)), rfl, rfl⟩)))
  · exact ⟨ih (i + 1) (by omega) (by omega) [0] _ _ ⟨rfl, rfl, rfl, (by repeat' (first | exact trivial | rfl | apply And.intro)), (by repeat' (first | exact trivial | rfl | apply And.intro)), rfl, rfl, rfl⟩⟩
  · exact sameA_refl _
set_option maxRecDepth 100000 in
theorem s_eqHurdleS : Sound Tryz.prog 9 (refLS .hur) := by
  intro args M r M' vs h hvs
  obtain ⟨xs, rfl, rfl, rfl, rfl, hl⟩ := refLS_inv h hvs
  refine SpecOK.assume fun hA hM => ?_
  have htb := (TbOk.cons s_eqHurdle Tryz.func23 rfl rfl (TbOk.nil : TbOk Tryz.prog tb0))
  refine SpecOK.of_goes [] Tryz.func9 rfl ?_
  clear hA hM
  refine Goes.tree Γ_ok htb 1000 false false Tryz.func9 rfl ?_
  ((try simp only [decide_eq_true_eq, decide_eq_false_iff_not, Bool.not_eq_true', Bool.not_eq_false', Bool.not_true, Bool.not_false, Bool.and_eq_true, Bool.or_eq_true, bne_iff_ne, beq_iff_eq, ne_eq]); (try simp only [rng, lo, hi, mnI, mxI, Int.toNat_natCast, Sg.n, Nat.mul_one, Nat.zero_add, Nat.add_zero, Nat.reduceAdd, List.getD_cons_zero, List.getD_cons_succ]))
  ((repeat' (first | (with_reducible apply And.intro) | intro _)); all_goals (first | exact trivial | (with_reducible assumption) | (show (_ : List Blk) = _; rfl) | (first | exact trivial | (with_reducible assumption) | omega | (split <;> omega) | (split <;> split <;> omega)) | skip); all_goals (try (refine ⟨rfl, (by first | exact Nat.le_refl _ | exact Nat.le_of_ble_eq_true rfl), rfl, rfl, ?_, (by repeat' (first | exact trivial | rfl | apply And.intro)), rfl, rfl⟩)))
  · contradiction
  refine ⟨?_⟩
  refine Goes.loopR (fun i : Nat => xs.length - i) (fun i => i ≤ xs.length) (fun i => (.fs .hur xs :: .fs .hur xs :: .any :: .any :: .any :: .i .i64 (i:Int) :: .any :: .any :: .any :: .any :: .any :: .any :: .any :: .any :: .any :: .any :: .any :: .any :: .any :: .any :: .any :: .any :: .any :: .any :: .any :: .any :: .any :: [])) (fun i => []) 0 [] (by omega) ⟨rfl, rfl, rfl, (by repeat' (first | exact trivial | rfl | apply And.intro)), (by repeat' (first | exact trivial | rfl | apply And.intro)), rfl, rfl, rfl⟩ fun i hle ih => ?_
  refine Goes.tree Γ_ok htb 1000 false false Tryz.func9 rfl ?_
  ((try simp only [decide_eq_true_eq, decide_eq_false_iff_not, Bool.not_eq_true', Bool.not_eq_false', Bool.not_true, Bool.not_false, Bool.and_eq_true, Bool.or_eq_true, bne_iff_ne, beq_iff_eq, ne_eq]); (try simp only [rng, lo, hi, mnI, mxI, Int.toNat_natCast, Sg.n, Nat.mul_one, Nat.zero_add, Nat.add_zero, Nat.reduceAdd, List.getD_cons_zero, List.getD_cons_succ]))
  ((repeat' (first | (with_reducible apply And.intro) | intro _)); all_goals (first | exact trivial | (with_reducible assumption) | (show (_ : List Blk) = _; rfl) | (first | exact trivial | (with_reducible assumption) | omega | (split <;> omega) | (split <;> split <;> omega)) | skip); all_goals (try (refine ⟨rfl, (by first | exact Nat.le_refl _ | exact Nat.le_of_ble_eq_true rfl), rfl, rfl, ?_, (by repeat' (first | exact trivial | rfl | apply And.intro)), rfl, rfl⟩)))
  · exact ⟨ih (i + 1) (by omega) (by omega) [] _ _ ⟨rfl, rfl, rfl, (by repeat' (first | exact trivial | rfl | apply And.intro)), (by repeat' (first | exact trivial | rfl | apply And.intro)), rfl, rfl, rfl⟩⟩
  · exact sameA_refl _

theorem s_eqNilHur : Sound Tryz.prog 9 (nilS .hur (refLS .hur)) := nil_sound rfl (by decide) s_eqHurdleS
set_option maxRecDepth 100000 in
theorem s_markNilH : Sound Tryz.prog 12 nilK := by
  intro args M r M' vs h hvs
  unfold nilK at h
  split at h
  case h_2 => cases h
  rename_i k
  cases h
  refine SpecOK.assume fun hA hM => ?_
  have htb := (TbOk.nil : TbOk Tryz.prog tb0)
  refine SpecOK.of_goes [] Tryz.func12 rfl ?_
  clear hA hM
  refine Goes.tree Γ_ok htb 1000 false false Tryz.func12 rfl ?_
  refine ⟨?_⟩
  refine Goes.tree Γ_ok htb 1000 false false Tryz.func12 rfl ?_
  ((try simp only [decide_eq_true_eq, decide_eq_false_iff_not, Bool.not_eq_true', Bool.not_eq_false', Bool.not_true, Bool.not_false, Bool.and_eq_true, Bool.or_eq_true, bne_iff_ne, beq_iff_eq, ne_eq]); (try simp only [rng, lo, hi, mnI, mxI, Int.toNat_natCast, Sg.n, Nat.mul_one, Nat.zero_add, Nat.add_zero, Nat.reduceAdd, List.getD_cons_zero, List.getD_cons_succ]))
  ((repeat' (first | (with_reducible apply And.intro) | intro _)); all_goals (first | exact trivial | (with_reducible assumption) | (show (_ : List Blk) = _; rfl) | (first | exact trivial | (with_reducible assumption) | omega | (split <;> omega) | (split <;> split <;> omega)) | skip); all_goals (try (refine ⟨rfl, (by first | exact Nat.le_refl _ | exact Nat.le_of_ble_eq_true rfl), rfl, rfl, ?_, (by repeat' (first | exact trivial | rfl | apply And.intro)), rfl, rfl⟩)))
  all_goals (first | contradiction | exact sameA_refl _ | exact absurd trivial (by assumption))
set_option maxRecDepth 100000 in
theorem s_heldNilH : Sound Tryz.prog 13 nilK := by
  intro args M r M' vs h hvs
  unfold nilK at h
  split at h
  case h_2 => cases h
  rename_i k
  cases h
  refine SpecOK.assume fun hA hM => ?_
  have htb := (TbOk.nil : TbOk Tryz.prog tb0)
  refine SpecOK.of_goes [] Tryz.func13 rfl ?_
  clear hA hM
  refine Goes.tree Γ_ok htb 1000 false false Tryz.func13 rfl ?_
  refine ⟨?_⟩
  refine Goes.tree Γ_ok htb 1000 false false Tryz.func13 rfl ?_
  ((try simp only [decide_eq_true_eq, decide_eq_false_iff_not, Bool.not_eq_true', Bool.not_eq_false', Bool.not_true, Bool.not_false, Bool.and_eq_true, Bool.or_eq_true, bne_iff_ne, beq_iff_eq, ne_eq]); (try simp only [rng, lo, hi, mnI, mxI, Int.toNat_natCast, Sg.n, Nat.mul_one, Nat.zero_add, Nat.add_zero, Nat.reduceAdd, List.getD_cons_zero, List.getD_cons_succ]))
  ((repeat' (first | (with_reducible apply And.intro) | intro _)); all_goals (first | exact trivial | (with_reducible assumption) | (show (_ : List Blk) = _; rfl) | (first | exact trivial | (with_reducible assumption) | omega | (split <;> omega) | (split <;> split <;> omega)) | skip); all_goals (try (refine ⟨rfl, (by first | exact Nat.le_refl _ | exact Nat.le_of_ble_eq_true rfl), rfl, rfl, ?_, (by repeat' (first | exact trivial | rfl | apply And.intro)), rfl, rfl⟩)))
  all_goals (first | contradiction | exact sameA_refl _ | exact absurd trivial (by assumption))
end Go.Proofs.YtjbgjgkogmlpfaaGreat
