/- The laws' marks: what is written into a result, and read again. -/
import Derived.Test.YtfelemoefhbphaaLists
namespace Go.Proofs.Ytfelemoefhbphaa
open Go Go.Eng
set_option linter.unusedSimpArgs false
set_option linter.unusedVariables false
set_option maxRecDepth 100000
set_option maxHeartbeats 4000000

def mkSpot (k : Int) : List Int := [IntKind.i8.wrap k, IntKind.i8.wrap (k + 1)]
/-- n marked spots. -/
def mkL (k : Int) : Nat → List (List Int)
  | 0 => []
  | n + 1 => mkL k n ++ [mkSpot (k + 2 * n)]

theorem mkL_len (k : Int) : ∀ i, (mkL k i).length = i
  | 0 => rfl
  | i + 1 => by simp [mkL, mkL_len k i]
theorem set_row2 {A : List (List Int)} {i : Nat} (hi : i < A.length) (hr : (A.getD i []).length = 2) (u v : Int) :
    (A.set i ((A.getD i []).set 0 u)).set i (((A.set i ((A.getD i []).set 0 u)).getD i []).set 1 v) = A.set i [u, v] := by
  rw [List.set_set]
  have e : (A.set i ((A.getD i []).set 0 u)).getD i [] = (A.getD i []).set 0 u := by
    rw [List.getD_eq_getElem?_getD, List.getElem?_set_self hi]; rfl
  rw [e]
  obtain ⟨a, b, h⟩ := len2 hr
  rw [h]; rfl
theorem mk_app {k : Int} {i : Nat} {rows : List (List Int)} (x : List Int) (hi : i < rows.length) : (mkL k i ++ rows.drop i).set i x = (mkL k i ++ [x]) ++ rows.drop (i + 1) := by
  rw [List.set_append_right _ _ (by rw [mkL_len]; exact Nat.le_refl _), mkL_len, Nat.sub_self, List.drop_eq_getElem_cons hi, List.set_cons_zero, List.append_assoc]; rfl
theorem mk_get {k : Int} {i : Nat} {rows : List (List Int)} (hi : i < rows.length) : (mkL k i ++ rows.drop i).getD i [] = rows[i] := by
  rw [List.getD_eq_getElem?_getD, List.getElem?_append_right (by rw [mkL_len]; exact Nat.le_refl _), mkL_len, Nat.sub_self, List.drop_eq_getElem_cons hi]; rfl

def markS : Fun
  | [.ow 0 n .spot 37, .i .i64 k], [.l .spot rows] => some (.i .i64 (k + 2 * n), [.l .spot (mkL k n)], [n = rows.length ∧ n ≤ 1073741824 ∧ 0 ≤ k ∧ k ≤ 1073741824])
  | _, _ => .none

set_option maxRecDepth 100000 in
theorem s_markSpotS : Sound Try.prog 20 markS := by
  intro args M r M' vs h hvs
  unfold markS at h
  split at h
  case h_2 => cases h
  rename_i n k rows
  cases h
  refine SpecOK.assume fun hA hM => ?_
  have htb := (TbOk.nil : TbOk Try.prog tb0)
  refine SpecOK.of_goes [0] Try.func20 rfl ?_
  obtain ⟨⟨rfl, hl, hk0, hk1⟩, -⟩ := hvs
  have hr : RowsOk .spot rows := hM.1
  clear hA hM
  refine Goes.tree Γ_ok htb 1000 false true Try.func20 rfl ?_
  refine ⟨?_⟩
  refine Goes.loopR (fun i : Nat => rows.length - i) (fun i => i ≤ rows.length) (fun i => (.ow 0 rows.length .spot 37 :: .i .i64 (k + 2 * (i:Int)) :: .any :: .any :: .any :: .i .i64 (i:Int) :: .any :: .any :: .any :: .any :: .any :: .any :: .any :: .any :: .any :: .any :: .any :: .any :: .any :: .any :: .any :: .any :: .any :: .any :: .any :: .any :: .any :: .any :: .any :: [])) (fun i => [.l .spot (mkL k i ++ rows.drop i)]) 0 [0] (by omega) ⟨rfl, rfl, rfl, (by rw [Int.ofNat_zero, Int.mul_zero, Int.add_zero]; exact (by repeat' (first | exact trivial | rfl | apply And.intro))), (by repeat' (first | exact trivial | rfl | apply And.intro)), rfl, rfl, rfl⟩ fun i hle ih => ?_
  have w1 : IntKind.i64.wrap (k + 2 * (i:Int) + 1) = k + 2 * i + 1 := wrap_of_rng (by simp only [rng, lo, hi]; omega)
  have w2 : IntKind.i64.wrap (k + 2 * (i:Int) + 1 + 1) = k + 2 * i + 1 + 1 := wrap_of_rng (by simp only [rng, lo, hi]; omega)
  have w3 : IntKind.i64.wrap ((i:Int) + 1) = i + 1 := wrap_of_rng (by simp only [rng, lo, hi]; omega)
  have hll : ∀ i, (mkL k i).length = i := fun i => by induction i with
    | zero => rfl
    | succ i ih => simp [mkL, ih]
  by_cases hlt : i < rows.length
  · refine Goes.tree Γ_ok htb 1000 false true Try.func20 rfl ?_
    ((try simp only [decide_eq_true_eq, decide_eq_false_iff_not, Bool.not_eq_true', Bool.not_eq_false', Bool.not_true, Bool.not_false, Bool.and_eq_true, Bool.or_eq_true, bne_iff_ne, beq_iff_eq, ne_eq]); (try simp only [rng, lo, hi, mnI, mxI, Int.toNat_natCast, Sg.n, Nat.mul_one, Nat.zero_add, Nat.add_zero, Nat.reduceAdd, List.getD_cons_zero, List.getD_cons_succ, w1, w2, w3]))
    ((repeat' (first | (with_reducible apply And.intro) | intro _)); all_goals (first | exact trivial | (with_reducible assumption) | (show (_ : List Blk) = _; rfl) | (first | exact trivial | (with_reducible assumption) | omega | (split <;> omega) | (split <;> split <;> omega)) | skip); all_goals (try (refine ⟨rfl, (by first | exact Nat.le_refl _ | exact Nat.le_of_ble_eq_true rfl), rfl, rfl, ?_, (by repeat' (first | exact trivial | rfl | apply And.intro)), rfl, rfl⟩)))
    have hlen : (mkL k i ++ rows.drop i).length = rows.length := by rw [List.length_append, mkL_len, List.length_drop]; omega
    have hrow : ((mkL k i ++ rows.drop i).getD i []).length = 2 := by rw [mk_get hlt]; exact (hr _ (List.getElem_mem hlt)).1
    refine ⟨ih (i + 1) (by omega) (by omega) [0] _ _ ?_⟩
    rw [set_row2 (by rw [hlen]; exact hlt) hrow, mk_app _ hlt]
    refine ⟨rfl, rfl, rfl, ?_, (by repeat' (first | exact trivial | rfl | apply And.intro)), rfl, rfl, rfl⟩
    have e : k + 2 * ((i + 1 : Nat) : Int) = k + 2 * i + 1 + 1 := by omega
    rw [e]
    exact (by repeat' (first | exact trivial | rfl | apply And.intro))
  · obtain rfl : i = rows.length := by omega
    clear ih
    rw [List.drop_length, List.append_nil]
    refine Goes.tree Γ_ok htb 1000 false true Try.func20 rfl ?_
    ((try simp only [decide_eq_true_eq, decide_eq_false_iff_not, Bool.not_eq_true', Bool.not_eq_false', Bool.not_true, Bool.not_false, Bool.and_eq_true, Bool.or_eq_true, bne_iff_ne, beq_iff_eq, ne_eq]); (try simp only [rng, lo, hi, mnI, mxI, Int.toNat_natCast, Sg.n, Nat.mul_one, Nat.zero_add, Nat.add_zero, Nat.reduceAdd, List.getD_cons_zero, List.getD_cons_succ, w1, w2, w3]))
    ((repeat' (first | (with_reducible apply And.intro) | intro _)); all_goals (first | exact trivial | (with_reducible assumption) | (show (_ : List Blk) = _; rfl) | (first | exact trivial | (with_reducible assumption) | omega | (split <;> omega) | (split <;> split <;> omega)) | skip); all_goals (try (refine ⟨rfl, (by first | exact Nat.le_refl _ | exact Nat.le_of_ble_eq_true rfl), rfl, rfl, ?_, (by repeat' (first | exact trivial | rfl | apply And.intro)), rfl, rfl⟩)))
    exact sameA_refl _

def heldS : Fun
  | [.ow 0 n .spot 37, .i .i64 k], [.l .spot rows] => some (.i .i64 (k + 2 * n), [.l .spot rows], [rows = mkL k n ∧ n ≤ 1073741824 ∧ 0 ≤ k ∧ k ≤ 1073741824])
  | _, _ => .none

theorem mkL_get (k : Int) : ∀ n i, i < n → (mkL k n).getD i [] = mkSpot (k + 2 * i) := by
  intro n
  induction n with
  | zero => intro i h; omega
  | succ n ih =>
    intro i h
    rw [mkL, List.getD_eq_getElem?_getD]
    by_cases hi : i < n
    · rw [List.getElem?_append_left (by rw [mkL_len]; exact hi), ← List.getD_eq_getElem?_getD]; exact ih i hi
    · obtain rfl : i = n := by omega
      rw [List.getElem?_append_right (by rw [mkL_len]; exact Nat.le_refl _), mkL_len, Nat.sub_self]; rfl

set_option maxRecDepth 100000 in
theorem s_heldSpotS : Sound Try.prog 21 heldS := by
  intro args M r M' vs h hvs
  unfold heldS at h
  split at h
  case h_2 => cases h
  rename_i n k rows
  cases h
  refine SpecOK.assume fun hA hM => ?_
  have htb := (TbOk.nil : TbOk Try.prog tb0)
  refine SpecOK.of_goes [0] Try.func21 rfl ?_
  obtain ⟨⟨rfl, hl, hk0, hk1⟩, -⟩ := hvs
  clear hA hM
  refine Goes.tree Γ_ok htb 1000 false true Try.func21 rfl ?_
  refine ⟨?_⟩
  refine Goes.loopR (fun i : Nat => n - i) (fun i => i ≤ n) (fun i => (.ow 0 n .spot 37 :: .i .i64 (k + 2 * (i:Int)) :: .any :: .any :: .any :: .i .i64 (i:Int) :: .any :: .any :: .any :: .any :: .any :: .any :: .any :: .any :: .any :: .any :: .any :: .any :: .any :: .any :: .any :: .any :: .any :: .any :: .any :: .any :: .any :: .any :: .any :: .any :: .any :: .any :: .any :: [])) (fun i => [.l .spot (mkL k n)]) 0 [0] (by omega) ⟨rfl, rfl, rfl, (by rw [Int.ofNat_zero, Int.mul_zero, Int.add_zero]; exact (by repeat' (first | exact trivial | rfl | apply And.intro))), (by repeat' (first | exact trivial | rfl | apply And.intro)), rfl, rfl, rfl⟩ fun i hle ih => ?_
  have w1 : IntKind.i64.wrap (k + 2 * (i:Int) + 1) = k + 2 * i + 1 := wrap_of_rng (by simp only [rng, lo, hi]; omega)
  have w2 : IntKind.i64.wrap (k + 2 * (i:Int) + 1 + 1) = k + 2 * i + 1 + 1 := wrap_of_rng (by simp only [rng, lo, hi]; omega)
  have w3 : IntKind.i64.wrap ((i:Int) + 1) = i + 1 := wrap_of_rng (by simp only [rng, lo, hi]; omega)
  have hg : i < n → (mkL k n).getD i [] = [IntKind.i8.wrap (k + 2 * i), IntKind.i8.wrap (k + 2 * i + 1)] := fun h => mkL_get k n i h
  by_cases hlt : i < n
  · have hg := hg hlt
    have hlen := mkL_len k n
    refine Goes.tree Γ_ok htb 1000 false true Try.func21 rfl ?_
    ((try simp only [decide_eq_true_eq, decide_eq_false_iff_not, Bool.not_eq_true', Bool.not_eq_false', Bool.not_true, Bool.not_false, Bool.and_eq_true, Bool.or_eq_true, bne_iff_ne, beq_iff_eq, ne_eq]); (try simp only [rng, lo, hi, mnI, mxI, Int.toNat_natCast, Sg.n, Nat.mul_one, Nat.zero_add, Nat.add_zero, Nat.reduceAdd, List.getD_cons_zero, List.getD_cons_succ, w1, w2, w3, hg]))
    ((repeat' (first | (with_reducible apply And.intro) | intro _)); all_goals (first | exact trivial | (with_reducible assumption) | (show (_ : List Blk) = _; rfl) | (first | exact trivial | (with_reducible assumption) | omega | (split <;> omega) | (split <;> split <;> omega)) | skip); all_goals (try (refine ⟨rfl, (by first | exact Nat.le_refl _ | exact Nat.le_of_ble_eq_true rfl), rfl, rfl, ?_, (by repeat' (first | exact trivial | rfl | apply And.intro)), rfl, rfl⟩)))
    · exact absurd trivial (by assumption)
    · exact absurd trivial (by assumption)
    · refine ⟨ih (i + 1) (by omega) (by omega) [0] _ _ ?_⟩
      refine ⟨rfl, rfl, rfl, ?_, (by repeat' (first | exact trivial | rfl | apply And.intro)), rfl, rfl, rfl⟩
      have e : k + 2 * ((i + 1 : Nat) : Int) = k + 2 * i + 1 + 1 := by omega
      rw [e]
      exact (by repeat' (first | exact trivial | rfl | apply And.intro))
  · obtain rfl : i = n := by omega
    clear ih
    refine Goes.tree Γ_ok htb 1000 false true Try.func21 rfl ?_
    ((try simp only [decide_eq_true_eq, decide_eq_false_iff_not, Bool.not_eq_true', Bool.not_eq_false', Bool.not_true, Bool.not_false, Bool.and_eq_true, Bool.or_eq_true, bne_iff_ne, beq_iff_eq, ne_eq]); (try simp only [rng, lo, hi, mnI, mxI, Int.toNat_natCast, Sg.n, Nat.mul_one, Nat.zero_add, Nat.add_zero, Nat.reduceAdd, List.getD_cons_zero, List.getD_cons_succ, w1, w2, w3]))
    ((repeat' (first | (with_reducible apply And.intro) | intro _)); all_goals (first | exact trivial | (with_reducible assumption) | (show (_ : List Blk) = _; rfl) | (first | exact trivial | (with_reducible assumption) | omega | (split <;> omega) | (split <;> split <;> omega)) | skip); all_goals (try (refine ⟨rfl, (by first | exact Nat.le_refl _ | exact Nat.le_of_ble_eq_true rfl), rfl, rfl, ?_, (by repeat' (first | exact trivial | rfl | apply And.intro)), rfl, rfl⟩)))
    all_goals (first | contradiction | exact sameA_refl _)

/-- Own rows compared with frozen ones that are the same. -/
def refOS : Fun
  | [.ow 0 n .spot 37, .fs .spot ys], [.l .spot rows] => some (.d true, [.l .spot rows], [rows = ys ∧ n = rows.length ∧ n ≤ 1073741824])
  | _, _ => .none

set_option maxRecDepth 100000 in
theorem s_eqSpotO : Sound Try.prog 19 refOS := by
  intro args M r M' vs h hvs
  unfold refOS at h
  split at h
  case h_2 => cases h
  rename_i n ys rows
  cases h
  refine SpecOK.assume fun hA hM => ?_
  have htb := (TbOk.cons s_eqSpot Try.func60 rfl rfl (TbOk.nil : TbOk Try.prog tb0))
  refine SpecOK.of_goes [0] Try.func19 rfl ?_
  obtain ⟨⟨rfl, rfl, hl⟩, -⟩ := hvs
  clear hA hM
  refine Goes.tree Γ_ok htb 1000 false false Try.func19 rfl ?_
  ((try simp only [decide_eq_true_eq, decide_eq_false_iff_not, Bool.not_eq_true', Bool.not_eq_false', Bool.not_true, Bool.not_false, Bool.and_eq_true, Bool.or_eq_true, bne_iff_ne, beq_iff_eq, ne_eq]); (try simp only [rng, lo, hi, mnI, mxI, Int.toNat_natCast, Sg.n, Nat.mul_one, Nat.zero_add, Nat.add_zero, Nat.reduceAdd, List.getD_cons_zero, List.getD_cons_succ]))
  ((repeat' (first | (with_reducible apply And.intro) | intro _)); all_goals (first | exact trivial | (with_reducible assumption) | (show (_ : List Blk) = _; rfl) | (first | exact trivial | (with_reducible assumption) | omega | (split <;> omega) | (split <;> split <;> omega)) | skip); all_goals (try (refine ⟨rfl, (by first | exact Nat.le_refl _ | exact Nat.le_of_ble_eq_true rfl), rfl, rfl, ?_, (by repeat' (first | exact trivial | rfl | apply And.intro)), rfl, rfl⟩)))
  · exact absurd trivial (by assumption)
  refine ⟨?_⟩
  refine Goes.loopR (fun i : Nat => rows.length - i) (fun i => i ≤ rows.length) (fun i => (.ow 0 rows.length .spot 37 :: .fs .spot rows :: .any :: .any :: .any :: .i .i64 (i:Int) :: .any :: .any :: .any :: .any :: .any :: .any :: .any :: .any :: .any :: .any :: .any :: .any :: .any :: .any :: .any :: .any :: .any :: .any :: .any :: .any :: .any :: [])) (fun i => [.l .spot rows]) 0 [0] (by omega) ⟨rfl, rfl, rfl, (by repeat' (first | exact trivial | rfl | apply And.intro)), (by repeat' (first | exact trivial | rfl | apply And.intro)), rfl, rfl, rfl⟩ fun i hle ih => ?_
  refine Goes.tree Γ_ok htb 1000 false false Try.func19 rfl ?_
  ((try simp only [decide_eq_true_eq, decide_eq_false_iff_not, Bool.not_eq_true', Bool.not_eq_false', Bool.not_true, Bool.not_false, Bool.and_eq_true, Bool.or_eq_true, bne_iff_ne, beq_iff_eq, ne_eq]); (try simp only [rng, lo, hi, mnI, mxI, Int.toNat_natCast, Sg.n, Nat.mul_one, Nat.zero_add, Nat.add_zero, Nat.reduceAdd, List.getD_cons_zero, List.getD_cons_succ]))
  ((repeat' (first | (with_reducible apply And.intro) | intro _)); all_goals (first | exact trivial | (with_reducible assumption) | (show (_ : List Blk) = _; rfl) | (first | exact trivial | (with_reducible assumption) | omega | (split <;> omega) | (split <;> split <;> omega)) | skip); all_goals (try (refine ⟨rfl, (by first | exact Nat.le_refl _ | exact Nat.le_of_ble_eq_true rfl), rfl, rfl, ?_, (by repeat' (first | exact trivial | rfl | apply And.intro)), rfl, rfl⟩)))
  · exact ⟨ih (i + 1) (by omega) (by omega) [0] _ _ ⟨rfl, rfl, rfl, (by repeat' (first | exact trivial | rfl | apply And.intro)), (by repeat' (first | exact trivial | rfl | apply And.intro)), rfl, rfl, rfl⟩⟩
  · exact sameA_refl _

/-- The one, and where it does not answer the other. -/
def orS (F G : Fun) : Fun := fun a M => match F a M with
  | some x => some x
  | .none => G a M
theorem or_sound {k : FuncId} {F G : Fun} (h : Sound Try.prog k F) (h' : Sound Try.prog k G) : Sound Try.prog k (orS F G) := by
  intro args M r M' vs he hv
  unfold orS at he
  split at he
  · cases he; exact h _ _ _ _ _ (by assumption) hv
  · exact h' _ _ _ _ _ he hv

def nilK : Fun
  | [.nsl, .i .i64 k], [] => some (.i .i64 k, [], [])
  | _, _ => .none
set_option maxRecDepth 100000 in
theorem s_markNil : Sound Try.prog 20 nilK := by
  intro args M r M' vs h hvs
  unfold nilK at h
  split at h
  case h_2 => cases h
  rename_i k
  cases h
  refine SpecOK.assume fun hA hM => ?_
  have htb := (TbOk.nil : TbOk Try.prog tb0)
  refine SpecOK.of_goes [] Try.func20 rfl ?_
  clear hA hM
  refine Goes.tree Γ_ok htb 1000 false false Try.func20 rfl ?_
  refine ⟨?_⟩
  refine Goes.tree Γ_ok htb 1000 false false Try.func20 rfl ?_
  ((try simp only [decide_eq_true_eq, decide_eq_false_iff_not, Bool.not_eq_true', Bool.not_eq_false', Bool.not_true, Bool.not_false, Bool.and_eq_true, Bool.or_eq_true, bne_iff_ne, beq_iff_eq, ne_eq]); (try simp only [rng, lo, hi, mnI, mxI, Int.toNat_natCast, Sg.n, Nat.mul_one, Nat.zero_add, Nat.add_zero, Nat.reduceAdd, List.getD_cons_zero, List.getD_cons_succ]))
  ((repeat' (first | (with_reducible apply And.intro) | intro _)); all_goals (first | exact trivial | (with_reducible assumption) | (show (_ : List Blk) = _; rfl) | (first | exact trivial | (with_reducible assumption) | omega | (split <;> omega) | (split <;> split <;> omega)) | skip); all_goals (try (refine ⟨rfl, (by first | exact Nat.le_refl _ | exact Nat.le_of_ble_eq_true rfl), rfl, rfl, ?_, (by repeat' (first | exact trivial | rfl | apply And.intro)), rfl, rfl⟩)))
  all_goals (first | contradiction | exact sameA_refl _ | exact absurd trivial (by assumption))
set_option maxRecDepth 100000 in
theorem s_heldNil : Sound Try.prog 21 nilK := by
  intro args M r M' vs h hvs
  unfold nilK at h
  split at h
  case h_2 => cases h
  rename_i k
  cases h
  refine SpecOK.assume fun hA hM => ?_
  have htb := (TbOk.nil : TbOk Try.prog tb0)
  refine SpecOK.of_goes [] Try.func21 rfl ?_
  clear hA hM
  refine Goes.tree Γ_ok htb 1000 false false Try.func21 rfl ?_
  refine ⟨?_⟩
  refine Goes.tree Γ_ok htb 1000 false false Try.func21 rfl ?_
  ((try simp only [decide_eq_true_eq, decide_eq_false_iff_not, Bool.not_eq_true', Bool.not_eq_false', Bool.not_true, Bool.not_false, Bool.and_eq_true, Bool.or_eq_true, bne_iff_ne, beq_iff_eq, ne_eq]); (try simp only [rng, lo, hi, mnI, mxI, Int.toNat_natCast, Sg.n, Nat.mul_one, Nat.zero_add, Nat.add_zero, Nat.reduceAdd, List.getD_cons_zero, List.getD_cons_succ]))
  ((repeat' (first | (with_reducible apply And.intro) | intro _)); all_goals (first | exact trivial | (with_reducible assumption) | (show (_ : List Blk) = _; rfl) | (first | exact trivial | (with_reducible assumption) | omega | (split <;> omega) | (split <;> split <;> omega)) | skip); all_goals (try (refine ⟨rfl, (by first | exact Nat.le_refl _ | exact Nat.le_of_ble_eq_true rfl), rfl, rfl, ?_, (by repeat' (first | exact trivial | rfl | apply And.intro)), rfl, rfl⟩)))
  all_goals (first | contradiction | exact sameA_refl _ | exact absurd trivial (by assumption))
theorem s_eqNilSpot : Sound Try.prog 19 (nilS .spot (refLS .spot)) := nil_sound rfl (by decide) s_eqSpotS
end Go.Proofs.Ytfelemoefhbphaa
