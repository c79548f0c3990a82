/- The laws' marks of goats. -/
import Derived.Test.YtplnfdgokpgbcaaDoorMarks
namespace Go.Proofs.YtplnfdgokpgbcaaDoor
open Go Go.Eng
set_option linter.unusedSimpArgs false
set_option linter.unusedVariables false
set_option maxRecDepth 100000
set_option maxHeartbeats 8000000

def mkGo (k : Int) : List Int := [IntKind.i8.wrap k, IntKind.i8.wrap (k + 1), IntKind.i8.wrap (k + 1 + 1), IntKind.i8.wrap (k + 1 + 1 + 1), IntKind.i16.wrap (k + 1 + 1 + 1 + 1), IntKind.i16.wrap (k + 1 + 1 + 1 + 1 + 1), IntKind.i8.wrap (k + 1 + 1 + 1 + 1 + 1 + 1)]
/-- n marked goats. -/
def mkG (k : Int) : Nat → List (List Int)
  | 0 => []
  | n + 1 => mkG k n ++ [mkGo (k + 7 * n)]
theorem mkG_len (k : Int) : ∀ i, (mkG k i).length = i
  | 0 => rfl
  | i + 1 => by simp [mkG, mkG_len k i]
theorem mkG_get (k : Int) : ∀ n i, i < n → (mkG k n).getD i [] = mkGo (k + 7 * i) := by
  intro n
  induction n with
  | zero => intro i h; omega
  | succ n ih =>
    intro i h
    rw [mkG, List.getD_eq_getElem?_getD]
    by_cases hi : i < n
    · rw [List.getElem?_append_left (by rw [mkG_len]; exact hi), ← List.getD_eq_getElem?_getD]; exact ih i hi
    · obtain rfl : i = n := by omega
      rw [List.getElem?_append_right (by rw [mkG_len]; exact Nat.le_refl _), mkG_len, Nat.sub_self]; rfl
theorem mkg_app {k : Int} {i : Nat} {rows : List (List Int)} (x : List Int) (hi : i < rows.length) : (mkG k i ++ rows.drop i).set i x = (mkG k i ++ [x]) ++ rows.drop (i + 1) := by
  rw [List.set_append_right _ _ (by rw [mkG_len]; exact Nat.le_refl _), mkG_len, Nat.sub_self, List.drop_eq_getElem_cons hi, List.set_cons_zero, List.append_assoc]; rfl
theorem mkg_get {k : Int} {i : Nat} {rows : List (List Int)} (hi : i < rows.length) : (mkG k i ++ rows.drop i).getD i [] = rows[i] := by
  rw [List.getD_eq_getElem?_getD, List.getElem?_append_right (by rw [mkG_len]; exact Nat.le_refl _), mkG_len, Nat.sub_self, List.drop_eq_getElem_cons hi]; rfl
theorem len7m {s : List Int} (h : s.length = 7) : ∃ a b c d e f g, s = [a, b, c, d, e, f, g] := by
  match s, h with
  | [a, b, c, d, e, f, g], _ => exact ⟨a, b, c, d, e, f, g, rfl⟩
def markGS : Fun
  | [.ow 0 n .goat 74, .i .i64 k], [.l .goat rows] => some (.i .i64 (k + 7 * n), [.l .goat (mkG k n)], [n = rows.length ∧ n ≤ 1000000 ∧ 0 ≤ k ∧ k ≤ 1000000])
  | _, _ => .none
set_option maxRecDepth 100000 in
theorem s_markGoatS : Sound Tryd.prog 31 markGS := by
  intro args M r M' vs h hvs
  unfold markGS at h
  split at h
  case h_2 => cases h
  rename_i n k rows
  cases h
  refine SpecOK.assume fun hA hM => ?_
  have htb := (TbOk.nil : TbOk Tryd.prog tb0)
  refine SpecOK.of_goes [0] Tryd.func31 rfl ?_
  obtain ⟨⟨rfl, hl, hk0, hk1⟩, -⟩ := hvs
  have hr : RowsOk .goat rows := hM.1
  clear hA hM
  refine Goes.tree Γ_ok htb 1000 false true Tryd.func31 rfl ?_
  refine ⟨?_⟩
  refine Goes.loopR (fun i : Nat => rows.length - i) (fun i => i ≤ rows.length) (fun i => (.ow 0 rows.length .goat 74 :: .i .i64 (k + 7 * (i:Int)) :: .any :: .any :: .any :: .i .i64 (i:Int) :: .any :: .any :: .any :: .any :: .any :: .any :: .any :: .any :: .any :: .any :: .any :: .any :: .any :: .any :: .any :: .any :: .any :: .any :: .any :: .any :: .any :: .any :: .any :: .any :: .any :: .any :: .any :: .any :: .any :: .any :: .any :: .any :: .any :: .any :: .any :: .any :: .any :: .any :: .any :: .any :: .any :: .any :: .any :: .any :: .any :: .any :: .any :: .any :: .any :: .any :: .any :: .any :: .any :: .any :: .any :: .any :: .any :: .any :: .any :: .any :: .any :: .any :: .any :: .any :: .any :: .any :: .any :: [])) (fun i => [.l .goat (mkG k i ++ rows.drop i)]) 0 [0] (Nat.zero_le _) ⟨rfl, rfl, rfl, (by rw [Int.ofNat_zero, Int.mul_zero, Int.add_zero]; exact (by repeat' (first | exact trivial | rfl | apply And.intro))), (by repeat' (first | exact trivial | rfl | apply And.intro)), rfl, rfl, rfl⟩ fun i hle ih => ?_
  have w1 : IntKind.i64.wrap (k + 7 * (i:Int) + 1) = k + 7 * i + 1 := wrap_of_rng (by simp only [rng, lo, hi]; omega)
  have w2 : IntKind.i64.wrap (k + 7 * (i:Int) + 1 + 1) = k + 7 * i + 1 + 1 := wrap_of_rng (by simp only [rng, lo, hi]; omega)
  have w3 : IntKind.i64.wrap (k + 7 * (i:Int) + 1 + 1 + 1) = k + 7 * i + 1 + 1 + 1 := wrap_of_rng (by simp only [rng, lo, hi]; omega)
  have w4 : IntKind.i64.wrap (k + 7 * (i:Int) + 1 + 1 + 1 + 1) = k + 7 * i + 1 + 1 + 1 + 1 := wrap_of_rng (by simp only [rng, lo, hi]; omega)
  have w5 : IntKind.i64.wrap (k + 7 * (i:Int) + 1 + 1 + 1 + 1 + 1) = k + 7 * i + 1 + 1 + 1 + 1 + 1 := wrap_of_rng (by simp only [rng, lo, hi]; omega)
  have w6 : IntKind.i64.wrap (k + 7 * (i:Int) + 1 + 1 + 1 + 1 + 1 + 1) = k + 7 * i + 1 + 1 + 1 + 1 + 1 + 1 := wrap_of_rng (by simp only [rng, lo, hi]; omega)
  have w7 : IntKind.i64.wrap (k + 7 * (i:Int) + 1 + 1 + 1 + 1 + 1 + 1 + 1) = k + 7 * i + 1 + 1 + 1 + 1 + 1 + 1 + 1 := wrap_of_rng (by simp only [rng, lo, hi]; omega)
  have w0 : IntKind.i64.wrap ((i:Int) + 1) = i + 1 := wrap_of_rng (by simp only [rng, lo, hi]; omega)
  by_cases hlt : i < rows.length
  · refine Goes.tree Γ_ok htb 1000 false true Tryd.func31 rfl ?_
    ((try simp only [decide_eq_true_eq, decide_eq_false_iff_not, Bool.not_eq_true', Bool.not_eq_false', Bool.not_true, Bool.not_false, Bool.and_eq_true, Bool.or_eq_true, bne_iff_ne, beq_iff_eq, ne_eq]); (try simp only [rng, lo, hi, mnI, mxI, Int.toNat_natCast, Sg.n, Nat.mul_one, Nat.zero_add, Nat.add_zero, Nat.reduceAdd, List.getD_cons_zero, List.getD_cons_succ, w0, w1, w2, w3, w4, w5, w6, w7]))
    ((repeat' (first | (with_reducible apply And.intro) | intro _)); all_goals (first | exact trivial | (with_reducible assumption) | (show (_ : List Blk) = _; rfl) | (first | exact trivial | (with_reducible assumption) | omega | (split <;> omega) | (split <;> split <;> omega)) | skip); all_goals (try (refine ⟨rfl, (by first | exact Nat.le_refl _ | exact Nat.le_of_ble_eq_true rfl), rfl, rfl, ?_, (by repeat' (first | exact trivial | rfl | apply And.intro)), rfl, rfl⟩)))
    all_goals (try omega)
    have hlen : (mkG k i ++ rows.drop i).length = rows.length := by rw [List.length_append, mkG_len, List.length_drop]; omega
    have hrow : ((mkG k i ++ rows.drop i).getD i []).length = 7 := by rw [mkg_get hlt]; exact (hr _ (List.getElem_mem hlt)).1
    obtain ⟨a, b, c, d, e, f, g, h7⟩ := len7m hrow
    have gs : ∀ x, ((mkG k i ++ rows.drop i).set i x).getD i [] = x := fun x => by rw [List.getD_eq_getElem?_getD, List.getElem?_set_self (by rw [hlen]; exact hlt)]; rfl
    refine ⟨ih (i + 1) (by omega) (by omega) [0] _ _ ?_⟩
    simp only [gs, List.set_set]
    rw [h7]
    simp only [List.set_cons_zero, List.set_cons_succ]
    rw [mkg_app _ hlt]
    refine ⟨rfl, rfl, rfl, ?_, (by repeat' (first | exact trivial | rfl | apply And.intro)), rfl, rfl, rfl⟩
    have e : k + 7 * ((i + 1 : Nat) : Int) = k + 7 * i + 1 + 1 + 1 + 1 + 1 + 1 + 1 := by omega
    rw [e]
    exact (by repeat' (first | exact trivial | rfl | apply And.intro))
  · obtain rfl : i = rows.length := by omega
    clear ih
    rw [List.drop_length, List.append_nil]
    refine Goes.tree Γ_ok htb 1000 false true Tryd.func31 rfl ?_
    ((try simp only [decide_eq_true_eq, decide_eq_false_iff_not, Bool.not_eq_true', Bool.not_eq_false', Bool.not_true, Bool.not_false, Bool.and_eq_true, Bool.or_eq_true, bne_iff_ne, beq_iff_eq, ne_eq]); (try simp only [rng, lo, hi, mnI, mxI, Int.toNat_natCast, Sg.n, Nat.mul_one, Nat.zero_add, Nat.add_zero, Nat.reduceAdd, List.getD_cons_zero, List.getD_cons_succ, w0, w1, w2, w3, w4, w5, w6, w7]))
    ((repeat' (first | (with_reducible apply And.intro) | intro _)); all_goals (first | exact trivial | (with_reducible assumption) | (show (_ : List Blk) = _; rfl) | (first | exact trivial | (with_reducible assumption) | omega | (split <;> omega) | (split <;> split <;> omega)) | skip); all_goals (try (refine ⟨rfl, (by first | exact Nat.le_refl _ | exact Nat.le_of_ble_eq_true rfl), rfl, rfl, ?_, (by repeat' (first | exact trivial | rfl | apply And.intro)), rfl, rfl⟩)))
    all_goals (first | contradiction | exact sameA_refl _ | trace_state)
def heldGS : Fun
  | [.ow 0 n .goat 74, .i .i64 k], [.l .goat rows] => some (.i .i64 (k + 7 * n), [.l .goat rows], [rows = mkG k n ∧ n ≤ 1000000 ∧ 0 ≤ k ∧ k ≤ 1000000])
  | _, _ => .none
set_option maxRecDepth 100000 in
theorem s_heldGoatS : Sound Tryd.prog 32 heldGS := by
  intro args M r M' vs h hvs
  unfold heldGS at h
  split at h
  case h_2 => cases h
  rename_i n k rows
  cases h
  refine SpecOK.assume fun hA hM => ?_
  have htb := (TbOk.nil : TbOk Tryd.prog tb0)
  refine SpecOK.of_goes [0] Tryd.func32 rfl ?_
  obtain ⟨⟨rfl, hl, hk0, hk1⟩, -⟩ := hvs
  clear hA hM
  refine Goes.tree Γ_ok htb 1000 false true Tryd.func32 rfl ?_
  refine ⟨?_⟩
  refine Goes.loopR (fun i : Nat => n - i) (fun i => i ≤ n) (fun i => (.ow 0 n .goat 74 :: .i .i64 (k + 7 * (i:Int)) :: .any :: .any :: .any :: .i .i64 (i:Int) :: .any :: .any :: .any :: .any :: .any :: .any :: .any :: .any :: .any :: .any :: .any :: .any :: .any :: .any :: .any :: .any :: .any :: .any :: .any :: .any :: .any :: .any :: .any :: .any :: .any :: .any :: .any :: .any :: .any :: .any :: .any :: .any :: .any :: .any :: .any :: .any :: .any :: .any :: .any :: .any :: .any :: .any :: .any :: .any :: .any :: .any :: .any :: .any :: .any :: .any :: .any :: .any :: .any :: .any :: .any :: .any :: .any :: .any :: .any :: .any :: .any :: .any :: .any :: .any :: .any :: .any :: .any :: .any :: .any :: .any :: .any :: .any :: .any :: .any :: .any :: .any :: .any :: .any :: .any :: .any :: .any :: [])) (fun i => [.l .goat (mkG k n)]) 0 [0] (Nat.zero_le _) ⟨rfl, rfl, rfl, (by rw [Int.ofNat_zero, Int.mul_zero, Int.add_zero]; exact (by repeat' (first | exact trivial | rfl | apply And.intro))), (by repeat' (first | exact trivial | rfl | apply And.intro)), rfl, rfl, rfl⟩ fun i hle ih => ?_
  have w1 : IntKind.i64.wrap (k + 7 * (i:Int) + 1) = k + 7 * i + 1 := wrap_of_rng (by simp only [rng, lo, hi]; omega)
  have w2 : IntKind.i64.wrap (k + 7 * (i:Int) + 1 + 1) = k + 7 * i + 1 + 1 := wrap_of_rng (by simp only [rng, lo, hi]; omega)
  have w3 : IntKind.i64.wrap (k + 7 * (i:Int) + 1 + 1 + 1) = k + 7 * i + 1 + 1 + 1 := wrap_of_rng (by simp only [rng, lo, hi]; omega)
  have w4 : IntKind.i64.wrap (k + 7 * (i:Int) + 1 + 1 + 1 + 1) = k + 7 * i + 1 + 1 + 1 + 1 := wrap_of_rng (by simp only [rng, lo, hi]; omega)
  have w5 : IntKind.i64.wrap (k + 7 * (i:Int) + 1 + 1 + 1 + 1 + 1) = k + 7 * i + 1 + 1 + 1 + 1 + 1 := wrap_of_rng (by simp only [rng, lo, hi]; omega)
  have w6 : IntKind.i64.wrap (k + 7 * (i:Int) + 1 + 1 + 1 + 1 + 1 + 1) = k + 7 * i + 1 + 1 + 1 + 1 + 1 + 1 := wrap_of_rng (by simp only [rng, lo, hi]; omega)
  have w7 : IntKind.i64.wrap (k + 7 * (i:Int) + 1 + 1 + 1 + 1 + 1 + 1 + 1) = k + 7 * i + 1 + 1 + 1 + 1 + 1 + 1 + 1 := wrap_of_rng (by simp only [rng, lo, hi]; omega)
  have w0 : IntKind.i64.wrap ((i:Int) + 1) = i + 1 := wrap_of_rng (by simp only [rng, lo, hi]; omega)
  have hg : i < n → (mkG k n).getD i [] = [IntKind.i8.wrap (k + 7 * i), IntKind.i8.wrap (k + 7 * i + 1), IntKind.i8.wrap (k + 7 * i + 1 + 1), IntKind.i8.wrap (k + 7 * i + 1 + 1 + 1), IntKind.i16.wrap (k + 7 * i + 1 + 1 + 1 + 1), IntKind.i16.wrap (k + 7 * i + 1 + 1 + 1 + 1 + 1), IntKind.i8.wrap (k + 7 * i + 1 + 1 + 1 + 1 + 1 + 1)] := fun h => mkG_get k n i h
  by_cases hlt : i < n
  · have hg := hg hlt
    have hlen := mkG_len k n
    refine Goes.tree Γ_ok htb 1000 false true Tryd.func32 rfl ?_
    ((try simp only [decide_eq_true_eq, decide_eq_false_iff_not, Bool.not_eq_true', Bool.not_eq_false', Bool.not_true, Bool.not_false, Bool.and_eq_true, Bool.or_eq_true, bne_iff_ne, beq_iff_eq, ne_eq]); (try simp only [rng, lo, hi, mnI, mxI, Int.toNat_natCast, Sg.n, Nat.mul_one, Nat.zero_add, Nat.add_zero, Nat.reduceAdd, List.getD_cons_zero, List.getD_cons_succ, w0, w1, w2, w3, w4, w5, w6, w7, hg]))
    ((repeat' (first | (with_reducible apply And.intro) | intro _)); all_goals (first | exact trivial | (with_reducible assumption) | (show (_ : List Blk) = _; rfl) | (first | exact trivial | (with_reducible assumption) | omega | (split <;> omega) | (split <;> split <;> omega)) | skip); all_goals (try (refine ⟨rfl, (by first | exact Nat.le_refl _ | exact Nat.le_of_ble_eq_true rfl), rfl, rfl, ?_, (by repeat' (first | exact trivial | rfl | apply And.intro)), rfl, rfl⟩)))
    all_goals (try omega)
    all_goals (try exact absurd trivial (by assumption))
    all_goals (refine ⟨ih (i + 1) (by omega) (by omega) [0] _ _ ?_⟩)
    all_goals (refine ⟨rfl, rfl, rfl, ?_, (by repeat' (first | exact trivial | rfl | apply And.intro)), rfl, rfl, rfl⟩)
    all_goals (have e : k + 7 * ((i + 1 : Nat) : Int) = k + 7 * i + 1 + 1 + 1 + 1 + 1 + 1 + 1 := by omega)
    all_goals (rw [e]; exact (by repeat' (first | exact trivial | rfl | apply And.intro)))
  · obtain rfl : i = n := by omega
    clear ih
    refine Goes.tree Γ_ok htb 1000 false true Tryd.func32 rfl ?_
    ((try simp only [decide_eq_true_eq, decide_eq_false_iff_not, Bool.not_eq_true', Bool.not_eq_false', Bool.not_true, Bool.not_false, Bool.and_eq_true, Bool.or_eq_true, bne_iff_ne, beq_iff_eq, ne_eq]); (try simp only [rng, lo, hi, mnI, mxI, Int.toNat_natCast, Sg.n, Nat.mul_one, Nat.zero_add, Nat.add_zero, Nat.reduceAdd, List.getD_cons_zero, List.getD_cons_succ, w0, w1, w2, w3, w4, w5, w6, w7]))
    ((repeat' (first | (with_reducible apply And.intro) | intro _)); all_goals (first | exact trivial | (with_reducible assumption) | (show (_ : List Blk) = _; rfl) | (first | exact trivial | (with_reducible assumption) | omega | (split <;> omega) | (split <;> split <;> omega)) | skip); all_goals (try (refine ⟨rfl, (by first | exact Nat.le_refl _ | exact Nat.le_of_ble_eq_true rfl), rfl, rfl, ?_, (by repeat' (first | exact trivial | rfl | apply And.intro)), rfl, rfl⟩)))
    all_goals (first | contradiction | exact sameA_refl _ | trace_state)
def refGS : Fun
  | [.ow 0 n .goat 74, .fs .goat ys], [.l .goat rows] => some (.d true, [.l .goat rows], [rows = ys ∧ n = rows.length ∧ n ≤ 1073741824])
  | _, _ => .none
set_option maxRecDepth 100000 in
theorem s_eqGoatO : Sound Tryd.prog 16 refGS := by
  intro args M r M' vs h hvs
  unfold refGS at h
  split at h
  case h_2 => cases h
  rename_i n ys rows
  cases h
  refine SpecOK.assume fun hA hM => ?_
  have htb := (TbOk.cons s_eqGoat Tryd.func50 rfl rfl (TbOk.nil : TbOk Tryd.prog tb0))
  refine SpecOK.of_goes [0] Tryd.func16 rfl ?_
  obtain ⟨⟨rfl, rfl, hl⟩, -⟩ := hvs
  clear hA hM
  refine Goes.tree Γ_ok htb 1000 false false Tryd.func16 rfl ?_
  ((try simp only [decide_eq_true_eq, decide_eq_false_iff_not, Bool.not_eq_true', Bool.not_eq_false', Bool.not_true, Bool.not_false, Bool.and_eq_true, Bool.or_eq_true, bne_iff_ne, beq_iff_eq, ne_eq]); (try simp only [rng, lo, hi, mnI, mxI, Int.toNat_natCast, Sg.n, Nat.mul_one, Nat.zero_add, Nat.add_zero, Nat.reduceAdd, List.getD_cons_zero, List.getD_cons_succ]))
  ((repeat' (first | (with_reducible apply And.intro) | intro _)); all_goals (first | exact trivial | (with_reducible assumption) | (show (_ : List Blk) = _; rfl) | (first | exact trivial | (with_reducible assumption) | omega | (split <;> omega) | (split <;> split <;> omega)) | skip); all_goals (try (refine ⟨rfl, (by first | exact Nat.le_refl _ | exact Nat.le_of_ble_eq_true rfl), rfl, rfl, ?_, (by repeat' (first | exact trivial | rfl | apply And.intro)), rfl, rfl⟩)))
  · exact absurd trivial (by assumption)
  refine ⟨?_⟩
  refine Goes.loopR (fun i : Nat => rows.length - i) (fun i => i ≤ rows.length) (fun i => (.ow 0 rows.length .goat 74 :: .fs .goat rows :: .any :: .any :: .any :: .i .i64 (i:Int) :: .any :: .any :: .any :: .any :: .any :: .any :: .any :: .any :: .any :: .any :: .any :: .any :: .any :: .any :: .any :: .any :: .any :: .any :: .any :: .any :: .any :: [])) (fun i => [.l .goat rows]) 0 [0] (Nat.zero_le _) ⟨rfl, rfl, rfl, (by repeat' (first | exact trivial | rfl | apply And.intro)), (by repeat' (first | exact trivial | rfl | apply And.intro)), rfl, rfl, rfl⟩ fun i hle ih => ?_
  refine Goes.tree Γ_ok htb 1000 false false Tryd.func16 rfl ?_
  ((try simp only [decide_eq_true_eq, decide_eq_false_iff_not, Bool.not_eq_true', Bool.not_eq_false', Bool.not_true, Bool.not_false, Bool.and_eq_true, Bool.or_eq_true, bne_iff_ne, beq_iff_eq, ne_eq]); (try simp only [rng, lo, hi, mnI, mxI, Int.toNat_natCast, Sg.n, Nat.mul_one, Nat.zero_add, Nat.add_zero, Nat.reduceAdd, List.getD_cons_zero, List.getD_cons_succ]))
  ((repeat' (first | (with_reducible apply And.intro) | intro _)); all_goals (first | exact trivial | (with_reducible assumption) | (show (_ : List Blk) = _; rfl) | (first | exact trivial | (with_reducible assumption) | omega | (split <;> omega) | (split <;> split <;> omega)) | skip); all_goals (try (refine ⟨rfl, (by first | exact Nat.le_refl _ | exact Nat.le_of_ble_eq_true rfl), rfl, rfl, ?_, (by repeat' (first | exact trivial | rfl | apply And.intro)), rfl, rfl⟩)))
  · exact ⟨ih (i + 1) (by omega) (by omega) [0] _ _ ⟨rfl, rfl, rfl, (by repeat' (first | exact trivial | rfl | apply And.intro)), (by repeat' (first | exact trivial | rfl | apply And.intro)), rfl, rfl, rfl⟩⟩
  · exact sameA_refl _
theorem s_eqNilGoat : Sound Tryd.prog 16 (nilS .goat (refLS .goat)) := nil_sound rfl (by decide) s_eqGoatS
set_option maxRecDepth 100000 in
theorem s_markNilG : Sound Tryd.prog 31 nilK := by
  intro args M r M' vs h hvs
  unfold nilK at h
  split at h
  case h_2 => cases h
  rename_i k
  cases h
  refine SpecOK.assume fun hA hM => ?_
  have htb := (TbOk.nil : TbOk Tryd.prog tb0)
  refine SpecOK.of_goes [] Tryd.func31 rfl ?_
  clear hA hM
  refine Goes.tree Γ_ok htb 1000 false false Tryd.func31 rfl ?_
  refine ⟨?_⟩
  refine Goes.tree Γ_ok htb 1000 false false Tryd.func31 rfl ?_
  ((try simp only [decide_eq_true_eq, decide_eq_false_iff_not, Bool.not_eq_true', Bool.not_eq_false', Bool.not_true, Bool.not_false, Bool.and_eq_true, Bool.or_eq_true, bne_iff_ne, beq_iff_eq, ne_eq]); (try simp only [rng, lo, hi, mnI, mxI, Int.toNat_natCast, Sg.n, Nat.mul_one, Nat.zero_add, Nat.add_zero, Nat.reduceAdd, List.getD_cons_zero, List.getD_cons_succ]))
  ((repeat' (first | (with_reducible apply And.intro) | intro _)); all_goals (first | exact trivial | (with_reducible assumption) | (show (_ : List Blk) = _; rfl) | (first | exact trivial | (with_reducible assumption) | omega | (split <;> omega) | (split <;> split <;> omega)) | skip); all_goals (try (refine ⟨rfl, (by first | exact Nat.le_refl _ | exact Nat.le_of_ble_eq_true rfl), rfl, rfl, ?_, (by repeat' (first | exact trivial | rfl | apply And.intro)), rfl, rfl⟩)))
  all_goals (first | contradiction | exact sameA_refl _ | exact absurd trivial (by assumption))
set_option maxRecDepth 100000 in
theorem s_heldNilG : Sound Tryd.prog 32 nilK := by
  intro args M r M' vs h hvs
  unfold nilK at h
  split at h
  case h_2 => cases h
  rename_i k
  cases h
  refine SpecOK.assume fun hA hM => ?_
  have htb := (TbOk.nil : TbOk Tryd.prog tb0)
  refine SpecOK.of_goes [] Tryd.func32 rfl ?_
  clear hA hM
  refine Goes.tree Γ_ok htb 1000 false false Tryd.func32 rfl ?_
  refine ⟨?_⟩
  refine Goes.tree Γ_ok htb 1000 false false Tryd.func32 rfl ?_
  ((try simp only [decide_eq_true_eq, decide_eq_false_iff_not, Bool.not_eq_true', Bool.not_eq_false', Bool.not_true, Bool.not_false, Bool.and_eq_true, Bool.or_eq_true, bne_iff_ne, beq_iff_eq, ne_eq]); (try simp only [rng, lo, hi, mnI, mxI, Int.toNat_natCast, Sg.n, Nat.mul_one, Nat.zero_add, Nat.add_zero, Nat.reduceAdd, List.getD_cons_zero, List.getD_cons_succ]))
  ((repeat' (first | (with_reducible apply And.intro) | intro _)); all_goals (first | exact trivial | (with_reducible assumption) | (show (_ : List Blk) = _; rfl) | (first | exact trivial | (with_reducible assumption) | omega | (split <;> omega) | (split <;> split <;> omega)) | skip); all_goals (try (refine ⟨rfl, (by first | exact Nat.le_refl _ | exact Nat.le_of_ble_eq_true rfl), rfl, rfl, ?_, (by repeat' (first | exact trivial | rfl | apply And.intro)), rfl, rfl⟩)))
  all_goals (first | contradiction | exact sameA_refl _ | exact absurd trivial (by assumption))
end Go.Proofs.YtplnfdgokpgbcaaDoor
