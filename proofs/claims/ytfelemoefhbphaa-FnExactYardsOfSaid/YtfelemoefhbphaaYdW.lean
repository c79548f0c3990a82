/- spec.YardsOf and impl.YardsOf; lists of lists compared, and their marks read. -/
import Derived.Test.YtfelemoefhbphaaYards
import Derived.Test.YtfelemoefhbphaaMarks
import Derived.Test.YtfelemoefhbphaaValid2
namespace Go.Proofs.Ytfelemoefhbphaa
open Go Go.Eng
set_option linter.unusedSimpArgs false
set_option linter.unusedVariables false
set_option maxRecDepth 100000
set_option maxHeartbeats 4000000

noncomputable def ydL (p : List Int) : List (List (List Int)) := if okP p then yL p (spots p) else []
noncomputable def ydC (p : List Int) : Int := if okP p then 0 else 1
noncomputable def ydSpecS : Fun
  | [.ag .pas p], [] => some (.t2 (.fz .spot (ydL p)) (.i .i64 (ydC p)), [], [])
  | _, _ => .none
set_option maxRecDepth 100000 in
theorem s_specYardsOf : Sound Try.prog 22 ydSpecS := by
  intro args M r M' vs h hvs
  unfold ydSpecS at h
  split at h
  case h_2 => cases h
  rename_i p
  cases h
  refine SpecOK.assume fun hA hM => ?_
  have htb := (TbOk.cons s_l01Ok Try.func61 rfl rfl (TbOk.cons s_l01Numbers Try.func62 rfl rfl (TbOk.nil : TbOk Try.prog tb0)))
  refine SpecOK.of_goes [] Try.func22 rfl ?_
  clear hA hM
  by_cases h : okP p
  · rw [show ydL p = yL p (spots p) from if_pos h, show ydC p = 0 from if_pos h]
    have hd : okD p := h.1
    refine Goes.tree Γ_ok htb 1000 true false Try.func22 rfl ?_
    ((try simp only [decide_eq_true_eq, decide_eq_false_iff_not, Bool.not_eq_true', Bool.not_eq_false', Bool.not_true, Bool.not_false, Bool.and_eq_true, Bool.or_eq_true, bne_iff_ne, beq_iff_eq, ne_eq]); (try simp only [rng, lo, hi, mnI, mxI, Int.toNat_natCast, Sg.n, Nat.mul_one, Nat.zero_add, Nat.add_zero, Nat.reduceAdd, List.getD_cons_zero, List.getD_cons_succ, h]))
    ((repeat' (first | (with_reducible apply And.intro) | intro _)); all_goals (first | exact trivial | (with_reducible assumption) | (show (_ : List Blk) = _; rfl) | (first | exact trivial | (with_reducible assumption) | omega | (split <;> omega) | (split <;> split <;> omega)) | skip); all_goals (try (refine ⟨rfl, (by first | exact Nat.le_refl _ | exact Nat.le_of_ble_eq_true rfl), rfl, rfl, ?_, (by repeat' (first | exact trivial | rfl | apply And.intro)), rfl, rfl⟩)))
    all_goals (first | contradiction | exact hd | exact sameA_refl _ | trace_state)
  · rw [show ydL p = [] from if_neg h, show ydC p = 1 from if_neg h]
    refine Goes.tree Γ_ok htb 1000 true false Try.func22 rfl ?_
    ((try simp only [decide_eq_true_eq, decide_eq_false_iff_not, Bool.not_eq_true', Bool.not_eq_false', Bool.not_true, Bool.not_false, Bool.and_eq_true, Bool.or_eq_true, bne_iff_ne, beq_iff_eq, ne_eq]); (try simp only [rng, lo, hi, mnI, mxI, Int.toNat_natCast, Sg.n, Nat.mul_one, Nat.zero_add, Nat.add_zero, Nat.reduceAdd, List.getD_cons_zero, List.getD_cons_succ, h]))
    ((repeat' (first | (with_reducible apply And.intro) | intro _)); all_goals (first | exact trivial | (with_reducible assumption) | (show (_ : List Blk) = _; rfl) | (first | exact trivial | (with_reducible assumption) | omega | (split <;> omega) | (split <;> split <;> omega)) | skip); all_goals (try (refine ⟨rfl, (by first | exact Nat.le_refl _ | exact Nat.le_of_ble_eq_true rfl), rfl, rfl, ?_, (by repeat' (first | exact trivial | rfl | apply And.intro)), rfl, rfl⟩)))
    all_goals (first | contradiction | exact sameA_refl _ | trace_state)
noncomputable def ydOkS : Fun
  | [.ag .pas p], [] => some (.t2 (.fz .spot (yL p (spots p))) (.i .i64 0), [], [okP p])
  | _, _ => .none
def ydErrS : Fun
  | [.ag .pas p], [] => some (.t2 .nsl (.i .i64 1), [], [¬ okP p])
  | _, _ => .none
set_option maxRecDepth 100000 in
theorem s_ydOk : Sound Try.prog 23 ydOkS := by
  intro args M r M' vs h hvs
  unfold ydOkS at h
  split at h
  case h_2 => cases h
  rename_i p
  cases h
  refine SpecOK.assume fun hA hM => ?_
  have htb := (TbOk.cons s_ValidPasture Try.func63 rfl rfl (TbOk.cons s_yards Try.func64 rfl rfl (TbOk.nil : TbOk Try.prog tb0)))
  refine SpecOK.of_goes [] Try.func23 rfl ?_
  obtain ⟨h, -⟩ := hvs
  have hd : okD p := h.1
  clear hA hM
  refine Goes.tree Γ_ok htb 1000 true false Try.func23 rfl ?_
  ((try simp only [decide_eq_true_eq, decide_eq_false_iff_not, Bool.not_eq_true', Bool.not_eq_false', Bool.not_true, Bool.not_false, Bool.and_eq_true, Bool.or_eq_true, bne_iff_ne, beq_iff_eq, ne_eq]); (try simp only [rng, lo, hi, mnI, mxI, Int.toNat_natCast, Sg.n, Nat.mul_one, Nat.zero_add, Nat.add_zero, Nat.reduceAdd, List.getD_cons_zero, List.getD_cons_succ, h]))
  ((repeat' (first | (with_reducible apply And.intro) | intro _)); all_goals (first | exact trivial | (with_reducible assumption) | (show (_ : List Blk) = _; rfl) | (first | exact trivial | (with_reducible assumption) | omega | (split <;> omega) | (split <;> split <;> omega)) | skip); all_goals (try (refine ⟨rfl, (by first | exact Nat.le_refl _ | exact Nat.le_of_ble_eq_true rfl), rfl, rfl, ?_, (by repeat' (first | exact trivial | rfl | apply And.intro)), rfl, rfl⟩)))
  all_goals (first | contradiction | exact hd | exact sameA_refl _ | trace_state)
set_option maxRecDepth 100000 in
theorem s_ydErr : Sound Try.prog 23 ydErrS := by
  intro args M r M' vs h hvs
  unfold ydErrS at h
  split at h
  case h_2 => cases h
  rename_i p
  cases h
  refine SpecOK.assume fun hA hM => ?_
  have htb := (TbOk.cons s_ValidPasture Try.func63 rfl rfl (TbOk.cons s_yards Try.func64 rfl rfl (TbOk.nil : TbOk Try.prog tb0)))
  refine SpecOK.of_goes [] Try.func23 rfl ?_
  obtain ⟨h, -⟩ := hvs
  clear hA hM
  refine Goes.tree Γ_ok htb 1000 true false Try.func23 rfl ?_
  ((try simp only [decide_eq_true_eq, decide_eq_false_iff_not, Bool.not_eq_true', Bool.not_eq_false', Bool.not_true, Bool.not_false, Bool.and_eq_true, Bool.or_eq_true, bne_iff_ne, beq_iff_eq, ne_eq]); (try simp only [rng, lo, hi, mnI, mxI, Int.toNat_natCast, Sg.n, Nat.mul_one, Nat.zero_add, Nat.add_zero, Nat.reduceAdd, List.getD_cons_zero, List.getD_cons_succ, h]))
  ((repeat' (first | (with_reducible apply And.intro) | intro _)); all_goals (first | exact trivial | (with_reducible assumption) | (show (_ : List Blk) = _; rfl) | (first | exact trivial | (with_reducible assumption) | omega | (split <;> omega) | (split <;> split <;> omega)) | skip); all_goals (try (refine ⟨rfl, (by first | exact Nat.le_refl _ | exact Nat.le_of_ble_eq_true rfl), rfl, rfl, ?_, (by repeat' (first | exact trivial | rfl | apply And.intro)), rfl, rfl⟩)))
  all_goals (first | contradiction | exact sameA_refl _ | trace_state)
def eqSSS : Fun
  | [.fz .spot A, .fz .spot B], [] => some (.d true, [], [A = B ∧ A.length ≤ 1000 ∧ ∀ i, i < A.length → (A.getD i []).length ≤ 1000])
  | _, _ => .none
set_option maxRecDepth 100000 in
theorem s_eqSS : Sound Try.prog 24 eqSSS := by
  intro args M r M' vs h hvs
  unfold eqSSS at h
  split at h
  case h_2 => cases h
  rename_i A B
  cases h
  refine SpecOK.assume fun hA hM => ?_
  have htb := (TbOk.cons s_eqSpotS Try.func19 rfl rfl (TbOk.nil : TbOk Try.prog tb0))
  refine SpecOK.of_goes [] Try.func24 rfl ?_
  obtain ⟨⟨rfl, hl, hr⟩, -⟩ := hvs
  clear hA hM
  refine Goes.tree Γ_ok htb 1000 false false Try.func24 rfl ?_
  ((try simp only [decide_eq_true_eq, decide_eq_false_iff_not, Bool.not_eq_true', Bool.not_eq_false', Bool.not_true, Bool.not_false, Bool.and_eq_true, Bool.or_eq_true, bne_iff_ne, beq_iff_eq, ne_eq]); (try simp only [rng, lo, hi, mnI, mxI, Int.toNat_natCast, Sg.n, Nat.mul_one, Nat.zero_add, Nat.add_zero, Nat.reduceAdd, List.getD_cons_zero, List.getD_cons_succ]))
  ((repeat' (first | (with_reducible apply And.intro) | intro _)); all_goals (first | exact trivial | (with_reducible assumption) | (show (_ : List Blk) = _; rfl) | (first | exact trivial | (with_reducible assumption) | omega | (split <;> omega) | (split <;> split <;> omega)) | skip); all_goals (try (refine ⟨rfl, (by first | exact Nat.le_refl _ | exact Nat.le_of_ble_eq_true rfl), rfl, rfl, ?_, (by repeat' (first | exact trivial | rfl | apply And.intro)), rfl, rfl⟩)))
  all_goals (try exact absurd trivial (by assumption))
  refine ⟨?_⟩
  refine Goes.loopR (fun i : Nat => A.length - i) (fun i => i ≤ A.length) (fun i => (.fz .spot A :: .fz .spot A :: .any :: .any :: .any :: .i .i64 (i:Int) :: .any :: .any :: .any :: .any :: .any :: .any :: .any :: .any :: .any :: .any :: .any :: .any :: .any :: .any :: .any :: .any :: .any :: .any :: .any :: .any :: .any :: [])) (fun _ => []) 0 [] (by omega) ⟨rfl, rfl, rfl, (by repeat' (first | exact trivial | rfl | apply And.intro)), (by repeat' (first | exact trivial | rfl | apply And.intro)), rfl, rfl, rfl⟩ fun i hle ih => ?_
  have hri := hr i
  by_cases hlt : i < A.length
  · have hri := hri hlt
    refine Goes.tree Γ_ok htb 1000 false false Try.func24 rfl ?_
    ((try simp only [decide_eq_true_eq, decide_eq_false_iff_not, Bool.not_eq_true', Bool.not_eq_false', Bool.not_true, Bool.not_false, Bool.and_eq_true, Bool.or_eq_true, bne_iff_ne, beq_iff_eq, ne_eq]); (try simp only [rng, lo, hi, mnI, mxI, Int.toNat_natCast, Sg.n, Nat.mul_one, Nat.zero_add, Nat.add_zero, Nat.reduceAdd, List.getD_cons_zero, List.getD_cons_succ]))
    ((repeat' (first | (with_reducible apply And.intro) | intro _)); all_goals (first | exact trivial | (with_reducible assumption) | (show (_ : List Blk) = _; rfl) | (first | exact trivial | (with_reducible assumption) | omega | (split <;> omega) | (split <;> split <;> omega)) | skip); all_goals (try (refine ⟨rfl, (by first | exact Nat.le_refl _ | exact Nat.le_of_ble_eq_true rfl), rfl, rfl, ?_, (by repeat' (first | exact trivial | rfl | apply And.intro)), rfl, rfl⟩)))
    all_goals (first | exact absurd trivial (by assumption) | exact ⟨ih (i + 1) (by omega) (by omega) [] _ _ ⟨rfl, rfl, rfl, (by repeat' (first | exact trivial | rfl | apply And.intro)), (by repeat' (first | exact trivial | rfl | apply And.intro)), rfl, rfl, rfl⟩⟩ | trace_state)
  · obtain rfl : i = A.length := by omega
    clear ih
    refine Goes.tree Γ_ok htb 1000 false false Try.func24 rfl ?_
    ((try simp only [decide_eq_true_eq, decide_eq_false_iff_not, Bool.not_eq_true', Bool.not_eq_false', Bool.not_true, Bool.not_false, Bool.and_eq_true, Bool.or_eq_true, bne_iff_ne, beq_iff_eq, ne_eq]); (try simp only [rng, lo, hi, mnI, mxI, Int.toNat_natCast, Sg.n, Nat.mul_one, Nat.zero_add, Nat.add_zero, Nat.reduceAdd, List.getD_cons_zero, List.getD_cons_succ]))
    ((repeat' (first | (with_reducible apply And.intro) | intro _)); all_goals (first | exact trivial | (with_reducible assumption) | (show (_ : List Blk) = _; rfl) | (first | exact trivial | (with_reducible assumption) | omega | (split <;> omega) | (split <;> split <;> omega)) | skip); all_goals (try (refine ⟨rfl, (by first | exact Nat.le_refl _ | exact Nat.le_of_ble_eq_true rfl), rfl, rfl, ?_, (by repeat' (first | exact trivial | rfl | apply And.intro)), rfl, rfl⟩)))
    all_goals (first | contradiction | exact sameA_refl _ | trace_state)
/-- Marks of lists of lists. -/
def mkLL (k : Int) : List (List (List Int)) → List (List (List Int))
  | [] => []
  | Y :: l => mkL k Y.length :: mkLL (k + 2 * Y.length) l
def endK (k : Int) : List (List (List Int)) → Int
  | [] => k
  | Y :: l => endK (k + 2 * Y.length) l
theorem endK_snoc (Z : List (List Int)) : ∀ (L : List (List (List Int))) (k : Int), endK k (L ++ [Z]) = endK k L + 2 * Z.length
  | [], k => rfl
  | Y :: l, k => endK_snoc Z l _
theorem endK_take {L : List (List (List Int))} {k : Int} {i : Nat} (h : i < L.length) : endK k (L.take (i + 1)) = endK k (L.take i) + 2 * (L.getD i []).length := by
  rw [List.take_add_one, List.getElem?_eq_getElem h, List.getD_eq_getElem?_getD, List.getElem?_eq_getElem h]
  exact endK_snoc _ _ _
theorem mkLL_len : ∀ (L : List (List (List Int))) (k : Int), (mkLL k L).length = L.length
  | [], _ => rfl
  | Y :: l, k => by simp [mkLL, mkLL_len l]
theorem mkLL_get : ∀ (L : List (List (List Int))) (k : Int) (i : Nat), i < L.length → (mkLL k L).getD i [] = mkL (endK k (L.take i)) (L.getD i []).length
  | [], _, _, h => absurd h (Nat.not_lt_zero _)
  | Y :: l, k, 0, _ => rfl
  | Y :: l, k, i + 1, h => mkLL_get l _ i (Nat.lt_of_succ_lt_succ h)
theorem endK_le {n : Nat} : ∀ (L : List (List (List Int))) (k : Int), (∀ Y ∈ L, Y.length ≤ n) → k ≤ endK k L ∧ endK k L ≤ k + 2 * n * L.length
  | [], k, _ => ⟨Int.le_refl _, by simp [endK]⟩
  | Y :: l, k, h => by
    obtain ⟨h1, h2⟩ := endK_le l (k + 2 * Y.length) fun Z hZ => h Z (List.mem_cons_of_mem _ hZ)
    have h3 := h Y List.mem_cons_self
    have h4 : (2 * n * (Y :: l).length : Int) = 2 * n * l.length + 2 * n := by
      rw [List.length_cons, Int.natCast_add, Int.mul_add]; simp
    refine ⟨by show k ≤ endK _ l; omega, ?_⟩
    show endK _ l ≤ _
    rw [h4]; omega
def heldFS : Fun
  | [.fs .spot rows, .i .i64 k], [] => some (.i .i64 (k + 2 * rows.length), [], [rows = mkL k rows.length ∧ rows.length ≤ 1073741824 ∧ 0 ≤ k ∧ k ≤ 1073741824])
  | _, _ => .none
set_option maxRecDepth 100000 in
theorem s_heldF : Sound Try.prog 21 heldFS := by
  intro args M r M' vs h hvs
  unfold heldFS at h
  split at h
  case h_2 => cases h
  rename_i rows k
  cases h
  refine SpecOK.assume fun hA hM => ?_
  have htb := (TbOk.nil : TbOk Try.prog tb0)
  refine SpecOK.of_goes [] Try.func21 rfl ?_
  obtain ⟨⟨hr, hl, hk0, hk1⟩, -⟩ := hvs
  clear hA hM
  generalize rows.length = n at *
  subst hr
  have hlen := mkL_len k n
  refine Goes.tree Γ_ok htb 1000 false true Try.func21 rfl ?_
  refine ⟨?_⟩
  refine Goes.loopR (fun i : Nat => n - i) (fun i => i ≤ n) (fun i => (.fs .spot (mkL k n) :: .i .i64 (k + 2 * (i:Int)) :: .any :: .any :: .any :: .i .i64 (i:Int) :: .any :: .any :: .any :: .any :: .any :: .any :: .any :: .any :: .any :: .any :: .any :: .any :: .any :: .any :: .any :: .any :: .any :: .any :: .any :: .any :: .any :: .any :: .any :: .any :: .any :: .any :: .any :: [])) (fun i => []) 0 [] (by omega) ⟨rfl, rfl, rfl, (by rw [Int.ofNat_zero, Int.mul_zero, Int.add_zero]; exact (by repeat' (first | exact trivial | rfl | apply And.intro))), (by repeat' (first | exact trivial | rfl | apply And.intro)), rfl, rfl, rfl⟩ fun i hle ih => ?_
  have w1 : IntKind.i64.wrap (k + 2 * (i:Int) + 1) = k + 2 * i + 1 := wrap_of_rng (by simp only [rng, lo, hi]; omega)
  have w2 : IntKind.i64.wrap (k + 2 * (i:Int) + 1 + 1) = k + 2 * i + 1 + 1 := wrap_of_rng (by simp only [rng, lo, hi]; omega)
  have w3 : IntKind.i64.wrap ((i:Int) + 1) = i + 1 := wrap_of_rng (by simp only [rng, lo, hi]; omega)
  have hg : i < n → (mkL k n).getD i [] = [IntKind.i8.wrap (k + 2 * i), IntKind.i8.wrap (k + 2 * i + 1)] := fun h => mkL_get k n i h
  by_cases hlt : i < n
  · have hg := hg hlt
    refine Goes.tree Γ_ok htb 1000 false true Try.func21 rfl ?_
    ((try simp only [decide_eq_true_eq, decide_eq_false_iff_not, Bool.not_eq_true', Bool.not_eq_false', Bool.not_true, Bool.not_false, Bool.and_eq_true, Bool.or_eq_true, bne_iff_ne, beq_iff_eq, ne_eq]); (try simp only [rng, lo, hi, mnI, mxI, Int.toNat_natCast, Sg.n, Nat.mul_one, Nat.zero_add, Nat.add_zero, Nat.reduceAdd, List.getD_cons_zero, List.getD_cons_succ, w1, w2, w3, hg]))
    ((repeat' (first | (with_reducible apply And.intro) | intro _)); all_goals (first | exact trivial | (with_reducible assumption) | (show (_ : List Blk) = _; rfl) | (first | exact trivial | (with_reducible assumption) | omega | (split <;> omega) | (split <;> split <;> omega)) | skip); all_goals (try (refine ⟨rfl, (by first | exact Nat.le_refl _ | exact Nat.le_of_ble_eq_true rfl), rfl, rfl, ?_, (by repeat' (first | exact trivial | rfl | apply And.intro)), rfl, rfl⟩)))
    · exact absurd trivial (by assumption)
    · exact absurd trivial (by assumption)
    · refine ⟨ih (i + 1) (by omega) (by omega) [] _ _ ?_⟩
      refine ⟨rfl, rfl, rfl, ?_, (by repeat' (first | exact trivial | rfl | apply And.intro)), rfl, rfl, rfl⟩
      have e : k + 2 * ((i + 1 : Nat) : Int) = k + 2 * i + 1 + 1 := by omega
      rw [e]
      exact (by repeat' (first | exact trivial | rfl | apply And.intro))
  · obtain rfl : i = n := by omega
    clear ih
    refine Goes.tree Γ_ok htb 1000 false true Try.func21 rfl ?_
    ((try simp only [decide_eq_true_eq, decide_eq_false_iff_not, Bool.not_eq_true', Bool.not_eq_false', Bool.not_true, Bool.not_false, Bool.and_eq_true, Bool.or_eq_true, bne_iff_ne, beq_iff_eq, ne_eq]); (try simp only [rng, lo, hi, mnI, mxI, Int.toNat_natCast, Sg.n, Nat.mul_one, Nat.zero_add, Nat.add_zero, Nat.reduceAdd, List.getD_cons_zero, List.getD_cons_succ, w1, w2, w3]))
    ((repeat' (first | (with_reducible apply And.intro) | intro _)); all_goals (first | exact trivial | (with_reducible assumption) | (show (_ : List Blk) = _; rfl) | (first | exact trivial | (with_reducible assumption) | omega | (split <;> omega) | (split <;> split <;> omega)) | skip); all_goals (try (refine ⟨rfl, (by first | exact Nat.le_refl _ | exact Nat.le_of_ble_eq_true rfl), rfl, rfl, ?_, (by repeat' (first | exact trivial | rfl | apply And.intro)), rfl, rfl⟩)))
    all_goals (first | contradiction | exact sameA_refl _ | trace_state)
def heldSSS : Fun
  | [.fz .spot Z, .i .i64 k], [] => some (.i .i64 (endK k Z), [], [Z = mkLL k Z ∧ Z.length ≤ 1000 ∧ (∀ Y ∈ Z, Y.length ≤ 1000) ∧ 0 ≤ k ∧ k ≤ 1000])
  | _, _ => .none
set_option maxRecDepth 100000 in
theorem s_heldSS : Sound Try.prog 26 heldSSS := by
  intro args M r M' vs h hvs
  unfold heldSSS at h
  split at h
  case h_2 => cases h
  rename_i Z k
  cases h
  refine SpecOK.assume fun hA hM => ?_
  have htb := (TbOk.cons s_heldF Try.func21 rfl rfl (TbOk.nil : TbOk Try.prog tb0))
  refine SpecOK.of_goes [] Try.func26 rfl ?_
  obtain ⟨⟨hz, hl, hr, hk0, hk1⟩, -⟩ := hvs
  clear hA hM
  refine Goes.tree Γ_ok htb 1000 false false Try.func26 rfl ?_
  refine ⟨?_⟩
  refine Goes.loopR (fun i : Nat => Z.length - i) (fun i => i ≤ Z.length) (fun i => (.fz .spot Z :: .i .i64 (endK k (Z.take i)) :: .any :: .any :: .any :: .i .i64 (i:Int) :: .any :: .any :: .any :: .any :: .any :: .any :: .any :: .any :: .any :: .any :: .any :: .any :: .any :: .any :: .any :: [])) (fun _ => []) 0 [] (by omega) ⟨rfl, rfl, rfl, (by repeat' (first | exact trivial | rfl | apply And.intro)), (by repeat' (first | exact trivial | rfl | apply And.intro)), rfl, rfl, rfl⟩ fun i hle ih => ?_
  have he := endK_le (n := 1000) (Z.take i) k fun Y hY => hr Y (List.mem_of_mem_take hY)
  have htl : (Z.take i).length = i := by rw [List.length_take]; omega
  rw [htl] at he
  by_cases hlt : i < Z.length
  · have e1 := endK_take (k := k) hlt
    have e2 := hr _ (getD_mem (d := []) hlt)
    have e3 : Z.getD i [] = mkL (endK k (Z.take i)) (Z.getD i []).length := by
      have := mkLL_get Z k i hlt
      rw [← hz] at this; exact this
    have ih := ih (i + 1)
    rw [e1] at ih
    have he2 : endK k (Z.take i) ≤ 1000 + 2000 * 1000 := by
      have : (2 * (1000 : Nat) * i : Int) ≤ 2000 * 1000 := by omega
      omega
    generalize endK k (Z.take i) = K at *
    refine Goes.tree Γ_ok htb 1000 false false Try.func26 rfl ?_
    ((try simp only [decide_eq_true_eq, decide_eq_false_iff_not, Bool.not_eq_true', Bool.not_eq_false', Bool.not_true, Bool.not_false, Bool.and_eq_true, Bool.or_eq_true, bne_iff_ne, beq_iff_eq, ne_eq]); (try simp only [rng, lo, hi, mnI, mxI, Int.toNat_natCast, Sg.n, Nat.mul_one, Nat.zero_add, Nat.add_zero, Nat.reduceAdd, List.getD_cons_zero, List.getD_cons_succ]))
    ((repeat' (first | (with_reducible apply And.intro) | intro _)); all_goals (first | exact trivial | (with_reducible assumption) | (show (_ : List Blk) = _; rfl) | (first | exact trivial | (with_reducible assumption) | omega | (split <;> omega) | (split <;> split <;> omega)) | skip); all_goals (try (refine ⟨rfl, (by first | exact Nat.le_refl _ | exact Nat.le_of_ble_eq_true rfl), rfl, rfl, ?_, (by repeat' (first | exact trivial | rfl | apply And.intro)), rfl, rfl⟩)))
    all_goals (first | exact e3 | exact ⟨ih (by omega) (by omega) [] _ _ ⟨rfl, rfl, rfl, (by repeat' (first | exact trivial | rfl | apply And.intro)), (by repeat' (first | exact trivial | rfl | apply And.intro)), rfl, rfl, rfl⟩⟩ | omega | trace_state)
  · obtain rfl : i = Z.length := by omega
    clear ih
    rw [List.take_length]
    refine Goes.tree Γ_ok htb 1000 false false Try.func26 rfl ?_
    ((try simp only [decide_eq_true_eq, decide_eq_false_iff_not, Bool.not_eq_true', Bool.not_eq_false', Bool.not_true, Bool.not_false, Bool.and_eq_true, Bool.or_eq_true, bne_iff_ne, beq_iff_eq, ne_eq]); (try simp only [rng, lo, hi, mnI, mxI, Int.toNat_natCast, Sg.n, Nat.mul_one, Nat.zero_add, Nat.add_zero, Nat.reduceAdd, List.getD_cons_zero, List.getD_cons_succ]))
    ((repeat' (first | (with_reducible apply And.intro) | intro _)); all_goals (first | exact trivial | (with_reducible assumption) | (show (_ : List Blk) = _; rfl) | (first | exact trivial | (with_reducible assumption) | omega | (split <;> omega) | (split <;> split <;> omega)) | skip); all_goals (try (refine ⟨rfl, (by first | exact Nat.le_refl _ | exact Nat.le_of_ble_eq_true rfl), rfl, rfl, ?_, (by repeat' (first | exact trivial | rfl | apply And.intro)), rfl, rfl⟩)))
    all_goals (first | contradiction | exact sameA_refl _ | trace_state)
/-- Either way. -/
noncomputable def ydAnyS : Fun
  | [.ag .pas p], [] => some (.t2 (.fz .spot (ydL p)) (.i .i64 (ydC p)), [], [])
  | _, _ => .none
theorem s_ydAny : Sound Try.prog 23 ydAnyS := by
  intro args M r M' vs h hvs
  unfold ydAnyS at h
  split at h
  case h_2 => cases h
  rename_i p
  cases h
  by_cases h : okP p
  · rw [show ydL p = yL p (spots p) from if_pos h, show ydC p = 0 from if_pos h]
    exact s_ydOk [.ag .pas p] [] _ _ _ rfl ⟨h, trivial⟩
  · rw [show ydL p = [] from if_neg h, show ydC p = 1 from if_neg h]
    intro ρ vals w hD hM hid
    refine (s_ydErr [.ag .pas p] [] _ _ _ rfl ⟨h, trivial⟩ ρ vals w hD hM hid).mono ?_
    rintro e w' ⟨v, ρ', rfl, ⟨y, z, rfl, h4, h5⟩, h6, -⟩
    refine ⟨_, ρ', rfl, ⟨y, z, rfl, ?_, h5⟩, h6, fun i hi => by simp [AV.ids] at hi⟩
    obtain rfl : y = .slice none 0 0 := h4
    exact ⟨Nat.zero_le _, _, _, rfl, Nat.le_refl _, .inl rfl⟩
end Go.Proofs.Ytfelemoefhbphaa
