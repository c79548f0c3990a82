/- Idle hurdles: those on whose two sides the same yard lies; taken out of a list. -/
import Derived.Test.YtfelemoefhbphaaHurOf
import Derived.Test.YtfelemoefhbphaaYards
namespace Go.Proofs.Ytfelemoefhbphaa
open Go Go.Eng
set_option linter.unusedSimpArgs false
set_option linter.unusedVariables false
set_option maxRecDepth 100000
set_option maxHeartbeats 4000000

/-- The cell beyond a hurdle. -/
def othC (h : List Int) : List Int := ahead [h.getD 0 0, h.getD 1 0] (if h.getD 2 0 = 0 then 1 else 2)
/-- Do the two cells of a hurdle bear different names? -/
def delH (es : List (List Int × Int)) (h : List Int) : Bool := !decide (lkM es [h.getD 0 0, h.getD 1 0] = lkM es (othC h))
def delS : Fun
  | [.ag .hur h, .pw 0 .ref], [.r [.mp 1], .m .spot (.int .i64) es] => some (.b (delH es h), [.r [.mp 1], .m .spot (.int .i64) es], [near h])
  | _, _ => .none
set_option maxRecDepth 100000 in
theorem s_del : Sound Try.prog 134 delS := by
  intro args M r M' vs h hvs
  unfold delS at h
  split at h
  case h_2 => cases h
  rename_i h es
  cases h
  refine SpecOK.assume fun hA hM => ?_
  have htb := (TbOk.cons s_other Try.func107 rfl rfl (TbOk.nil : TbOk Try.prog tb0))
  refine SpecOK.of_goes [0, 1] Try.func134 rfl ?_
  obtain ⟨hn, -⟩ := hvs
  obtain ⟨a, b, c, rfl⟩ := len3 hA.1
  clear hA hM
  refine Goes.tree Γ_ok htb 1000 false false Try.func134 rfl ?_
  ((try simp only [decide_eq_true_eq, decide_eq_false_iff_not, Bool.not_eq_true', Bool.not_eq_false', Bool.not_true, Bool.not_false, Bool.and_eq_true, Bool.or_eq_true, bne_iff_ne, beq_iff_eq, ne_eq]); (try simp only [rng, lo, hi, mnI, mxI, Int.toNat_natCast, Sg.n, Nat.mul_one, Nat.zero_add, Nat.add_zero, Nat.reduceAdd, List.getD_cons_zero, List.getD_cons_succ]))
  ((repeat' (first | (with_reducible apply And.intro) | intro _)); all_goals (first | exact trivial | (with_reducible assumption) | (show (_ : List Blk) = _; rfl) | (first | exact trivial | (with_reducible assumption) | omega | (split <;> omega) | (split <;> split <;> omega)) | skip); all_goals (try (refine ⟨rfl, (by first | exact Nat.le_refl _ | exact Nat.le_of_ble_eq_true rfl), rfl, rfl, ?_, (by repeat' (first | exact trivial | rfl | apply And.intro)), rfl, rfl⟩)))
  all_goals exact sameA_refl _

def idxDelS : Fun
  | [.ow 0 n .hur 113, .fn 134 [(1, .ref)]], [.l .hur rows, .r [.mp 2], .m .spot (.int .i64) es] => some (.i .i64 (findI (delH es) rows), [.l .hur rows, .r [.mp 2], .m .spot (.int .i64) es], [n = rows.length ∧ rows.length ≤ 1000000 ∧ ∀ r ∈ rows, near r])
  | _, _ => .none
set_option maxRecDepth 100000 in
theorem s_idxDel : Sound Try.prog 152 idxDelS := by
  intro args M r M' vs h hvs
  unfold idxDelS at h
  split at h
  case h_2 => cases h
  rename_i n rows es
  cases h
  refine SpecOK.assume fun hA hM => ?_
  have htb := (TbOk.cons s_del Try.func134 rfl rfl (TbOk.nil : TbOk Try.prog tb0))
  refine SpecOK.of_goes [0, 1, 2] Try.func152 rfl ?_
  obtain ⟨⟨rfl, hl, hn⟩, -⟩ := hvs
  clear hA hM
  refine Goes.tree Γ_ok htb 1000 false false Try.func152 rfl ?_
  refine ⟨?_⟩
  refine Goes.loopR (fun i : Nat => rows.length - i) (fun i => i ≤ rows.length ∧ ∀ j, j < i → delH es (rows.getD j []) = false) (fun i => (.ow 0 rows.length .hur 113 :: .fn 134 [(1, .ref)] :: .any :: .any :: .any :: .any :: .any :: .i .i64 (rows.length:Int) :: .i .i64 (i:Int) :: .any :: .any :: .any :: .any :: .any :: .any :: .any :: .any :: .any :: .any :: [])) (fun _ => [.l .hur rows, .r [.mp 2], .m .spot (.int .i64) es]) 0 [0, 1, 2] ⟨by omega, fun j hj => by omega⟩ ⟨rfl, rfl, rfl, (by repeat' (first | exact trivial | rfl | apply And.intro)), (by repeat' (first | exact trivial | rfl | apply And.intro)), rfl, rfl, rfl⟩ fun i ⟨hle, hno⟩ ih => ?_
  by_cases hlt : i < rows.length
  · have hni := hn _ (getD_mem (d := []) hlt)
    refine Goes.tree Γ_ok htb 1000 false false Try.func152 rfl ?_
    ((try simp only [decide_eq_true_eq, decide_eq_false_iff_not, Bool.not_eq_true', Bool.not_eq_false', Bool.not_true, Bool.not_false, Bool.and_eq_true, Bool.or_eq_true, bne_iff_ne, beq_iff_eq, ne_eq]); (try simp only [rng, lo, hi, mnI, mxI, Int.toNat_natCast, Sg.n, Nat.mul_one, Nat.zero_add, Nat.add_zero, Nat.reduceAdd, List.getD_cons_zero, List.getD_cons_succ]))
    ((repeat' (first | (with_reducible apply And.intro) | intro _)); all_goals (first | exact trivial | (with_reducible assumption) | (show (_ : List Blk) = _; rfl) | (first | exact trivial | (with_reducible assumption) | omega | (split <;> omega) | (split <;> split <;> omega)) | skip); all_goals (try (refine ⟨rfl, (by first | exact Nat.le_refl _ | exact Nat.le_of_ble_eq_true rfl), rfl, rfl, ?_, (by repeat' (first | exact trivial | rfl | apply And.intro)), rfl, rfl⟩)))
    · rename_i h1 h2
      rw [findI_some (by omega) h2 hno]
      exact sameA_refl _
    · rename_i h1 h2
      refine ⟨ih (i + 1) ⟨by omega, fun j hj => ?_⟩ (by omega) [0, 1, 2] _ _ ⟨rfl, rfl, rfl, (by repeat' (first | exact trivial | rfl | apply And.intro)), (by repeat' (first | exact trivial | rfl | apply And.intro)), rfl, rfl, rfl⟩⟩
      by_cases hji : j = i
      · subst hji; exact h2
      · exact hno j (by omega)
  · obtain rfl : i = rows.length := by omega
    clear ih
    refine Goes.tree Γ_ok htb 1000 false false Try.func152 rfl ?_
    ((try simp only [decide_eq_true_eq, decide_eq_false_iff_not, Bool.not_eq_true', Bool.not_eq_false', Bool.not_true, Bool.not_false, Bool.and_eq_true, Bool.or_eq_true, bne_iff_ne, beq_iff_eq, ne_eq]); (try simp only [rng, lo, hi, mnI, mxI, Int.toNat_natCast, Sg.n, Nat.mul_one, Nat.zero_add, Nat.add_zero, Nat.reduceAdd, List.getD_cons_zero, List.getD_cons_succ]))
    ((repeat' (first | (with_reducible apply And.intro) | intro _)); all_goals (first | exact trivial | (with_reducible assumption) | (show (_ : List Blk) = _; rfl) | (first | exact trivial | (with_reducible assumption) | omega | (split <;> omega) | (split <;> split <;> omega)) | skip); all_goals (try (refine ⟨rfl, (by first | exact Nat.le_refl _ | exact Nat.le_of_ble_eq_true rfl), rfl, rfl, ?_, (by repeat' (first | exact trivial | rfl | apply And.intro)), rfl, rfl⟩)))
    rw [findI_none hno]
    exact sameA_refl _

/-! What is left behind the deletion. -/
def leftH (es : List (List Int × Int)) (rows : List (List Int)) : List (List Int) := rows.filter fun h => !delH es h
def dK (es : List (List Int × Int)) (rows : List (List Int)) (i0 : Nat) : Nat → List (List Int) × Nat
  | 0 => (rows, i0)
  | k + 1 => if delH es ((dK es rows i0 k).1.getD (i0 + 1 + k) []) = true then dK es rows i0 k else ((dK es rows i0 k).1.set (dK es rows i0 k).2 ((dK es rows i0 k).1.getD (i0 + 1 + k) []), (dK es rows i0 k).2 + 1)

theorem filter_snoc (es : List (List Int × Int)) (l : List (List Int)) (h : List Int) : leftH es (l ++ [h]) = leftH es l ++ if delH es h = true then [] else [h] := by
  unfold leftH
  rw [List.filter_append]
  congr 1
  cases hh : delH es h <;> simp [hh]
theorem take_snoc {α : Type} (l : List α) (d : α) {i : Nat} (h : i < l.length) : l.take (i + 1) = l.take i ++ [l.getD i d] := by
  rw [List.take_add_one, List.getElem?_eq_getElem h, List.getD_eq_getElem?_getD, List.getElem?_eq_getElem h]; rfl

theorem dK_ok {es : List (List Int × Int)} {rows : List (List Int)} {i0 : Nat} (h0 : i0 < rows.length) (hd : delH es (rows.getD i0 []) = true) (hno : ∀ j, j < i0 → delH es (rows.getD j []) = false) : ∀ k, i0 + 1 + k ≤ rows.length →
    (dK es rows i0 k).1.length = rows.length ∧ (dK es rows i0 k).2 ≤ i0 + k ∧ (∀ m, i0 + 1 + k ≤ m → (dK es rows i0 k).1.getD m [] = rows.getD m []) ∧ (dK es rows i0 k).1.take (dK es rows i0 k).2 = leftH es (rows.take (i0 + 1 + k)) ∧ ∀ r ∈ (dK es rows i0 k).1, r ∈ rows := by
  intro k
  induction k with
  | zero =>
    intro hk
    refine ⟨rfl, Nat.le_refl _, fun _ _ => rfl, ?_, fun r hr => hr⟩
    show rows.take i0 = leftH es (rows.take (i0 + 1 + 0))
    rw [Nat.add_zero, take_snoc rows [] h0, filter_snoc, if_pos hd, List.append_nil]
    have : ∀ n, n ≤ i0 → leftH es (rows.take n) = rows.take n := by
      intro n
      induction n with
      | zero => intro _; rfl
      | succ n ih =>
        intro hn
        rw [take_snoc rows [] (by omega), filter_snoc, ih (by omega), if_neg (by rw [hno n (by omega)]; decide)]
    exact (this i0 (Nat.le_refl _)).symm
  | succ k ih =>
    intro hk
    obtain ⟨a1, a2, a3, a4, a5⟩ := ih (by omega)
    have e1 : (dK es rows i0 k).1.getD (i0 + 1 + k) [] = rows.getD (i0 + 1 + k) [] := a3 _ (Nat.le_refl _)
    have e2 : rows.take (i0 + 1 + (k + 1)) = rows.take (i0 + 1 + k) ++ [rows.getD (i0 + 1 + k) []] := take_snoc (i := i0 + 1 + k) rows [] (by omega)
    rw [e2, filter_snoc]
    unfold dK
    rw [e1]
    split
    · exact ⟨a1, by omega, fun m hm => a3 m (by omega), by rw [List.append_nil]; exact a4, a5⟩
    · refine ⟨by rw [List.length_set]; exact a1, by dsimp only; omega, fun m hm => ?_, ?_, fun r hr => ?_⟩
      · rw [List.getD_eq_getElem?_getD, List.getElem?_set, if_neg (by omega), ← List.getD_eq_getElem?_getD]
        exact a3 m (by omega)
      · dsimp only
        rw [← a4, take_snoc _ [] (by rw [List.length_set, a1]; omega), List.take_set_of_le (Nat.le_refl _)]
        congr 2
        rw [List.getD_eq_getElem?_getD, List.getElem?_set_self (by rw [a1]; omega)]; rfl
      · rcases List.mem_or_eq_of_mem_set hr with hr | rfl
        · exact a5 r hr
        · exact getD_mem (by omega)

def delOkS : Fun
  | [.ow 0 n .hur 113, .fn 134 [(1, .ref)]], [.l .hur rows, .r [.mp 2], .m .spot (.int .i64) es] => some (.ow 3 (leftH es rows).length .hur 113, [.dead, .r [.mp 2], .m .spot (.int .i64) es, .l .hur (leftH es rows)], [n = rows.length ∧ rows.length ≤ 1000000 ∧ (∀ r ∈ rows, near r) ∧ rows.any (delH es) = true])
  | _, _ => .none
set_option maxRecDepth 100000 in
theorem s_delOk : Sound Try.prog 132 delOkS := by
  intro args M r M' vs h hvs
  unfold delOkS at h
  split at h
  case h_2 => cases h
  rename_i n rows es
  cases h
  refine SpecOK.assume fun hA hM => ?_
  have htb := (TbOk.cons s_del Try.func134 rfl rfl (TbOk.cons s_idxDel Try.func152 rfl rfl (TbOk.nil : TbOk Try.prog tb0)))
  refine SpecOK.of_goes [0, 1, 2, 3] Try.func132 rfl ?_
  obtain ⟨⟨rfl, hl, hn, ha⟩, -⟩ := hvs
  clear hA hM
  obtain ⟨i0, h0, hf, hd, hno⟩ : ∃ i0 : Nat, i0 < rows.length ∧ findI (delH es) rows = (i0 : Int) ∧ delH es (rows.getD i0 []) = true ∧ ∀ j, j < i0 → delH es (rows.getD j []) = false := by
    have ha' := findI_any (delH es) rows
    rw [ha] at ha'
    have h1 : 0 ≤ findI (delH es) rows := of_decide_eq_true ha'
    refine ⟨rows.findIdx (delH es), List.findIdx_lt_length_of_exists (List.any_eq_true.1 ha), ?_, ?_, ?_⟩
    · unfold findI
      rw [if_pos ha]
    · have hlt := List.findIdx_lt_length_of_exists (List.any_eq_true.1 ha)
      rw [List.getD_eq_getElem?_getD, List.getElem?_eq_getElem hlt]
      exact List.findIdx_getElem
    · intro j hj
      have hlt := List.findIdx_lt_length_of_exists (List.any_eq_true.1 ha)
      rw [List.getD_eq_getElem?_getD, List.getElem?_eq_getElem (by omega)]
      have := List.not_of_lt_findIdx hj
      simpa using this
  have hK := dK_ok h0 hd hno
  refine Goes.tree Γ_ok htb 1000 false false Try.func132 rfl ?_
  ((try simp only [decide_eq_true_eq, decide_eq_false_iff_not, Bool.not_eq_true', Bool.not_eq_false', Bool.not_true, Bool.not_false, Bool.and_eq_true, Bool.or_eq_true, bne_iff_ne, beq_iff_eq, ne_eq]); (try simp only [rng, lo, hi, mnI, mxI, Int.toNat_natCast, Sg.n, Nat.mul_one, Nat.zero_add, Nat.add_zero, Nat.reduceAdd, List.getD_cons_zero, List.getD_cons_succ, hf]))
  ((repeat' (first | (with_reducible apply And.intro) | intro _)); all_goals (first | exact trivial | (with_reducible assumption) | (show (_ : List Blk) = _; rfl) | (first | exact trivial | (with_reducible assumption) | omega | (split <;> omega) | (split <;> split <;> omega)) | skip); all_goals (try (refine ⟨rfl, (by first | exact Nat.le_refl _ | exact Nat.le_of_ble_eq_true rfl), rfl, rfl, ?_, (by repeat' (first | exact trivial | rfl | apply And.intro)), rfl, rfl⟩)))
  all_goals (try first | exact hn _ (by assumption) | contradiction)
  refine ⟨?_⟩
  refine Goes.loopR (fun k : Nat => rows.length - k) (fun k => i0 + 1 + k ≤ rows.length) (fun k => (.ow 0 rows.length .hur 113 :: .fn 134 [(1, .ref)] :: .any :: .any :: .any :: .i .i64 ((dK es rows i0 k).2 : Int) :: .i .i64 (((i0 + 1 + k : Nat)) : Int) :: .any :: .any :: .any :: .any :: .any :: .any :: .any :: .any :: .any :: .any :: .any :: .any :: .any :: .any :: .any :: .any :: .any :: .any :: .any :: .any :: .any :: .any :: .any :: .any :: .any :: .any :: .any :: .any :: .any :: .any :: .any :: .any :: .any :: .any :: .any :: []))
    (fun k => [.l .hur (dK es rows i0 k).1, .r [.mp 2], .m .spot (.int .i64) es]) 0 [0, 1, 2] (by omega) ⟨rfl, rfl, rfl, (by repeat' (first | exact trivial | rfl | apply And.intro)), (by repeat' (first | exact trivial | rfl | apply And.intro)), rfl, rfl, rfl⟩ fun k hk ih => ?_
  obtain ⟨a1, a2, a3, a4, a5⟩ := hK k hk
  by_cases hlt : i0 + 1 + k < rows.length
  · have hni : near ((dK es rows i0 k).1.getD (i0 + 1 + k) []) := hn _ (a5 _ (getD_mem (by omega)))
    have hyes : delH es ((dK es rows i0 k).1.getD (i0 + 1 + k) []) = true → dK es rows i0 (k + 1) = dK es rows i0 k := fun h => if_pos h
    have hnot : delH es ((dK es rows i0 k).1.getD (i0 + 1 + k) []) = false → dK es rows i0 (k + 1) = ((dK es rows i0 k).1.set (dK es rows i0 k).2 ((dK es rows i0 k).1.getD (i0 + 1 + k) []), (dK es rows i0 k).2 + 1) := fun h => if_neg (by rw [h]; decide)
    refine Goes.tree Γ_ok htb 1000 false false Try.func132 rfl ?_
    ((try simp only [decide_eq_true_eq, decide_eq_false_iff_not, Bool.not_eq_true', Bool.not_eq_false', Bool.not_true, Bool.not_false, Bool.and_eq_true, Bool.or_eq_true, bne_iff_ne, beq_iff_eq, ne_eq]); (try simp only [rng, lo, hi, mnI, mxI, Int.toNat_natCast, Sg.n, Nat.mul_one, Nat.zero_add, Nat.add_zero, Nat.reduceAdd, List.getD_cons_zero, List.getD_cons_succ]))
    ((repeat' (first | (with_reducible apply And.intro) | intro _)); all_goals (first | exact trivial | (with_reducible assumption) | (show (_ : List Blk) = _; rfl) | (first | exact trivial | (with_reducible assumption) | omega | (split <;> omega) | (split <;> split <;> omega)) | skip); all_goals (try (refine ⟨rfl, (by first | exact Nat.le_refl _ | exact Nat.le_of_ble_eq_true rfl), rfl, rfl, ?_, (by repeat' (first | exact trivial | rfl | apply And.intro)), rfl, rfl⟩)))
    · refine ⟨ih (k + 1) (by omega) (by omega) [0, 1, 2] _ _ ?_⟩
      rw [hnot (by assumption)]
      exact ⟨rfl, rfl, rfl, (by repeat' (first | exact trivial | rfl | apply And.intro)), (by repeat' (first | exact trivial | rfl | apply And.intro)), rfl, rfl, rfl⟩
    · refine ⟨ih (k + 1) (by omega) (by omega) [0, 1, 2] _ _ ?_⟩
      rw [hyes (by assumption)]
      exact ⟨rfl, rfl, rfl, (by repeat' (first | exact trivial | rfl | apply And.intro)), (by repeat' (first | exact trivial | rfl | apply And.intro)), rfl, rfl, rfl⟩
  · have hle : (dK es rows i0 k).2 < rows.length := by omega
    have hfin : leftH es rows = (dK es rows i0 k).1.take (dK es rows i0 k).2 := by rw [a4, List.take_of_length_le (by omega)]
    have hl1 : ((dK es rows i0 k).1.take (dK es rows i0 k).2).length = (dK es rows i0 k).2 := by rw [List.length_take]; omega
    have hf2 : ∀ Z : List (List Int), List.take (dK es rows i0 k).2 (List.take ((dK es rows i0 k).2 * 3 / 3) (dK es rows i0 k).1 ++ Z) = (dK es rows i0 k).1.take (dK es rows i0 k).2 := fun Z => by
      rw [Nat.mul_div_cancel _ (by decide), List.take_append_of_le_length (by rw [hl1]; exact Nat.le_refl _), List.take_take, Nat.min_self]
    rw [hfin, hl1]
    clear ih
    refine Goes.tree Γ_ok htb 1000 false false Try.func132 rfl ?_
    ((try simp only [decide_eq_true_eq, decide_eq_false_iff_not, Bool.not_eq_true', Bool.not_eq_false', Bool.not_true, Bool.not_false, Bool.and_eq_true, Bool.or_eq_true, bne_iff_ne, beq_iff_eq, ne_eq]); (try simp only [rng, lo, hi, mnI, mxI, Int.toNat_natCast, Sg.n, Nat.mul_one, Nat.zero_add, Nat.add_zero, Nat.reduceAdd, List.getD_cons_zero, List.getD_cons_succ, hf2]))
    ((repeat' (first | (with_reducible apply And.intro) | intro _)); all_goals (first | exact trivial | (with_reducible assumption) | (show (_ : List Blk) = _; rfl) | (first | exact trivial | (with_reducible assumption) | omega | (split <;> omega) | (split <;> split <;> omega)) | skip); all_goals (try (refine ⟨rfl, (by first | exact Nat.le_refl _ | exact Nat.le_of_ble_eq_true rfl), rfl, rfl, ?_, (by repeat' (first | exact trivial | rfl | apply And.intro)), rfl, rfl⟩)))
    all_goals (first | exact sameA_refl _ | trace_state)

def delNoS : Fun
  | [.ow 0 n .hur 113, .fn 134 [(1, .ref)]], [.l .hur rows, .r [.mp 2], .m .spot (.int .i64) es] => some (.ow 0 n .hur 113, [.l .hur rows, .r [.mp 2], .m .spot (.int .i64) es], [n = rows.length ∧ rows.length ≤ 1000000 ∧ (∀ r ∈ rows, near r) ∧ ¬ rows.any (delH es) = true])
  | _, _ => .none
set_option maxRecDepth 100000 in
theorem s_delNo : Sound Try.prog 132 delNoS := by
  intro args M r M' vs h hvs
  unfold delNoS at h
  split at h
  case h_2 => cases h
  rename_i n rows es
  cases h
  refine SpecOK.assume fun hA hM => ?_
  have htb := (TbOk.cons s_del Try.func134 rfl rfl (TbOk.cons s_idxDel Try.func152 rfl rfl (TbOk.nil : TbOk Try.prog tb0)))
  refine SpecOK.of_goes [0, 1, 2] Try.func132 rfl ?_
  obtain ⟨⟨rfl, hl, hn, ha⟩, -⟩ := hvs
  clear hA hM
  have hf : findI (delH es) rows = -1 := by unfold findI; rw [if_neg ha]
  refine Goes.tree Γ_ok htb 1000 false false Try.func132 rfl ?_
  ((try simp only [decide_eq_true_eq, decide_eq_false_iff_not, Bool.not_eq_true', Bool.not_eq_false', Bool.not_true, Bool.not_false, Bool.and_eq_true, Bool.or_eq_true, bne_iff_ne, beq_iff_eq, ne_eq]); (try simp only [rng, lo, hi, mnI, mxI, Int.toNat_natCast, Sg.n, Nat.mul_one, Nat.zero_add, Nat.add_zero, Nat.reduceAdd, List.getD_cons_zero, List.getD_cons_succ, hf]))
  ((repeat' (first | (with_reducible apply And.intro) | intro _)); all_goals (first | exact trivial | (with_reducible assumption) | (show (_ : List Blk) = _; rfl) | (first | exact trivial | (with_reducible assumption) | omega | (split <;> omega) | (split <;> split <;> omega)) | skip); all_goals (try (refine ⟨rfl, (by first | exact Nat.le_refl _ | exact Nat.le_of_ble_eq_true rfl), rfl, rfl, ?_, (by repeat' (first | exact trivial | rfl | apply And.intro)), rfl, rfl⟩)))
  all_goals (try first | exact hn _ (by assumption) | contradiction | exact sameA_refl _)
  all_goals trace_state
end Go.Proofs.Ytfelemoefhbphaa
