/- What two lists share: those of the one that are not in the other are taken out. -/
import Derived.Test.YtjbgjgkogmlpfaaGreatNearS
namespace Go.Proofs.YtjbgjgkogmlpfaaGreat
open Go Go.Eng
set_option linter.unusedSimpArgs false
set_option linter.unusedVariables false
set_option maxRecDepth 100000
set_option maxHeartbeats 4000000

/-- Is a cell not in the other list? -/
def delG (G : List (List Int)) (c : List Int) : Bool := !hasR G c
def delGS : Fun
  | [.ag .spot c, .pw 0 .ref], [.r [.fs .spot G]] => some (.b (delG G c), [.r [.fs .spot G]], [])
  | _, _ => .none
set_option maxRecDepth 100000 in
theorem s_delG : Sound Tryz.prog 58 delGS := by
  intro args M r M' vs h hvs
  unfold delGS at h
  split at h
  case h_2 => cases h
  rename_i c G
  cases h
  refine SpecOK.assume fun hA hM => ?_
  have htb := (TbOk.cons s_hasR Tryz.func59 rfl rfl (TbOk.nil : TbOk Tryz.prog tb0))
  refine SpecOK.of_goes [0] Tryz.func58 rfl ?_
  clear hA hM
  refine Goes.tree Γ_ok htb 1000 false false Tryz.func58 rfl ?_
  ((try simp only [decide_eq_true_eq, decide_eq_false_iff_not, Bool.not_eq_true', Bool.not_eq_false', Bool.not_true, Bool.not_false, Bool.and_eq_true, Bool.or_eq_true, bne_iff_ne, beq_iff_eq, ne_eq]); (try simp only [rng, lo, hi, mnI, mxI, Int.toNat_natCast, Sg.n, Nat.mul_one, Nat.zero_add, Nat.add_zero, Nat.reduceAdd, List.getD_cons_zero, List.getD_cons_succ]))
  ((repeat' (first | (with_reducible apply And.intro) | intro _)); all_goals (first | exact trivial | (with_reducible assumption) | (show (_ : List Blk) = _; rfl) | (first | exact trivial | (with_reducible assumption) | omega | (split <;> omega) | (split <;> split <;> omega)) | skip); all_goals (try (refine ⟨rfl, (by first | exact Nat.le_refl _ | exact Nat.le_of_ble_eq_true rfl), rfl, rfl, ?_, (by repeat' (first | exact trivial | rfl | apply And.intro)), rfl, rfl⟩)))
  all_goals exact sameA_refl _

def idxDelGS : Fun
  | [.ow 0 n .spot 54, .fn 58 [(1, .ref)]], [.l .spot rows, .r [.fs .spot G]] => some (.i .i64 (findI (delG G) rows), [.l .spot rows, .r [.fs .spot G]], [n = rows.length ∧ rows.length ≤ 10000000])
  | _, _ => .none
set_option maxRecDepth 100000 in
theorem s_idxDelG : Sound Tryz.prog 74 idxDelGS := by
  intro args M r M' vs h hvs
  unfold idxDelGS at h
  split at h
  case h_2 => cases h
  rename_i n rows G
  cases h
  refine SpecOK.assume fun hA hM => ?_
  have htb := (TbOk.cons s_delG Tryz.func58 rfl rfl (TbOk.nil : TbOk Tryz.prog tb0))
  refine SpecOK.of_goes [0, 1] Tryz.func74 rfl ?_
  obtain ⟨⟨rfl, hl⟩, -⟩ := hvs
  clear hA hM
  refine Goes.tree Γ_ok htb 1000 false false Tryz.func74 rfl ?_
  refine ⟨?_⟩
  refine Goes.loopR (fun i : Nat => rows.length - i) (fun i => i ≤ rows.length ∧ ∀ j, j < i → delG G (rows.getD j []) = false) (fun i => (.ow 0 rows.length .spot 54 :: .fn 58 [(1, .ref)] :: .any :: .any :: .any :: .any :: .any :: .i .i64 (rows.length:Int) :: .i .i64 (i:Int) :: .any :: .any :: .any :: .any :: .any :: .any :: .any :: .any :: .any :: .any :: [])) (fun _ => [.l .spot rows, .r [.fs .spot G]]) 0 [0, 1] ⟨by omega, fun j hj => by omega⟩ ⟨rfl, rfl, rfl, (by repeat' (first | exact trivial | rfl | apply And.intro)), (by repeat' (first | exact trivial | rfl | apply And.intro)), rfl, rfl, rfl⟩ fun i ⟨hle, hno⟩ ih => ?_
  by_cases hlt : i < rows.length
  · refine Goes.tree Γ_ok htb 1000 false false Tryz.func74 rfl ?_
    ((try simp only [decide_eq_true_eq, decide_eq_false_iff_not, Bool.not_eq_true', Bool.not_eq_false', Bool.not_true, Bool.not_false, Bool.and_eq_true, Bool.or_eq_true, bne_iff_ne, beq_iff_eq, ne_eq]); (try simp only [rng, lo, hi, mnI, mxI, Int.toNat_natCast, Sg.n, Nat.mul_one, Nat.zero_add, Nat.add_zero, Nat.reduceAdd, List.getD_cons_zero, List.getD_cons_succ]))
    ((repeat' (first | (with_reducible apply And.intro) | intro _)); all_goals (first | exact trivial | (with_reducible assumption) | (show (_ : List Blk) = _; rfl) | (first | exact trivial | (with_reducible assumption) | omega | (split <;> omega) | (split <;> split <;> omega)) | skip); all_goals (try (refine ⟨rfl, (by first | exact Nat.le_refl _ | exact Nat.le_of_ble_eq_true rfl), rfl, rfl, ?_, (by repeat' (first | exact trivial | rfl | apply And.intro)), rfl, rfl⟩)))
    · rename_i h1 h2
      rw [findI_some (by omega) h2 hno]
      exact sameA_refl _
    · rename_i h1 h2
      refine ⟨ih (i + 1) ⟨by omega, fun j hj => ?_⟩ (by omega) [0, 1] _ _ ⟨rfl, rfl, rfl, (by repeat' (first | exact trivial | rfl | apply And.intro)), (by repeat' (first | exact trivial | rfl | apply And.intro)), rfl, rfl, rfl⟩⟩
      by_cases hji : j = i
      · subst hji; exact h2
      · exact hno j (by omega)
  · obtain rfl : i = rows.length := by omega
    clear ih
    refine Goes.tree Γ_ok htb 1000 false false Tryz.func74 rfl ?_
    ((try simp only [decide_eq_true_eq, decide_eq_false_iff_not, Bool.not_eq_true', Bool.not_eq_false', Bool.not_true, Bool.not_false, Bool.and_eq_true, Bool.or_eq_true, bne_iff_ne, beq_iff_eq, ne_eq]); (try simp only [rng, lo, hi, mnI, mxI, Int.toNat_natCast, Sg.n, Nat.mul_one, Nat.zero_add, Nat.add_zero, Nat.reduceAdd, List.getD_cons_zero, List.getD_cons_succ]))
    ((repeat' (first | (with_reducible apply And.intro) | intro _)); all_goals (first | exact trivial | (with_reducible assumption) | (show (_ : List Blk) = _; rfl) | (first | exact trivial | (with_reducible assumption) | omega | (split <;> omega) | (split <;> split <;> omega)) | skip); all_goals (try (refine ⟨rfl, (by first | exact Nat.le_refl _ | exact Nat.le_of_ble_eq_true rfl), rfl, rfl, ?_, (by repeat' (first | exact trivial | rfl | apply And.intro)), rfl, rfl⟩)))
    rw [findI_none hno]
    exact sameA_refl _

/-! What is left behind the deletion. -/
def leftG (G : List (List Int)) (rows : List (List Int)) : List (List Int) := rows.filter fun h => !delG G h
def dKG (G : List (List Int)) (rows : List (List Int)) (i0 : Nat) : Nat → List (List Int) × Nat
  | 0 => (rows, i0)
  | k + 1 => if delG G ((dKG G rows i0 k).1.getD (i0 + 1 + k) []) = true then dKG G rows i0 k else ((dKG G rows i0 k).1.set (dKG G rows i0 k).2 ((dKG G rows i0 k).1.getD (i0 + 1 + k) []), (dKG G rows i0 k).2 + 1)

theorem filterG_snoc (G : List (List Int)) (l : List (List Int)) (h : List Int) : leftG G (l ++ [h]) = leftG G l ++ if delG G h = true then [] else [h] := by
  unfold leftG
  rw [List.filter_append]
  congr 1
  cases hh : delG G h <;> simp [hh]
theorem take_snocG {α : Type} (l : List α) (d : α) {i : Nat} (h : i < l.length) : l.take (i + 1) = l.take i ++ [l.getD i d] := by
  rw [List.take_add_one, List.getElem?_eq_getElem h, List.getD_eq_getElem?_getD, List.getElem?_eq_getElem h]; rfl

theorem dKG_ok {G : List (List Int)} {rows : List (List Int)} {i0 : Nat} (h0 : i0 < rows.length) (hd : delG G (rows.getD i0 []) = true) (hno : ∀ j, j < i0 → delG G (rows.getD j []) = false) : ∀ k, i0 + 1 + k ≤ rows.length →
    (dKG G rows i0 k).1.length = rows.length ∧ (dKG G rows i0 k).2 ≤ i0 + k ∧ (∀ m, i0 + 1 + k ≤ m → (dKG G rows i0 k).1.getD m [] = rows.getD m []) ∧ (dKG G rows i0 k).1.take (dKG G rows i0 k).2 = leftG G (rows.take (i0 + 1 + k)) ∧ ∀ r ∈ (dKG G rows i0 k).1, r ∈ rows := by
  intro k
  induction k with
  | zero =>
    intro hk
    refine ⟨rfl, Nat.le_refl _, fun _ _ => rfl, ?_, fun r hr => hr⟩
    show rows.take i0 = leftG G (rows.take (i0 + 1 + 0))
    rw [Nat.add_zero, take_snocG rows [] h0, filterG_snoc, if_pos hd, List.append_nil]
    have : ∀ n, n ≤ i0 → leftG G (rows.take n) = rows.take n := by
      intro n
      induction n with
      | zero => intro _; rfl
      | succ n ih =>
        intro hn
        rw [take_snocG rows [] (by omega), filterG_snoc, ih (by omega), if_neg (by rw [hno n (by omega)]; decide)]
    exact (this i0 (Nat.le_refl _)).symm
  | succ k ih =>
    intro hk
    obtain ⟨a1, a2, a3, a4, a5⟩ := ih (by omega)
    have e1 : (dKG G rows i0 k).1.getD (i0 + 1 + k) [] = rows.getD (i0 + 1 + k) [] := a3 _ (Nat.le_refl _)
    have e2 : rows.take (i0 + 1 + (k + 1)) = rows.take (i0 + 1 + k) ++ [rows.getD (i0 + 1 + k) []] := take_snocG (i := i0 + 1 + k) rows [] (by omega)
    rw [e2, filterG_snoc]
    unfold dKG
    rw [e1]
    split
    · exact ⟨a1, by omega, fun m hm => a3 m (by omega), by rw [List.append_nil]; exact a4, a5⟩
    · refine ⟨by rw [List.length_set]; exact a1, by dsimp only; omega, fun m hm => ?_, ?_, fun r hr => ?_⟩
      · rw [List.getD_eq_getElem?_getD, List.getElem?_set, if_neg (by omega), ← List.getD_eq_getElem?_getD]
        exact a3 m (by omega)
      · dsimp only
        rw [← a4, take_snocG _ [] (by rw [List.length_set, a1]; omega), List.take_set_of_le (Nat.le_refl _)]
        congr 2
        rw [List.getD_eq_getElem?_getD, List.getElem?_set_self (by rw [a1]; omega)]; rfl
      · rcases List.mem_or_eq_of_mem_set hr with hr | rfl
        · exact a5 r hr
        · exact Fl.get_mem (by omega)

def delGOkS : Fun
  | [.ow 0 n .spot 54, .fn 58 [(1, .ref)]], [.l .spot rows, .r [.fs .spot G]] => some (.ow 2 (leftG G rows).length .spot 54, [.dead, .r [.fs .spot G], .l .spot (leftG G rows)], [n = rows.length ∧ rows.length ≤ 10000000 ∧ rows.any (delG G) = true])
  | _, _ => .none
set_option maxRecDepth 100000 in
theorem s_delGOk : Sound Tryz.prog 56 delGOkS := by
  intro args M r M' vs h hvs
  unfold delGOkS at h
  split at h
  case h_2 => cases h
  rename_i n rows G
  cases h
  refine SpecOK.assume fun hA hM => ?_
  have htb := (TbOk.cons s_delG Tryz.func58 rfl rfl (TbOk.cons s_idxDelG Tryz.func74 rfl rfl (TbOk.nil : TbOk Tryz.prog tb0)))
  refine SpecOK.of_goes [0, 1, 2] Tryz.func56 rfl ?_
  obtain ⟨⟨rfl, hl, ha⟩, -⟩ := hvs
  clear hA hM
  obtain ⟨i0, h0, hf, hd, hno⟩ : ∃ i0 : Nat, i0 < rows.length ∧ findI (delG G) rows = (i0 : Int) ∧ delG G (rows.getD i0 []) = true ∧ ∀ j, j < i0 → delG G (rows.getD j []) = false := by
    have ha' := findI_any (delG G) rows
    rw [ha] at ha'
    have h1 : 0 ≤ findI (delG G) rows := of_decide_eq_true ha'
    refine ⟨rows.findIdx (delG G), List.findIdx_lt_length_of_exists (List.any_eq_true.1 ha), ?_, ?_, ?_⟩
    · unfold findI
      rw [if_pos ha]
    · have hlt := List.findIdx_lt_length_of_exists (List.any_eq_true.1 ha)
      rw [List.getD_eq_getElem?_getD, List.getElem?_eq_getElem hlt]
      exact List.findIdx_getElem
    · intro j hj
      have hlt := List.findIdx_lt_length_of_exists (List.any_eq_true.1 ha)
      rw [List.getD_eq_getElem?_getD, List.getElem?_eq_getElem (by omega)]
      have := List.not_of_lt_findIdx hj
      simpa using this
  have hK := dKG_ok h0 hd hno
  refine Goes.tree Γ_ok htb 1000 false false Tryz.func56 rfl ?_
  ((try simp only [decide_eq_true_eq, decide_eq_false_iff_not, Bool.not_eq_true', Bool.not_eq_false', Bool.not_true, Bool.not_false, Bool.and_eq_true, Bool.or_eq_true, bne_iff_ne, beq_iff_eq, ne_eq]); (try simp only [rng, lo, hi, mnI, mxI, Int.toNat_natCast, Sg.n, Nat.mul_one, Nat.zero_add, Nat.add_zero, Nat.reduceAdd, List.getD_cons_zero, List.getD_cons_succ, hf]))
  ((repeat' (first | (with_reducible apply And.intro) | intro _)); all_goals (first | exact trivial | (with_reducible assumption) | (show (_ : List Blk) = _; rfl) | (first | exact trivial | (with_reducible assumption) | omega | (split <;> omega) | (split <;> split <;> omega)) | skip); all_goals (try (refine ⟨rfl, (by first | exact Nat.le_refl _ | exact Nat.le_of_ble_eq_true rfl), rfl, rfl, ?_, (by repeat' (first | exact trivial | rfl | apply And.intro)), rfl, rfl⟩)))
  all_goals (try first | contradiction)
  refine ⟨?_⟩
  refine Goes.loopR (fun k : Nat => rows.length - k) (fun k => i0 + 1 + k ≤ rows.length) (fun k => (.ow 0 rows.length .spot 54 :: .fn 58 [(1, .ref)] :: .any :: .any :: .any :: .i .i64 ((dKG G rows i0 k).2 : Int) :: .i .i64 (((i0 + 1 + k : Nat)) : Int) :: .any :: .any :: .any :: .any :: .any :: .any :: .any :: .any :: .any :: .any :: .any :: .any :: .any :: .any :: .any :: .any :: .any :: .any :: .any :: .any :: .any :: .any :: .any :: .any :: .any :: .any :: .any :: .any :: .any :: .any :: .any :: .any :: .any :: .any :: .any :: []))
    (fun k => [.l .spot (dKG G rows i0 k).1, .r [.fs .spot G]]) 0 [0, 1] (by omega) ⟨rfl, rfl, rfl, (by repeat' (first | exact trivial | rfl | apply And.intro)), (by repeat' (first | exact trivial | rfl | apply And.intro)), rfl, rfl, rfl⟩ fun k hk ih => ?_
  obtain ⟨a1, a2, a3, a4, a5⟩ := hK k hk
  by_cases hlt : i0 + 1 + k < rows.length
  · have hyes : delG G ((dKG G rows i0 k).1.getD (i0 + 1 + k) []) = true → dKG G rows i0 (k + 1) = dKG G rows i0 k := fun h => if_pos h
    have hnot : delG G ((dKG G rows i0 k).1.getD (i0 + 1 + k) []) = false → dKG G rows i0 (k + 1) = ((dKG G rows i0 k).1.set (dKG G rows i0 k).2 ((dKG G rows i0 k).1.getD (i0 + 1 + k) []), (dKG G rows i0 k).2 + 1) := fun h => if_neg (by rw [h]; decide)
    refine Goes.tree Γ_ok htb 1000 false false Tryz.func56 rfl ?_
    ((try simp only [decide_eq_true_eq, decide_eq_false_iff_not, Bool.not_eq_true', Bool.not_eq_false', Bool.not_true, Bool.not_false, Bool.and_eq_true, Bool.or_eq_true, bne_iff_ne, beq_iff_eq, ne_eq]); (try simp only [rng, lo, hi, mnI, mxI, Int.toNat_natCast, Sg.n, Nat.mul_one, Nat.zero_add, Nat.add_zero, Nat.reduceAdd, List.getD_cons_zero, List.getD_cons_succ]))
    ((repeat' (first | (with_reducible apply And.intro) | intro _)); all_goals (first | exact trivial | (with_reducible assumption) | (show (_ : List Blk) = _; rfl) | (first | exact trivial | (with_reducible assumption) | omega | (split <;> omega) | (split <;> split <;> omega)) | skip); all_goals (try (refine ⟨rfl, (by first | exact Nat.le_refl _ | exact Nat.le_of_ble_eq_true rfl), rfl, rfl, ?_, (by repeat' (first | exact trivial | rfl | apply And.intro)), rfl, rfl⟩)))
    · refine ⟨ih (k + 1) (by omega) (by omega) [0, 1] _ _ ?_⟩
      rw [hnot (by assumption)]
      exact ⟨rfl, rfl, rfl, (by repeat' (first | exact trivial | rfl | apply And.intro)), (by repeat' (first | exact trivial | rfl | apply And.intro)), rfl, rfl, rfl⟩
    · refine ⟨ih (k + 1) (by omega) (by omega) [0, 1] _ _ ?_⟩
      rw [hyes (by assumption)]
      exact ⟨rfl, rfl, rfl, (by repeat' (first | exact trivial | rfl | apply And.intro)), (by repeat' (first | exact trivial | rfl | apply And.intro)), rfl, rfl, rfl⟩
  · have hle : (dKG G rows i0 k).2 < rows.length := by omega
    have hfin : leftG G rows = (dKG G rows i0 k).1.take (dKG G rows i0 k).2 := by rw [a4, List.take_of_length_le (by omega)]
    have hl1 : ((dKG G rows i0 k).1.take (dKG G rows i0 k).2).length = (dKG G rows i0 k).2 := by rw [List.length_take]; omega
    have hf2 : ∀ Z : List (List Int), List.take (dKG G rows i0 k).2 (List.take ((dKG G rows i0 k).2 * 2 / 2) (dKG G rows i0 k).1 ++ Z) = (dKG G rows i0 k).1.take (dKG G rows i0 k).2 := fun Z => by
      rw [Nat.mul_div_cancel _ (by decide), List.take_append_of_le_length (by rw [hl1]; exact Nat.le_refl _), List.take_take, Nat.min_self]
    rw [hfin, hl1]
    clear ih
    refine Goes.tree Γ_ok htb 1000 false false Tryz.func56 rfl ?_
    ((try simp only [decide_eq_true_eq, decide_eq_false_iff_not, Bool.not_eq_true', Bool.not_eq_false', Bool.not_true, Bool.not_false, Bool.and_eq_true, Bool.or_eq_true, bne_iff_ne, beq_iff_eq, ne_eq]); (try simp only [rng, lo, hi, mnI, mxI, Int.toNat_natCast, Sg.n, Nat.mul_one, Nat.zero_add, Nat.add_zero, Nat.reduceAdd, List.getD_cons_zero, List.getD_cons_succ, hf2]))
    ((repeat' (first | (with_reducible apply And.intro) | intro _)); all_goals (first | exact trivial | (with_reducible assumption) | (show (_ : List Blk) = _; rfl) | (first | exact trivial | (with_reducible assumption) | omega | (split <;> omega) | (split <;> split <;> omega)) | skip); all_goals (try (refine ⟨rfl, (by first | exact Nat.le_refl _ | exact Nat.le_of_ble_eq_true rfl), rfl, rfl, ?_, (by repeat' (first | exact trivial | rfl | apply And.intro)), rfl, rfl⟩)))
    all_goals (first | exact sameA_refl _ | trace_state)

def delGNoS : Fun
  | [.ow 0 n .spot 54, .fn 58 [(1, .ref)]], [.l .spot rows, .r [.fs .spot G]] => some (.ow 0 n .spot 54, [.l .spot rows, .r [.fs .spot G]], [n = rows.length ∧ rows.length ≤ 10000000 ∧ ¬ rows.any (delG G) = true])
  | _, _ => .none
set_option maxRecDepth 100000 in
theorem s_delGNo : Sound Tryz.prog 56 delGNoS := by
  intro args M r M' vs h hvs
  unfold delGNoS at h
  split at h
  case h_2 => cases h
  rename_i n rows G
  cases h
  refine SpecOK.assume fun hA hM => ?_
  have htb := (TbOk.cons s_delG Tryz.func58 rfl rfl (TbOk.cons s_idxDelG Tryz.func74 rfl rfl (TbOk.nil : TbOk Tryz.prog tb0)))
  refine SpecOK.of_goes [0, 1] Tryz.func56 rfl ?_
  obtain ⟨⟨rfl, hl, ha⟩, -⟩ := hvs
  clear hA hM
  have hf : findI (delG G) rows = -1 := by unfold findI; rw [if_neg ha]
  refine Goes.tree Γ_ok htb 1000 false false Tryz.func56 rfl ?_
  ((try simp only [decide_eq_true_eq, decide_eq_false_iff_not, Bool.not_eq_true', Bool.not_eq_false', Bool.not_true, Bool.not_false, Bool.and_eq_true, Bool.or_eq_true, bne_iff_ne, beq_iff_eq, ne_eq]); (try simp only [rng, lo, hi, mnI, mxI, Int.toNat_natCast, Sg.n, Nat.mul_one, Nat.zero_add, Nat.add_zero, Nat.reduceAdd, List.getD_cons_zero, List.getD_cons_succ, hf]))
  ((repeat' (first | (with_reducible apply And.intro) | intro _)); all_goals (first | exact trivial | (with_reducible assumption) | (show (_ : List Blk) = _; rfl) | (first | exact trivial | (with_reducible assumption) | omega | (split <;> omega) | (split <;> split <;> omega)) | skip); all_goals (try (refine ⟨rfl, (by first | exact Nat.le_refl _ | exact Nat.le_of_ble_eq_true rfl), rfl, rfl, ?_, (by repeat' (first | exact trivial | rfl | apply And.intro)), rfl, rfl⟩)))
  all_goals (try first | contradiction | exact sameA_refl _)
  all_goals trace_state
end Go.Proofs.YtjbgjgkogmlpfaaGreat
