/- The code of a list of cells, by the spec. -/
import Derived.Test.YtjbgjgkogmlpfaaGreatCell
import Derived.Test.YtjbgjgkogmlpfaaGreatLists
namespace Go.Proofs.YtjbgjgkogmlpfaaGreat
open Go Go.Eng
set_option linter.unusedSimpArgs false
set_option linter.unusedVariables false
set_option maxRecDepth 100000
set_option maxHeartbeats 4000000

def allCS : Fun
  | [.pw 0 .pas, .fs .spot rows], [.c .pas p] => some (.i .i64 (codeP p rows), [.c .pas p], [rows.length ≤ 1073741824])
  | _, _ => .none

theorem codeP_find {p : List Int} {rows : List (List Int)} (h : okP p) {i : Nat} (hi : i < rows.length) (hn : isP p (rows.getD i []) = false) : codeP p rows = 2 := by
  unfold codeP
  rw [if_pos h, if_pos]
  refine List.any_eq_true.2 ⟨rows.getD i [], ?_, by unfold notP; rw [hn]; rfl⟩
  rw [List.getD_eq_getElem?_getD, List.getElem?_eq_getElem hi]; exact List.getElem_mem _
theorem codeP_none {p : List Int} {rows : List (List Int)} (h : okP p) (hn : ∀ j, j < rows.length → isP p (rows.getD j []) = true) : codeP p rows = 0 := by
  unfold codeP
  rw [if_pos h, if_neg]
  intro ha
  obtain ⟨x, hx, hf⟩ := List.any_eq_true.1 ha
  obtain ⟨j, hj, rfl⟩ := List.mem_iff_getElem.1 hx
  have := hn j hj
  rw [List.getD_eq_getElem?_getD, List.getElem?_eq_getElem hj] at this
  unfold notP at hf
  simp at this
  rw [this] at hf; cases hf

set_option maxRecDepth 100000 in
theorem s_l01All : Sound Tryz.prog 46 allCS := by
  intro args M r M' vs h hvs
  unfold allCS at h
  split at h
  case h_2 => cases h
  rename_i rows p
  cases h
  refine SpecOK.assume fun hA hM => ?_
  have htb := (TbOk.cons s_l01Ok Tryz.func71 rfl rfl (TbOk.cons s_l01Is Tryz.func72 rfl rfl (TbOk.nil : TbOk Tryz.prog tb0)))
  refine SpecOK.of_goes [0] Tryz.func46 rfl ?_
  obtain ⟨hl, -⟩ := hvs
  clear hA hM
  refine Goes.tree Γ_ok htb 1000 false false Tryz.func46 rfl ?_
  ((try simp only [decide_eq_true_eq, decide_eq_false_iff_not, Bool.not_eq_true', Bool.not_eq_false', Bool.not_true, Bool.not_false, Bool.and_eq_true, Bool.or_eq_true, bne_iff_ne, beq_iff_eq, ne_eq]); (try simp only [rng, lo, hi, mnI, mxI, Int.toNat_natCast, Sg.n, Nat.mul_one, Nat.zero_add, Nat.add_zero, Nat.reduceAdd, List.getD_cons_zero, List.getD_cons_succ]))
  ((repeat' (first | (with_reducible apply And.intro) | intro _)); all_goals (first | exact trivial | (with_reducible assumption) | (show (_ : List Blk) = _; rfl) | (first | exact trivial | (with_reducible assumption) | omega | (split <;> omega) | (split <;> split <;> omega)) | skip); all_goals (try (refine ⟨rfl, (by first | exact Nat.le_refl _ | exact Nat.le_of_ble_eq_true rfl), rfl, rfl, ?_, (by repeat' (first | exact trivial | rfl | apply And.intro)), rfl, rfl⟩)))
  · refine sameA_i ?_
    unfold codeP; rw [if_neg ‹_›]
  rename_i hok
  refine ⟨?_⟩
  refine Goes.loopR (fun i : Nat => rows.length - i) (fun i => i ≤ rows.length ∧ ∀ j, j < i → isP p (rows.getD j []) = true) (fun i => (.pw 0 .pas :: .fs .spot rows :: .any :: .any :: .any :: .i .i64 (i:Int) :: .any :: .any :: .any :: .any :: .any :: .any :: .any :: .any :: .any :: .any :: .any :: .any :: .any :: .any :: .any :: .any :: [])) (fun _ => [.c .pas p]) 0 [0] ⟨by omega, fun j hj => by omega⟩ ⟨rfl, rfl, rfl, (by repeat' (first | exact trivial | rfl | apply And.intro)), (by repeat' (first | exact trivial | rfl | apply And.intro)), rfl, rfl, rfl⟩ fun i ⟨hle, hf⟩ ih => ?_
  refine Goes.tree Γ_ok htb 1000 false false Tryz.func46 rfl ?_
  ((try simp only [decide_eq_true_eq, decide_eq_false_iff_not, Bool.not_eq_true', Bool.not_eq_false', Bool.not_true, Bool.not_false, Bool.and_eq_true, Bool.or_eq_true, bne_iff_ne, beq_iff_eq, ne_eq]); (try simp only [rng, lo, hi, mnI, mxI, Int.toNat_natCast, Sg.n, Nat.mul_one, Nat.zero_add, Nat.add_zero, Nat.reduceAdd, List.getD_cons_zero, List.getD_cons_succ]))
  ((repeat' (first | (with_reducible apply And.intro) | intro _)); all_goals (first | exact trivial | (with_reducible assumption) | (show (_ : List Blk) = _; rfl) | (first | exact trivial | (with_reducible assumption) | omega | (split <;> omega) | (split <;> split <;> omega)) | skip); all_goals (try (refine ⟨rfl, (by first | exact Nat.le_refl _ | exact Nat.le_of_ble_eq_true rfl), rfl, rfl, ?_, (by repeat' (first | exact trivial | rfl | apply And.intro)), rfl, rfl⟩)))
  · rename_i h1 h2
    refine sameA_i ?_
    exact codeP_find hok (by omega) h2
  · rename_i h1 h2
    refine ⟨ih (i + 1) ⟨by omega, fun j hj => ?_⟩ (by omega) [0] _ _ ⟨rfl, rfl, rfl, (by repeat' (first | exact trivial | rfl | apply And.intro)), (by repeat' (first | exact trivial | rfl | apply And.intro)), rfl, rfl, rfl⟩⟩
    by_cases hji : j = i
    · subst hji; exact h2
    · exact hf j (by omega)
  · refine sameA_i ?_
    exact codeP_none hok fun j hj => hf j (by omega)

end Go.Proofs.YtjbgjgkogmlpfaaGreat
