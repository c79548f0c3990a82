/- The row MowYard: the spec and the program mow a yard alike. -/
import Derived.Test.YtgogccconmlkiaaYard2
import Derived.Test.YtgogccconmlkiaaMow
import Derived.Test.YtgogccconmlkiaaEqs
namespace Go.Proofs.Ytgogccconmlkiaa
open Go Go.Eng
set_option linter.unusedSimpArgs false
set_option linter.unusedVariables false
set_option maxRecDepth 100000
set_option maxHeartbeats 4000000

def mowC (p s : List Int) (l : Int) : Int := boundC p s (0 ≤ l ∧ l ≤ 1000)
noncomputable def mowYP (p s : List Int) (l : Int) : List Int := if mowC p s l = 0 then (mowK p (yardR p s) l (yardR p s).length).1 else List.replicate 122 0
noncomputable def mowYV (p s : List Int) (l : Int) : Int := if mowC p s l = 0 then (mowK p (yardR p s) l (yardR p s).length).2.tdiv 4 else 0
noncomputable def mowYS : Fun
  | [.ag .pas p, .ag .spot s, .i .i64 l], [] => some (.t3 (.ag .pas (mowYP p s l)) (.i .i64 (mowYV p s l)) (.i .i64 (mowC p s l)), [], [])
  | _, _ => .none
theorem mow_facts {p s : List Int} {l : Int} (hl : p.length = 122) (h : mowC p s l = 0) : okD p ∧ isP p s = true ∧ mowOk p (yardR p s) l := by
  obtain ⟨h1, h2, h3, h4⟩ := boundC_ok h
  exact ⟨h1.1, h2, GR.of hl h1, fun s hs => (yardR_cells h1.1 s hs).1, h3, h4, by have := yardR_100 (s := s) h1.1; omega⟩

set_option maxRecDepth 100000 in
theorem s_specMowYard : Sound Try.prog 43 mowYS := by
  intro args M r M' vs h hvs
  unfold mowYS at h
  split at h
  case h_2 => cases h
  rename_i p s l
  cases h
  refine SpecOK.assume fun hA hM => ?_
  have htb := (TbOk.cons s_l01Asked Try.func94 rfl rfl (TbOk.cons s_l01Grass Try.func87 rfl rfl (TbOk.cons s_l01Yard Try.func96 rfl rfl (TbOk.cons s_l04Mow Try.func95 rfl rfl (TbOk.nil : TbOk Try.prog tb0)))))
  refine SpecOK.of_goes [] Try.func43 rfl ?_
  have hlen : p.length = 122 := hA.1
  have hok := fun h => mow_facts (p := p) (s := s) (l := l) hlen h
  have heq := boundC_eq p s (0 ≤ l ∧ l ≤ 1000)
  have hc : mowC p s l = boundC p s (0 ≤ l ∧ l ≤ 1000) := rfl
  clear hA hM
  refine Goes.tree Γ_ok htb 1000 false false Try.func43 rfl ?_
  ((try simp only [decide_eq_true_eq, decide_eq_false_iff_not, Bool.not_eq_true', Bool.not_eq_false', Bool.not_true, Bool.not_false, Bool.and_eq_true, Bool.or_eq_true, bne_iff_ne, beq_iff_eq, ne_eq]); (try simp only [rng, lo, hi, mnI, mxI, Int.toNat_natCast, Sg.n, Nat.mul_one, Nat.zero_add, Nat.add_zero, Nat.reduceAdd, List.getD_cons_zero, List.getD_cons_succ]))
  rw [← heq, ← hc]
  ((repeat' (first | (with_reducible apply And.intro) | intro _)); all_goals (first | exact trivial | (with_reducible assumption) | (show (_ : List Blk) = _; rfl) | (first | exact trivial | (with_reducible assumption) | omega | (split <;> omega) | (split <;> split <;> omega)) | skip); all_goals (try (refine ⟨rfl, (by first | exact Nat.le_refl _ | exact Nat.le_of_ble_eq_true rfl), rfl, rfl, ?_, (by repeat' (first | exact trivial | rfl | apply And.intro)), rfl, rfl⟩)))
  all_goals (try first | exact (hok (by assumption)).1 | exact (hok (by assumption)).2.1 | exact (hok (by assumption)).2.2)
  · rename_i h
    refine sameA_a3 ?_ ?_ rfl
    · rw [mowYP, if_neg h]
    · rw [mowYV, if_neg h]
  · rename_i h
    refine sameA_a3 ?_ ?_ h
    · rw [mowYP, if_pos h]
    · rw [mowYV, if_pos h]

set_option maxRecDepth 100000 in
theorem s_implMowYard : Sound Try.prog 42 mowYS := by
  intro args M r M' vs h hvs
  unfold mowYS at h
  split at h
  case h_2 => cases h
  rename_i p s l
  cases h
  refine SpecOK.assume fun hA hM => ?_
  have htb := (TbOk.cons s_cellCode Try.func81 rfl rfl (TbOk.cons s_isLeave Try.func92 rfl rfl (TbOk.cons s_firstOf Try.func80 rfl rfl (TbOk.cons s_yard Try.func85 rfl rfl (TbOk.cons s_mow Try.func93 rfl rfl (TbOk.nil : TbOk Try.prog tb0))))))
  refine SpecOK.of_goes [] Try.func42 rfl ?_
  have hlen : p.length = 122 := hA.1
  have hok := fun h => mow_facts (p := p) (s := s) (l := l) hlen h
  have heq := fst_bound p s (0 ≤ l ∧ l ≤ 1000)
  have hc : boundC p s (0 ≤ l ∧ l ≤ 1000) = mowC p s l := rfl
  clear hA hM
  refine Goes.tree Γ_ok htb 1000 false false Try.func42 rfl ?_
  ((try simp only [decide_eq_true_eq, decide_eq_false_iff_not, Bool.not_eq_true', Bool.not_eq_false', Bool.not_true, Bool.not_false, Bool.and_eq_true, Bool.or_eq_true, bne_iff_ne, beq_iff_eq, ne_eq]); (try simp only [rng, lo, hi, mnI, mxI, Int.toNat_natCast, Sg.n, Nat.mul_one, Nat.zero_add, Nat.add_zero, Nat.reduceAdd, List.getD_cons_zero, List.getD_cons_succ, one_row, two_rows, heq, hc]))
  ((repeat' (first | (with_reducible apply And.intro) | intro _)); all_goals (first | exact trivial | (with_reducible assumption) | (show (_ : List Blk) = _; rfl) | (first | exact trivial | (with_reducible assumption) | omega | (split <;> omega) | (split <;> split <;> omega)) | skip); all_goals (try (refine ⟨rfl, (by first | exact Nat.le_refl _ | exact Nat.le_of_ble_eq_true rfl), rfl, rfl, ?_, (by repeat' (first | exact trivial | rfl | apply And.intro)), rfl, rfl⟩)))
  all_goals (try first | exact (hok (by assumption)).1 | exact (hok (by assumption)).2.1 | exact (hok (by assumption)).2.2)
  · rename_i h
    refine sameA_a3 ?_ ?_ rfl
    · rw [mowYP, if_neg h]
    · rw [mowYV, if_neg h]
  · rename_i h
    refine sameA_a3 ?_ ?_ h
    · rw [mowYP, if_pos h]
    · rw [mowYV, if_pos h]

end Go.Proofs.Ytgogccconmlkiaa
