/- The row GrazeYard: the spec and the program graze a yard alike. -/
import Derived.Test.YtgogccconmlkiaaYard2
import Derived.Test.YtgogccconmlkiaaGraze
import Derived.Test.YtgogccconmlkiaaEqs
namespace Go.Proofs.Ytgogccconmlkiaa
open Go Go.Eng
set_option linter.unusedSimpArgs false
set_option linter.unusedVariables false
set_option maxRecDepth 100000
set_option maxHeartbeats 4000000

def grzC (p s : List Int) (l : Int) : Int := boundC p s (0 ≤ l ∧ l ≤ 100000)
noncomputable def grzYP (p s : List Int) (l : Int) : List Int := if grzC p s l = 0 then (grzK p (yardR p s) l (yardR p s).length).1 else List.replicate 122 0
noncomputable def grzYV (p s : List Int) (l : Int) : Int := if grzC p s l = 0 then (grzK p (yardR p s) l (yardR p s).length).2 else 0
noncomputable def grzYS : Fun
  | [.ag .pas p, .ag .spot s, .i .i64 l], [] => some (.t3 (.ag .pas (grzYP p s l)) (.i .i64 (grzYV p s l)) (.i .i64 (grzC p s l)), [], [])
  | _, _ => .none
theorem grz_facts {p s : List Int} {l : Int} (hl : p.length = 122) (h : grzC p s l = 0) : okD p ∧ isP p s = true ∧ grzOk p (yardR p s) l := by
  obtain ⟨h1, h2, h3, h4⟩ := boundC_ok h
  exact ⟨h1.1, h2, GR.of hl h1, fun s hs => (yardR_cells h1.1 s hs).1, h3, h4, by have := yardR_100 (s := s) h1.1; omega⟩


set_option maxRecDepth 100000 in
theorem s_implGrazeYard : Sound Try.prog 37 grzYS := by
  intro args M r M' vs h hvs
  unfold grzYS at h
  split at h
  case h_2 => cases h
  rename_i p s l
  cases h
  refine SpecOK.assume fun hA hM => ?_
  have htb := (TbOk.cons s_cellCode Try.func81 rfl rfl (TbOk.cons s_within Try.func83 rfl rfl (TbOk.cons s_unless Try.func82 rfl rfl (TbOk.cons s_firstOf Try.func80 rfl rfl (TbOk.cons s_yard Try.func85 rfl rfl (TbOk.cons s_graze Try.func84 rfl rfl (TbOk.nil : TbOk Try.prog tb0)))))))
  refine SpecOK.of_goes [] Try.func37 rfl ?_
  have hlen : p.length = 122 := hA.1
  have hok := fun h => grz_facts (p := p) (s := s) (l := l) hlen h
  have heq := fst_bound p s (0 ≤ l ∧ l ≤ 100000)
  have hc : boundC p s (0 ≤ l ∧ l ≤ 100000) = grzC p s l := rfl
  clear hA hM
  refine Goes.tree Γ_ok htb 1000 false false Try.func37 rfl ?_
  ((try simp only [decide_eq_true_eq, decide_eq_false_iff_not, Bool.not_eq_true', Bool.not_eq_false', Bool.not_true, Bool.not_false, Bool.and_eq_true, Bool.or_eq_true, bne_iff_ne, beq_iff_eq, ne_eq]); (try simp only [rng, lo, hi, mnI, mxI, Int.toNat_natCast, Sg.n, Nat.mul_one, Nat.zero_add, Nat.add_zero, Nat.reduceAdd, List.getD_cons_zero, List.getD_cons_succ, one_row, two_rows, heq, hc]))
  ((repeat' (first | (with_reducible apply And.intro) | intro _)); all_goals (first | exact trivial | (with_reducible assumption) | (show (_ : List Blk) = _; rfl) | (first | exact trivial | (with_reducible assumption) | omega | (split <;> omega) | (split <;> split <;> omega)) | skip); all_goals (try (refine ⟨rfl, (by first | exact Nat.le_refl _ | exact Nat.le_of_ble_eq_true rfl), rfl, rfl, ?_, (by repeat' (first | exact trivial | rfl | apply And.intro)), rfl, rfl⟩)))
  all_goals (try first | exact (hok (by assumption)).1 | exact (hok (by assumption)).2.1 | exact (hok (by assumption)).2.2)
  · rename_i h
    refine sameA_a3 ?_ ?_ rfl
    · rw [grzYP, if_neg h]
    · rw [grzYV, if_neg h]
  · rename_i h
    refine sameA_a3 ?_ ?_ h
    · rw [grzYP, if_pos h]
    · rw [grzYV, if_pos h]

end Go.Proofs.Ytgogccconmlkiaa
