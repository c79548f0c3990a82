/- Goats read from their text: the spec. -/
import Derived.Test.YtplnfdgokpgbcaaDoorRgC
import Derived.Test.YtplnfdgokpgbcaaDoorRgK
namespace Go.Proofs.YtplnfdgokpgbcaaDoor
open Go Go.Eng
set_option linter.unusedSimpArgs false
set_option linter.unusedVariables false
set_option maxRecDepth 100000
set_option maxHeartbeats 4000000

noncomputable def rgS : Fun
  | [.s s], [] => some (.t2 (.fs .goat (@ite _ (gsP s) (Classical.propDecidable _) (gsV (splL s 10) (gsN s)) [])) (.i .i64 (@ite _ (gsP s) (Classical.propDecidable _) 0 5)), [], [s.size ≤ 1073741000])
  | _, _ => .none
theorem rs_bad {s : ByteArray} (h : ¬ gsP s) {f : Nat → Nat} {ws : List (List Int)} : sameA (AV.mapI f ((AV.fs .goat (@ite _ (gsP s) (Classical.propDecidable _) ws [])).t2 (AV.i .i64 (@ite _ (gsP s) (Classical.propDecidable _) 0 5)))) ((AV.fs .goat (List.replicate 0 (List.replicate 7 0))).t2 (AV.i .i64 5)) := by
  rw [if_neg h, if_neg h]; exact ⟨⟨rfl, rfl⟩, rfl, rfl⟩
set_option maxRecDepth 100000 in
theorem s_specReadGoats : Sound Tryd.prog 29 rgS := by
  intro args M r M' vs h hvs
  unfold rgS at h
  split at h
  case h_2 => cases h
  rename_i s
  cases h
  refine SpecOK.assume fun hA hM => ?_
  have htb := (TbOk.cons s_l01Split Tryd.func64 rfl rfl (TbOk.cons s_l02Read Tryd.func70 rfl rfl (TbOk.nil : TbOk Tryd.prog tb0)))
  refine SpecOK.of_goes [] Tryd.func29 rfl ?_
  obtain ⟨hs, -⟩ := hvs
  clear hA hM
  have hpos := splL_pos s 10
  have hszs := splL_size s 10
  have hsl := splL_len s 10
  have hn : (((splL s 10).length : Int) - 1).toNat = gsN s := by unfold gsN; omega
  have hn2 : ((splL s 10).length : Int) - 1 = gsN s := by unfold gsN; omega
  have hN : gsN s < (splL s 10).length := by unfold gsN; omega
  refine Goes.tree Γ_ok htb 1000 true false Tryd.func29 rfl ?_
  ((try simp only [decide_eq_true_eq, decide_eq_false_iff_not, Bool.not_eq_true', Bool.not_eq_false', Bool.not_true, Bool.not_false, Bool.and_eq_true, Bool.or_eq_true, bne_iff_ne, beq_iff_eq, ne_eq]); (try simp only [rng, lo, hi, mnI, mxI, Int.toNat_natCast, Sg.n, Nat.mul_one, Nat.zero_add, Nat.add_zero, Nat.reduceAdd, List.getD_cons_zero, List.getD_cons_succ, hn]))
  (repeat' (first | (with_reducible apply And.intro) | intro _))
  all_goals (try first | exact hs | omega)
  · (refine ⟨rfl, (by first | exact Nat.le_refl _ | exact Nat.le_of_ble_eq_true rfl), rfl, rfl, ?_, (by repeat' (first | exact trivial | rfl | apply And.intro)), rfl, rfl⟩)
    rename_i h
    exact rs_bad fun g => h g.1
  · (refine ⟨rfl, (by first | exact Nat.le_refl _ | exact Nat.le_of_ble_eq_true rfl), rfl, rfl, ?_, (by repeat' (first | exact trivial | rfl | apply And.intro)), rfl, rfl⟩)
    rename_i h
    exact rs_bad fun g => by have := g.2.1; omega
  rename_i h0 h20
  refine ⟨?_⟩
  refine Goes.loopR (fun i : Nat => gsN s - i) (fun i => i ≤ gsN s ∧ ∀ j, j < i → goP ((splL s 10).getD j ⟨#[]⟩)) (fun i => (.any :: .any :: .any :: .any :: .fstr (splL s 10) :: .i .i64 (gsN s : Int) :: .ow 0 (gsV (splL s 10) i).length .goat 74 :: .i .i64 (i:Int) :: .any :: .any :: .any :: .any :: .any :: .any :: .any :: .any :: .any :: .any :: .any :: .any :: .any :: .any :: .any :: .any :: .any :: .any :: .any :: .any :: .any :: .any :: .any :: .any :: .any :: .any :: .any :: .any :: .any :: .any :: .any :: .any :: .any :: .any :: .any :: .any :: .any :: .any :: .any :: [])) (fun i => [.l .goat (gsV (splL s 10) i)]) 0 [0] ⟨Nat.zero_le _, fun j hj => by omega⟩ ⟨rfl, rfl, rfl, ?_, (by repeat' (first | exact trivial | rfl | apply And.intro)), rfl, rfl, rfl⟩ fun i ⟨hib, hgd⟩ ih => ?_
  · rw [hn2]
    exact (by repeat' (first | exact trivial | rfl | apply And.intro))
  have hln : (gsV (splL s 10) i).length = i := gsV_len (by omega)
  by_cases hlt : i < gsN s
  · have ih := ih (i + 1)
    rw [gsV_succ (by omega)] at ih
    have hsz : ((splL s 10).getD i ⟨#[]⟩).size ≤ s.size := by
      rw [List.getD_eq_getElem?_getD, List.getElem?_eq_getElem (by omega)]
      exact hszs _ (List.getElem_mem _)
    have hmt : (splL s 10).getD i ByteArray.empty = (splL s 10).getD i ⟨#[]⟩ := rfl
    have hit : (i : Int).toNat = i := by omega
    have hat : gsP s → goP ((splL s 10).getD i ⟨#[]⟩) := fun g => g.2.2 i hlt
    have hgd' : goP ((splL s 10).getD i ⟨#[]⟩) → ∀ j, j < i + 1 → goP ((splL s 10).getD j ⟨#[]⟩) := fun h j hj => by
      by_cases e : j = i
      · rw [e]; exact h
      · exact hgd j (by omega)
    generalize gsV (splL s 10) i = rows at *
    have hOi := goO_iff (s := (splL s 10).getD i ⟨#[]⟩)
    cases ho : goO ((splL s 10).getD i ⟨#[]⟩) with
    | true =>
      refine Goes.tree Γ_ok htb 1000 true false Tryd.func29 rfl ?_
      ((try simp only [decide_eq_true_eq, decide_eq_false_iff_not, Bool.not_eq_true', Bool.not_eq_false', Bool.not_true, Bool.not_false, Bool.and_eq_true, Bool.or_eq_true, bne_iff_ne, beq_iff_eq, ne_eq]); (try simp only [rng, lo, hi, mnI, mxI, Int.toNat_natCast, Sg.n, Nat.mul_one, Nat.zero_add, Nat.add_zero, Nat.reduceAdd, List.getD_cons_zero, List.getD_cons_succ, hit, hmt, ho, if_true]))
      (repeat' (first | (with_reducible apply And.intro) | intro _))
      all_goals (try first | omega | exact Nat.le_trans hsz hs | exact absurd (by with_reducible assumption : true = false) (by decide) | exact absurd (by with_reducible assumption : false = true) (by decide))
      · show (rows ++ [goV _]).length ≤ _
        rw [List.length_append, hln, List.length_singleton]; omega
      · exact ⟨ih ⟨by omega, hgd' (hOi.1 ho)⟩ (by omega) [3] _ _ ⟨rfl, rfl, rfl, (by repeat' (first | exact trivial | rfl | apply And.intro)), (by repeat' (first | exact trivial | rfl | apply And.intro)), rfl, rfl, rfl⟩⟩
    | false =>
      refine Goes.tree Γ_ok htb 1000 true false Tryd.func29 rfl ?_
      ((try simp only [decide_eq_true_eq, decide_eq_false_iff_not, Bool.not_eq_true', Bool.not_eq_false', Bool.not_true, Bool.not_false, Bool.and_eq_true, Bool.or_eq_true, bne_iff_ne, beq_iff_eq, ne_eq]); (try simp only [rng, lo, hi, mnI, mxI, Int.toNat_natCast, Sg.n, Nat.mul_one, Nat.zero_add, Nat.add_zero, Nat.reduceAdd, List.getD_cons_zero, List.getD_cons_succ, hit, hmt, ho, if_true]))
      (repeat' (first | (with_reducible apply And.intro) | intro _))
      all_goals (try first | omega | exact Nat.le_trans hsz hs | exact absurd (by with_reducible assumption : true = false) (by decide) | exact absurd (by with_reducible assumption : false = true) (by decide))
      (refine ⟨rfl, (by first | exact Nat.le_refl _ | exact Nat.le_of_ble_eq_true rfl), rfl, rfl, ?_, (by repeat' (first | exact trivial | rfl | apply And.intro)), rfl, rfl⟩)
      exact rs_bad fun g => by have := hOi.2 (hat g); rw [ho] at this; cases this
  · obtain rfl : i = gsN s := by omega
    clear ih
    refine Goes.tree Γ_ok htb 1000 true false Tryd.func29 rfl ?_
    ((try simp only [decide_eq_true_eq, decide_eq_false_iff_not, Bool.not_eq_true', Bool.not_eq_false', Bool.not_true, Bool.not_false, Bool.and_eq_true, Bool.or_eq_true, bne_iff_ne, beq_iff_eq, ne_eq]); (try simp only [rng, lo, hi, mnI, mxI, Int.toNat_natCast, Sg.n, Nat.mul_one, Nat.zero_add, Nat.add_zero, Nat.reduceAdd, List.getD_cons_zero, List.getD_cons_succ]))
    (repeat' (first | (with_reducible apply And.intro) | intro _))
    all_goals (try (exfalso; omega))
    (refine ⟨rfl, (by first | exact Nat.le_refl _ | exact Nat.le_of_ble_eq_true rfl), rfl, rfl, ?_, (by repeat' (first | exact trivial | rfl | apply And.intro)), rfl, rfl⟩)
    have hG : gsP s := ⟨h0, by omega, hgd⟩
    rw [if_pos hG, if_pos hG]
    exact sameA_refl _
end Go.Proofs.YtplnfdgokpgbcaaDoor
