/- The row BalanceOf: the spec and the program strike the same balance. -/
import Derived.Test.YtgogccconmlkiaaCell
namespace Go.Proofs.Ytgogccconmlkiaa
open Go Go.Eng
set_option linter.unusedSimpArgs false
set_option linter.unusedVariables false
set_option maxRecDepth 100000
set_option maxHeartbeats 4000000

def inB (n : Int) : Prop := 0 ≤ n ∧ n ≤ 1000000000
instance (n : Int) : Decidable (inB n) := by unfold inB; infer_instance
def balC (a b : List Int) (g e m : Int) : Int :=
  if okP a ∧ okP b then (if a.getD 0 0 = b.getD 0 0 ∧ a.getD 1 0 = b.getD 1 0 then (if inB g ∧ inB e ∧ inB m then 0 else 2) else 4) else 1

def balS : Fun
  | [.ag .pas a, .ag .pas b, .i .i64 g, .i .i64 e, .i .i64 m], [] => some (.t2 (.i .i64 (if balC a b g e m = 0 then sumA b 10 - (sumA a 10 + g - e - m) else 0)) (.i .i64 (balC a b g e m)), [], [])
  | _, _ => .none


set_option maxRecDepth 100000 in
theorem s_implBalance : Sound Try.prog 40 balS := by
  intro args M r M' vs h hvs
  unfold balS at h
  split at h
  case h_2 => cases h
  rename_i a b g e m
  cases h
  refine SpecOK.assume fun hA hM => ?_
  have htb := (TbOk.cons s_ValidPasture Try.func75 rfl rfl (TbOk.cons s_within Try.func83 rfl rfl (TbOk.cons s_all Try.func90 rfl rfl (TbOk.cons s_sumOf Try.func89 rfl rfl (TbOk.nil : TbOk Try.prog tb0)))))
  refine SpecOK.of_goes [] Try.func40 rfl ?_
  have ha : PasOk a := ⟨hA.1, hA.2.1⟩
  have hb : PasOk b := ⟨hA.2.2.1, hA.2.2.2.1⟩
  have ra := sumA_rng ha 10 (by omega)
  have rb := sumA_rng hb 10 (by omega)
  clear hA hM
  refine Goes.tree Γ_ok htb 1000 false false Try.func40 rfl ?_
  ((try simp only [decide_eq_true_eq, decide_eq_false_iff_not, Bool.not_eq_true', Bool.not_eq_false', Bool.not_true, Bool.not_false, Bool.and_eq_true, Bool.or_eq_true, bne_iff_ne, beq_iff_eq, ne_eq]); (try simp only [rng, lo, hi, mnI, mxI, Int.toNat_natCast, Sg.n, Nat.mul_one, Nat.zero_add, Nat.add_zero, Nat.reduceAdd, List.getD_cons_zero, List.getD_cons_succ]))
  ((repeat' (first | (with_reducible apply And.intro) | intro _)); all_goals (first | exact trivial | (with_reducible assumption) | (show (_ : List Blk) = _; rfl) | (first | exact trivial | (with_reducible assumption) | omega | (split <;> omega) | (split <;> split <;> omega)) | skip); all_goals (try (refine ⟨rfl, (by first | exact Nat.le_refl _ | exact Nat.le_of_ble_eq_true rfl), rfl, rfl, ?_, (by repeat' (first | exact trivial | rfl | apply And.intro)), rfl, rfl⟩)))
  case' right.right.right.right =>
    rename_i h1 h2 h3 h4
    refine ⟨?_⟩
    refine Goes.loopR (fun i : Nat => 3 - i) (fun i => i ≤ 3 ∧ ∀ j, j < i → inB (([[g], [e], [m]].getD j []).getD 0 0)) (fun i => (.any :: .any :: .i .i64 g :: .i .i64 e :: .i .i64 m :: .pw 0 .pas :: .pw 1 .pas :: .any :: .any :: .any :: .any :: .any :: .any :: .any :: .any :: .any :: .any :: .any :: .any :: .any :: .any :: .any :: .any :: .any :: .any :: .any :: .any :: .any :: .any :: .any :: .any :: .any :: .any :: .any :: .any :: .any :: .any :: .any :: .any :: .ow 2 3 .i64 2 :: .i .i64 3 :: .i .i64 (i:Int) :: .any :: .any :: .any :: .any :: .any :: .any :: .any :: .any :: .any :: .any :: .any :: .any :: .any :: .any :: .any :: .any :: .any :: .any :: .any :: .any :: .any :: .any :: [])) (fun i => [.c .pas a, .c .pas b, .l .i64 [[g], [e], [m]]]) 0 [0, 1, 2] ⟨by omega, fun j hj => by omega⟩ ⟨rfl, rfl, rfl, (by repeat' (first | exact trivial | rfl | apply And.intro)), (by repeat' (first | exact trivial | rfl | apply And.intro)), rfl, rfl, rfl⟩ fun i ⟨hle, hr⟩ ih => ?_
    have hin : i = 3 → inB g ∧ inB e ∧ inB m := fun h => by subst h; exact ⟨hr 0 (by omega), hr 1 (by omega), hr 2 (by omega)⟩
    have hin' := hin
    unfold inB at hin'
    obtain ⟨la, ia⟩ := spots_ok h1.1
    obtain ⟨lb, ib⟩ := spots_ok h2.1
    have sa := sum_spots h1
    have sb := sum_spots h2
    refine Goes.tree Γ_ok htb 1000 false false Try.func40 rfl ?_
    ((try simp only [decide_eq_true_eq, decide_eq_false_iff_not, Bool.not_eq_true', Bool.not_eq_false', Bool.not_true, Bool.not_false, Bool.and_eq_true, Bool.or_eq_true, bne_iff_ne, beq_iff_eq, ne_eq]); (try simp only [rng, lo, hi, mnI, mxI, Int.toNat_natCast, Sg.n, Nat.mul_one, Nat.zero_add, Nat.add_zero, Nat.reduceAdd, List.getD_cons_zero, List.getD_cons_succ, sa, sb]))
    ((repeat' (first | (with_reducible apply And.intro) | intro _)); all_goals (first | exact trivial | (with_reducible assumption) | (show (_ : List Blk) = _; rfl) | (first | exact trivial | (with_reducible assumption) | omega | (split <;> omega) | (split <;> split <;> omega)) | skip); all_goals (try (refine ⟨rfl, (by first | exact Nat.le_refl _ | exact Nat.le_of_ble_eq_true rfl), rfl, rfl, ?_, (by repeat' (first | exact trivial | rfl | apply And.intro)), rfl, rfl⟩)))
    · rename_i hi3 hno
      have hn : ¬ (inB g ∧ inB e ∧ inB m) := fun h => by
        have : i = 0 ∨ i = 1 ∨ i = 2 := by omega
        rcases this with rfl | rfl | rfl
        · exact hno h.1
        · exact hno h.2.1
        · exact hno h.2.2
      have hc : balC a b g e m = 2 := by unfold balC; rw [if_pos ⟨h1, h2⟩, if_pos ⟨h3, h4⟩, if_neg hn]
      rw [hc]; exact sameA_refl _
    · rename_i hi3 hyes
      refine ⟨ih (i + 1) ⟨by omega, fun j hj => ?_⟩ (by omega) [0, 1, 2] _ _ ⟨rfl, rfl, rfl, (by repeat' (first | exact trivial | rfl | apply And.intro)), (by repeat' (first | exact trivial | rfl | apply And.intro)), rfl, rfl, rfl⟩⟩
      by_cases hji : j = i
      · subst hji; exact hyes
      · exact hr j (by omega)
    · exact ib _ ‹_›
    · exact ia _ ‹_›
    · have hc : balC a b g e m = 0 := by unfold balC; rw [if_pos ⟨h1, h2⟩, if_pos ⟨h3, h4⟩, if_pos (hin (by omega))]
      rw [if_pos hc, hc]; exact sameA_refl _
  all_goals (refine sameA_t2 ?_ ?_ <;> simp [balC, inB, *, -List.getD_eq_getElem?_getD])
end Go.Proofs.Ytgogccconmlkiaa
