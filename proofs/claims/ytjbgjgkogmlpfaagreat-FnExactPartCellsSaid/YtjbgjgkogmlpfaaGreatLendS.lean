/- Lists of cells of one's own: made, compared, marked. -/
import Derived.Test.YtjbgjgkogmlpfaaGreatEngF
import Derived.Test.YtjbgjgkogmlpfaaGreatMarks
namespace Go.Proofs.YtjbgjgkogmlpfaaGreat
open Go Go.Eng
set_option linter.unusedSimpArgs false
set_option linter.unusedVariables false
set_option maxRecDepth 100000
set_option maxHeartbeats 4000000

def toSpOS : Fun
  | [.fs .spot xs], [] => some (.ow 0 xs.length .spot 54, [.l .spot xs], [xs.length ≤ 1073741824])
  | _, _ => .none
set_option maxRecDepth 100000 in
theorem s_toSpO : Sound Tryz.prog 7 toSpOS := by
  intro args M r M' vs h hvs
  unfold toSpOS at h
  split at h
  case h_2 => cases h
  rename_i xs
  cases h
  refine SpecOK.assume fun hA hM => ?_
  have htb := (TbOk.cons s_toSpot Tryz.func19 rfl rfl (TbOk.nil : TbOk Tryz.prog tb0))
  refine SpecOK.of_goes [0] Tryz.func7 rfl ?_
  obtain ⟨hl, -⟩ := hvs
  clear hA hM
  refine Goes.tree Γ_ok htb 1000 false false Tryz.func7 rfl ?_
  ((try simp only [decide_eq_true_eq, decide_eq_false_iff_not, Bool.not_eq_true', Bool.not_eq_false', Bool.not_true, Bool.not_false, Bool.and_eq_true, Bool.or_eq_true, bne_iff_ne, beq_iff_eq, ne_eq]); (try simp only [rng, lo, hi, mnI, mxI, Int.toNat_natCast, Sg.n, Nat.mul_one, Nat.zero_add, Nat.add_zero, Nat.reduceAdd, List.getD_cons_zero, List.getD_cons_succ]))
  ((repeat' (first | (with_reducible apply And.intro) | intro _)); all_goals (first | exact trivial | (with_reducible assumption) | (show (_ : List Blk) = _; rfl) | (first | exact trivial | (with_reducible assumption) | omega | (split <;> omega) | (split <;> split <;> omega)) | skip); all_goals (try (refine ⟨rfl, (by first | exact Nat.le_refl _ | exact Nat.le_of_ble_eq_true rfl), rfl, rfl, ?_, (by repeat' (first | exact trivial | rfl | apply And.intro)), rfl, rfl⟩)))
  refine ⟨?_⟩
  refine Goes.loopR (fun i : Nat => xs.length - i) (fun i => i ≤ xs.length) (fun i => (.fs .spot xs :: .any :: .any :: .ow 0 xs.length .spot 54 :: .i .i64 (i:Int) :: .any :: .any :: .any :: .any :: .any :: .any :: .any :: .any :: .any :: .any :: .any :: .any :: .any :: .any :: .any :: .any :: .any :: .any :: [])) (fun i => [.l .spot (cpR xs (List.replicate xs.length (List.replicate 2 0)) i)]) 0 [0] (by omega) ⟨rfl, rfl, rfl, (by repeat' (first | exact trivial | rfl | apply And.intro)), (by repeat' (first | exact trivial | rfl | apply And.intro)), rfl, rfl, rfl⟩ fun i hle ih => ?_
  have hcl := cpR_len xs (List.replicate xs.length (List.replicate 2 0)) i
  rw [List.length_replicate] at hcl
  by_cases hlt : i < xs.length
  · refine Goes.tree Γ_ok htb 1000 false false Tryz.func7 rfl ?_
    ((try simp only [decide_eq_true_eq, decide_eq_false_iff_not, Bool.not_eq_true', Bool.not_eq_false', Bool.not_true, Bool.not_false, Bool.and_eq_true, Bool.or_eq_true, bne_iff_ne, beq_iff_eq, ne_eq]); (try simp only [rng, lo, hi, mnI, mxI, Int.toNat_natCast, Sg.n, Nat.mul_one, Nat.zero_add, Nat.add_zero, Nat.reduceAdd, List.getD_cons_zero, List.getD_cons_succ]))
    ((repeat' (first | (with_reducible apply And.intro) | intro _)); all_goals (first | exact trivial | (with_reducible assumption) | (show (_ : List Blk) = _; rfl) | (first | exact trivial | (with_reducible assumption) | omega | (split <;> omega) | (split <;> split <;> omega)) | skip); all_goals (try (refine ⟨rfl, (by first | exact Nat.le_refl _ | exact Nat.le_of_ble_eq_true rfl), rfl, rfl, ?_, (by repeat' (first | exact trivial | rfl | apply And.intro)), rfl, rfl⟩)))
    all_goals (try omega)
    exact ⟨ih (i + 1) (by omega) (by omega) [0] _ _ ⟨rfl, rfl, rfl, (by repeat' (first | exact trivial | rfl | apply And.intro)), (by repeat' (first | exact trivial | rfl | apply And.intro)), rfl, rfl, rfl⟩⟩
  · obtain rfl : i = xs.length := by omega
    clear ih
    have e := cpR_all xs (List.replicate xs.length (List.replicate 2 0)) (by rw [List.length_replicate])
    rw [e]
    refine Goes.tree Γ_ok htb 1000 false false Tryz.func7 rfl ?_
    ((try simp only [decide_eq_true_eq, decide_eq_false_iff_not, Bool.not_eq_true', Bool.not_eq_false', Bool.not_true, Bool.not_false, Bool.and_eq_true, Bool.or_eq_true, bne_iff_ne, beq_iff_eq, ne_eq]); (try simp only [rng, lo, hi, mnI, mxI, Int.toNat_natCast, Sg.n, Nat.mul_one, Nat.zero_add, Nat.add_zero, Nat.reduceAdd, List.getD_cons_zero, List.getD_cons_succ]))
    ((repeat' (first | (with_reducible apply And.intro) | intro _)); all_goals (first | exact trivial | (with_reducible assumption) | (show (_ : List Blk) = _; rfl) | (first | exact trivial | (with_reducible assumption) | omega | (split <;> omega) | (split <;> split <;> omega)) | skip); all_goals (try (refine ⟨rfl, (by first | exact Nat.le_refl _ | exact Nat.le_of_ble_eq_true rfl), rfl, rfl, ?_, (by repeat' (first | exact trivial | rfl | apply And.intro)), rfl, rfl⟩)))
    all_goals (first | contradiction | exact sameA_refl _ | trace_state)
def refOOS : Fun
  | [.ow 0 n .spot 54, .ow 1 m .spot 54], [.l .spot xs, .l .spot ys] => some (.d true, [.l .spot xs, .l .spot ys], [xs = ys ∧ xs.length ≤ 1073741824])
  | _, _ => .none
theorem s_eqSpOO : Sound Tryz.prog 10 refOOS := by
  intro args M r M' vs h hvs
  unfold refOOS at h
  split at h
  case h_2 => cases h
  rename_i n m xs ys
  cases h
  obtain ⟨⟨rfl, hl⟩, -⟩ := hvs
  have h0 : SpecOK Tryz.prog 10 [.fs .spot xs, .fs .spot xs] [] (.d true) [] := s_eqSpotS _ _ _ _ [xs = xs ∧ xs.length ≤ 1073741824] (show refLS .spot [.fs .spot xs, .fs .spot xs] [] = some (.d true, [], [xs = xs ∧ xs.length ≤ 1073741824]) from (by simp [refLS])) ⟨⟨rfl, hl⟩, trivial⟩
  have h1 := lend (pre := [.fs .spot xs]) (post := []) (n := m) (e := 54) h0 rfl (fun x hx => by cases hx) (fun x hx => by cases hx)
  exact lend (pre := []) (post := [.ow 0 m .spot 54]) (n := n) (e := 54) h1 rfl (fun x hx => by rw [List.mem_singleton] at hx; subst hx; rfl) (fun x hx => by rw [List.mem_singleton] at hx; subst hx; rfl)
end Go.Proofs.YtjbgjgkogmlpfaaGreat
