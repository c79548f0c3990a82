/- The spec's flow: what goes over a side, and one more. -/
import Derived.Test.YtjbgjgkogmlpfaaGreatSt0
import Derived.Test.YtjbgjgkogmlpfaaGreatEngF
namespace Go.Proofs.YtjbgjgkogmlpfaaGreat
open Go Go.Eng
set_option linter.unusedSimpArgs false
set_option linter.unusedVariables false
open Go.Proofs.YtjbgjgkogmlpfaaGreat.Fl (cl isC ix fAt fAdd)
set_option maxRecDepth 100000
set_option maxHeartbeats 4000000

def okA (fl s : List Int) (d : Int) : Prop := s.length = 2 ∧ inG s ∧ inG (ahead s d) ∧ 0 ≤ d ∧ d < 4 ∧ -1 ≤ fAt fl s d ∧ fAt fl s d ≤ 1
def floAtS : Fun
  | [.pw 0 .flo, .ag .spot s, .i .i64 d], [.c .flo fl] => some (.i .i8 (fAt fl s d), [.c .flo fl], [okA fl s d])
  | _, _ => .none
set_option maxRecDepth 100000 in
theorem s_floAt : Sound Tryz.prog 49 floAtS := by
  intro args M r M' vs h hvs
  unfold floAtS at h
  split at h
  case h_2 => cases h
  rename_i s d fl
  cases h
  refine SpecOK.assume fun hA hM => ?_
  have htb := (TbOk.cons s_l01Next Tryz.func29 rfl rfl (TbOk.nil : TbOk Tryz.prog tb0))
  refine SpecOK.of_goes [0] Tryz.func49 rfl ?_
  obtain ⟨⟨hl, hg, hn, h0, h4, hr1, hr2⟩, -⟩ := hvs
  obtain ⟨a, b, rfl⟩ := len2 hl
  clear hA hM
  have hcase : d = 0 ∨ d = 1 ∨ d = 2 ∨ d = 3 := by omega
  simp only [inG, List.getD_cons_zero, List.getD_cons_succ] at hg
  have hnear : near [a, b] := by unfold near; simp only [List.getD_cons_zero, List.getD_cons_succ]; omega
  unfold inG at hn
  have e0 : fAt fl [a, b] 0 = 0 - fl.getD (100 + ((ahead [a, b] 0).getD 1 0).toNat * 10 + ((ahead [a, b] 0).getD 0 0).toNat) 0 := by
    rw [Nat.add_assoc]; show - _ = _; exact (Int.zero_sub _).symm
  have e1 : fAt fl [a, b] 1 = fl.getD (b.toNat * 10 + a.toNat) 0 := rfl
  have e2 : fAt fl [a, b] 2 = fl.getD (100 + b.toNat * 10 + a.toNat) 0 := by rw [Nat.add_assoc]; rfl
  have e3 : fAt fl [a, b] 3 = 0 - fl.getD (((ahead [a, b] 3).getD 1 0).toNat * 10 + ((ahead [a, b] 3).getD 0 0).toNat) 0 := (Int.zero_sub _).symm
  rcases hcase with rfl | rfl | rfl | rfl
  · rw [e0] at hr1 hr2 ⊢
    refine Goes.tree Γ_ok htb 1000 false false Tryz.func49 rfl ?_
    ((try simp only [decide_eq_true_eq, decide_eq_false_iff_not, Bool.not_eq_true', Bool.not_eq_false', Bool.not_true, Bool.not_false, Bool.and_eq_true, Bool.or_eq_true, bne_iff_ne, beq_iff_eq, ne_eq]); (try simp only [rng, lo, hi, mnI, mxI, Int.toNat_natCast, Sg.n, Nat.mul_one, Nat.zero_add, Nat.add_zero, Nat.reduceAdd, List.getD_cons_zero, List.getD_cons_succ]))
    (repeat' (first | (with_reducible apply And.intro) | intro _))
    all_goals (try first | exact absurd trivial (by assumption) | (exfalso; omega))
    ((repeat' (first | (with_reducible apply And.intro) | intro _)); all_goals (first | exact trivial | (with_reducible assumption) | (show (_ : List Blk) = _; rfl) | (first | exact trivial | (with_reducible assumption) | omega | (split <;> omega) | (split <;> split <;> omega)) | skip); all_goals (try (refine ⟨rfl, (by first | exact Nat.le_refl _ | exact Nat.le_of_ble_eq_true rfl), rfl, rfl, ?_, (by repeat' (first | exact trivial | rfl | apply And.intro)), rfl, rfl⟩)))
    all_goals (first | omega | exact sameA_refl _)
  · rw [e1] at hr1 hr2 ⊢
    refine Goes.tree Γ_ok htb 1000 false false Tryz.func49 rfl ?_
    ((try simp only [decide_eq_true_eq, decide_eq_false_iff_not, Bool.not_eq_true', Bool.not_eq_false', Bool.not_true, Bool.not_false, Bool.and_eq_true, Bool.or_eq_true, bne_iff_ne, beq_iff_eq, ne_eq]); (try simp only [rng, lo, hi, mnI, mxI, Int.toNat_natCast, Sg.n, Nat.mul_one, Nat.zero_add, Nat.add_zero, Nat.reduceAdd, List.getD_cons_zero, List.getD_cons_succ]))
    (repeat' (first | (with_reducible apply And.intro) | intro _))
    all_goals (try first | exact absurd trivial (by assumption) | (exfalso; omega))
    ((repeat' (first | (with_reducible apply And.intro) | intro _)); all_goals (first | exact trivial | (with_reducible assumption) | (show (_ : List Blk) = _; rfl) | (first | exact trivial | (with_reducible assumption) | omega | (split <;> omega) | (split <;> split <;> omega)) | skip); all_goals (try (refine ⟨rfl, (by first | exact Nat.le_refl _ | exact Nat.le_of_ble_eq_true rfl), rfl, rfl, ?_, (by repeat' (first | exact trivial | rfl | apply And.intro)), rfl, rfl⟩)))
    all_goals (first | omega | exact sameA_refl _)
  · rw [e2] at hr1 hr2 ⊢
    refine Goes.tree Γ_ok htb 1000 false false Tryz.func49 rfl ?_
    ((try simp only [decide_eq_true_eq, decide_eq_false_iff_not, Bool.not_eq_true', Bool.not_eq_false', Bool.not_true, Bool.not_false, Bool.and_eq_true, Bool.or_eq_true, bne_iff_ne, beq_iff_eq, ne_eq]); (try simp only [rng, lo, hi, mnI, mxI, Int.toNat_natCast, Sg.n, Nat.mul_one, Nat.zero_add, Nat.add_zero, Nat.reduceAdd, List.getD_cons_zero, List.getD_cons_succ]))
    (repeat' (first | (with_reducible apply And.intro) | intro _))
    all_goals (try first | exact absurd trivial (by assumption) | (exfalso; omega))
    ((repeat' (first | (with_reducible apply And.intro) | intro _)); all_goals (first | exact trivial | (with_reducible assumption) | (show (_ : List Blk) = _; rfl) | (first | exact trivial | (with_reducible assumption) | omega | (split <;> omega) | (split <;> split <;> omega)) | skip); all_goals (try (refine ⟨rfl, (by first | exact Nat.le_refl _ | exact Nat.le_of_ble_eq_true rfl), rfl, rfl, ?_, (by repeat' (first | exact trivial | rfl | apply And.intro)), rfl, rfl⟩)))
    all_goals (first | omega | exact sameA_refl _)
  · rw [e3] at hr1 hr2 ⊢
    refine Goes.tree Γ_ok htb 1000 false false Tryz.func49 rfl ?_
    ((try simp only [decide_eq_true_eq, decide_eq_false_iff_not, Bool.not_eq_true', Bool.not_eq_false', Bool.not_true, Bool.not_false, Bool.and_eq_true, Bool.or_eq_true, bne_iff_ne, beq_iff_eq, ne_eq]); (try simp only [rng, lo, hi, mnI, mxI, Int.toNat_natCast, Sg.n, Nat.mul_one, Nat.zero_add, Nat.add_zero, Nat.reduceAdd, List.getD_cons_zero, List.getD_cons_succ]))
    (repeat' (first | (with_reducible apply And.intro) | intro _))
    all_goals (try first | exact absurd trivial (by assumption) | (exfalso; omega))
    ((repeat' (first | (with_reducible apply And.intro) | intro _)); all_goals (first | exact trivial | (with_reducible assumption) | (show (_ : List Blk) = _; rfl) | (first | exact trivial | (with_reducible assumption) | omega | (split <;> omega) | (split <;> split <;> omega)) | skip); all_goals (try (refine ⟨rfl, (by first | exact Nat.le_refl _ | exact Nat.le_of_ble_eq_true rfl), rfl, rfl, ?_, (by repeat' (first | exact trivial | rfl | apply And.intro)), rfl, rfl⟩)))
    all_goals (first | omega | exact sameA_refl _)
def floAddS : Fun
  | [.pw 0 .flo, .ag .spot s, .i .i64 d], [.c .flo fl] => some (.v (.tuple #[]), [.c .flo (fAdd fl s d)], [okA fl s d ∧ fAt fl s d ≤ 0])
  | _, _ => .none
set_option maxRecDepth 100000 in
theorem s_floAdd : Sound Tryz.prog 47 floAddS := by
  intro args M r M' vs h hvs
  unfold floAddS at h
  split at h
  case h_2 => cases h
  rename_i s d fl
  cases h
  refine SpecOK.assume fun hA hM => ?_
  have htb := (TbOk.cons s_l01Next Tryz.func29 rfl rfl (TbOk.nil : TbOk Tryz.prog tb0))
  refine SpecOK.of_goes [0] Tryz.func47 rfl ?_
  obtain ⟨⟨⟨hl, hg, hn, h0, h4, hr1, hr2⟩, hr3⟩, -⟩ := hvs
  obtain ⟨a, b, rfl⟩ := len2 hl
  clear hA hM
  have hcase : d = 0 ∨ d = 1 ∨ d = 2 ∨ d = 3 := by omega
  simp only [inG, List.getD_cons_zero, List.getD_cons_succ] at hg
  have hnear : near [a, b] := by unfold near; simp only [List.getD_cons_zero, List.getD_cons_succ]; omega
  unfold inG at hn
  have e0 : fAt fl [a, b] 0 = 0 - fl.getD (100 + ((ahead [a, b] 0).getD 1 0).toNat * 10 + ((ahead [a, b] 0).getD 0 0).toNat) 0 := by
    rw [Nat.add_assoc]; show - _ = _; exact (Int.zero_sub _).symm
  have e1 : fAt fl [a, b] 1 = fl.getD (b.toNat * 10 + a.toNat) 0 := rfl
  have e2 : fAt fl [a, b] 2 = fl.getD (100 + b.toNat * 10 + a.toNat) 0 := by rw [Nat.add_assoc]; rfl
  have e3 : fAt fl [a, b] 3 = 0 - fl.getD (((ahead [a, b] 3).getD 1 0).toNat * 10 + ((ahead [a, b] 3).getD 0 0).toNat) 0 := (Int.zero_sub _).symm
  have f0 : fAdd fl [a, b] 0 = fl.set (100 + ((ahead [a, b] 0).getD 1 0).toNat * 10 + ((ahead [a, b] 0).getD 0 0).toNat) (fl.getD (100 + ((ahead [a, b] 0).getD 1 0).toNat * 10 + ((ahead [a, b] 0).getD 0 0).toNat) 0 - 1) := by rw [Nat.add_assoc]; rfl
  have f1 : fAdd fl [a, b] 1 = fl.set (b.toNat * 10 + a.toNat) (fl.getD (b.toNat * 10 + a.toNat) 0 + 1) := rfl
  have f2 : fAdd fl [a, b] 2 = fl.set (100 + b.toNat * 10 + a.toNat) (fl.getD (100 + b.toNat * 10 + a.toNat) 0 + 1) := by rw [Nat.add_assoc]; rfl
  have f3 : fAdd fl [a, b] 3 = fl.set (((ahead [a, b] 3).getD 1 0).toNat * 10 + ((ahead [a, b] 3).getD 0 0).toNat) (fl.getD (((ahead [a, b] 3).getD 1 0).toNat * 10 + ((ahead [a, b] 3).getD 0 0).toNat) 0 - 1) := rfl
  rcases hcase with rfl | rfl | rfl | rfl
  · rw [e0] at hr1 hr2 hr3
    rw [f0]
    refine Goes.tree Γ_ok htb 1000 false false Tryz.func47 rfl ?_
    ((try simp only [decide_eq_true_eq, decide_eq_false_iff_not, Bool.not_eq_true', Bool.not_eq_false', Bool.not_true, Bool.not_false, Bool.and_eq_true, Bool.or_eq_true, bne_iff_ne, beq_iff_eq, ne_eq]); (try simp only [rng, lo, hi, mnI, mxI, Int.toNat_natCast, Sg.n, Nat.mul_one, Nat.zero_add, Nat.add_zero, Nat.reduceAdd, List.getD_cons_zero, List.getD_cons_succ]))
    (repeat' (first | (with_reducible apply And.intro) | intro _))
    all_goals (try first | exact absurd trivial (by assumption) | (exfalso; omega))
    ((repeat' (first | (with_reducible apply And.intro) | intro _)); all_goals (first | exact trivial | (with_reducible assumption) | (show (_ : List Blk) = _; rfl) | (first | exact trivial | (with_reducible assumption) | omega | (split <;> omega) | (split <;> split <;> omega)) | skip); all_goals (try (refine ⟨rfl, (by first | exact Nat.le_refl _ | exact Nat.le_of_ble_eq_true rfl), rfl, rfl, ?_, (by repeat' (first | exact trivial | rfl | apply And.intro)), rfl, rfl⟩)))
    all_goals (first | omega | exact sameA_refl _ | trace_state)
  · rw [e1] at hr1 hr2 hr3
    rw [f1]
    refine Goes.tree Γ_ok htb 1000 false false Tryz.func47 rfl ?_
    ((try simp only [decide_eq_true_eq, decide_eq_false_iff_not, Bool.not_eq_true', Bool.not_eq_false', Bool.not_true, Bool.not_false, Bool.and_eq_true, Bool.or_eq_true, bne_iff_ne, beq_iff_eq, ne_eq]); (try simp only [rng, lo, hi, mnI, mxI, Int.toNat_natCast, Sg.n, Nat.mul_one, Nat.zero_add, Nat.add_zero, Nat.reduceAdd, List.getD_cons_zero, List.getD_cons_succ]))
    (repeat' (first | (with_reducible apply And.intro) | intro _))
    all_goals (try first | exact absurd trivial (by assumption) | (exfalso; omega))
    ((repeat' (first | (with_reducible apply And.intro) | intro _)); all_goals (first | exact trivial | (with_reducible assumption) | (show (_ : List Blk) = _; rfl) | (first | exact trivial | (with_reducible assumption) | omega | (split <;> omega) | (split <;> split <;> omega)) | skip); all_goals (try (refine ⟨rfl, (by first | exact Nat.le_refl _ | exact Nat.le_of_ble_eq_true rfl), rfl, rfl, ?_, (by repeat' (first | exact trivial | rfl | apply And.intro)), rfl, rfl⟩)))
    all_goals (first | omega | exact sameA_refl _ | trace_state)
  · rw [e2] at hr1 hr2 hr3
    rw [f2]
    refine Goes.tree Γ_ok htb 1000 false false Tryz.func47 rfl ?_
    ((try simp only [decide_eq_true_eq, decide_eq_false_iff_not, Bool.not_eq_true', Bool.not_eq_false', Bool.not_true, Bool.not_false, Bool.and_eq_true, Bool.or_eq_true, bne_iff_ne, beq_iff_eq, ne_eq]); (try simp only [rng, lo, hi, mnI, mxI, Int.toNat_natCast, Sg.n, Nat.mul_one, Nat.zero_add, Nat.add_zero, Nat.reduceAdd, List.getD_cons_zero, List.getD_cons_succ]))
    (repeat' (first | (with_reducible apply And.intro) | intro _))
    all_goals (try first | exact absurd trivial (by assumption) | (exfalso; omega))
    ((repeat' (first | (with_reducible apply And.intro) | intro _)); all_goals (first | exact trivial | (with_reducible assumption) | (show (_ : List Blk) = _; rfl) | (first | exact trivial | (with_reducible assumption) | omega | (split <;> omega) | (split <;> split <;> omega)) | skip); all_goals (try (refine ⟨rfl, (by first | exact Nat.le_refl _ | exact Nat.le_of_ble_eq_true rfl), rfl, rfl, ?_, (by repeat' (first | exact trivial | rfl | apply And.intro)), rfl, rfl⟩)))
    all_goals (first | omega | exact sameA_refl _ | trace_state)
  · rw [e3] at hr1 hr2 hr3
    rw [f3]
    refine Goes.tree Γ_ok htb 1000 false false Tryz.func47 rfl ?_
    ((try simp only [decide_eq_true_eq, decide_eq_false_iff_not, Bool.not_eq_true', Bool.not_eq_false', Bool.not_true, Bool.not_false, Bool.and_eq_true, Bool.or_eq_true, bne_iff_ne, beq_iff_eq, ne_eq]); (try simp only [rng, lo, hi, mnI, mxI, Int.toNat_natCast, Sg.n, Nat.mul_one, Nat.zero_add, Nat.add_zero, Nat.reduceAdd, List.getD_cons_zero, List.getD_cons_succ]))
    (repeat' (first | (with_reducible apply And.intro) | intro _))
    all_goals (try first | exact absurd trivial (by assumption) | (exfalso; omega))
    ((repeat' (first | (with_reducible apply And.intro) | intro _)); all_goals (first | exact trivial | (with_reducible assumption) | (show (_ : List Blk) = _; rfl) | (first | exact trivial | (with_reducible assumption) | omega | (split <;> omega) | (split <;> split <;> omega)) | skip); all_goals (try (refine ⟨rfl, (by first | exact Nat.le_refl _ | exact Nat.le_of_ble_eq_true rfl), rfl, rfl, ?_, (by repeat' (first | exact trivial | rfl | apply And.intro)), rfl, rfl⟩)))
    all_goals (first | omega | exact sameA_refl _ | trace_state)
theorem s_floAddK : Sound Tryz.prog 47 (kill floAddS) := kill_sound s_floAdd
end Go.Proofs.YtjbgjgkogmlpfaaGreat
