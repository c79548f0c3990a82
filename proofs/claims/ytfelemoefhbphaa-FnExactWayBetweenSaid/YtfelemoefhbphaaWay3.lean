/- The way, walked by the program. -/
import Derived.Test.YtfelemoefhbphaaWay2
namespace Go.Proofs.Ytfelemoefhbphaa
open Go Go.Eng
set_option linter.unusedSimpArgs false
set_option linter.unusedVariables false
set_option maxRecDepth 100000
set_option maxHeartbeats 4000000

noncomputable def wayS : Fun
  | [.ag .pas p, .ag .spot a, .pw 0 .grid], [.c .grid T] => some (.ow 1 (wK p T a (T.getD (cx a) 0).toNat).2.length .spot 37, [.c .grid T, .l .spot (wK p T a (T.getD (cx a) 0).toNat).2], [okD p ∧ isP p a = true ∧ ∃ b, isP p b = true ∧ b.length = 2 ∧ T = m1 (bfsD p [b]) ∧ 0 ≤ T.getD (cx a) 0])
  | _, _ => .none
theorem s_way : Sound Try.prog 83 wayS := by
  intro args M r M' vs h hvs
  unfold wayS at h
  split at h
  case h_2 => cases h
  rename_i p a T
  cases h
  obtain ⟨⟨hd, ha, b, hb, hbl, hT, h0⟩, -⟩ := hvs
  refine SpecOK.assume fun hA hM => ?_
  have hal : a.length = 2 := hA.2.2.1
  clear hA hM
  have hK := wK_ok hd hb hbl ha hal (by rw [← hT]; exact h0)
  have hN := fun s h1 h2 h3 => nxt_ok (p := p) (b := b) (s := s) hd hb hbl h1 h2 h3
  have hr : okT T := ⟨fun j => by rw [hT]; exact m1_rng hd (one_isP hb) j⟩
  rw [← hT] at hK hN
  clear hT
  have htb := (TbOk.cons s_stepAt Try.func110 rfl rfl (TbOk.cons s_beside Try.func127 rfl rfl (TbOk.cons s_delWOk Try.func126 rfl rfl (TbOk.cons s_minW Try.func125 rfl rfl (TbOk.nil : TbOk Try.prog tb0)))))
  have htb2 := (TbOk.cons s_stepAt Try.func110 rfl rfl (TbOk.cons s_beside Try.func127 rfl rfl (TbOk.cons s_delWNo Try.func126 rfl rfl (TbOk.cons s_minW Try.func125 rfl rfl (TbOk.nil : TbOk Try.prog tb0)))))
  refine SpecOK.of_goes [0, 4] Try.func83 rfl ?_
  refine Goes.tree Γ_ok htb 1000 false false Try.func83 rfl ?_
  ((try simp only [decide_eq_true_eq, decide_eq_false_iff_not, Bool.not_eq_true', Bool.not_eq_false', Bool.not_true, Bool.not_false, Bool.and_eq_true, Bool.or_eq_true, bne_iff_ne, beq_iff_eq, ne_eq]); (try simp only [rng, lo, hi, mnI, mxI, Int.toNat_natCast, Sg.n, Nat.mul_one, Nat.zero_add, Nat.add_zero, Nat.reduceAdd, List.getD_cons_zero, List.getD_cons_succ, one_row]))
  ((repeat' (first | (with_reducible apply And.intro) | intro _)); all_goals (first | exact trivial | (with_reducible assumption) | (show (_ : List Blk) = _; rfl) | (first | exact trivial | (with_reducible assumption) | omega | (split <;> omega) | (split <;> split <;> omega)) | skip); all_goals (try (refine ⟨rfl, (by first | exact Nat.le_refl _ | exact Nat.le_of_ble_eq_true rfl), rfl, rfl, ?_, (by repeat' (first | exact trivial | rfl | apply And.intro)), rfl, rfl⟩)))
  refine ⟨?_⟩
  refine Goes.loopR (fun k : Nat => (T.getD (cx a) 0).toNat - k) (fun k => k ≤ (T.getD (cx a) 0).toNat) (fun k => (.any :: .any :: .any :: .pw 1 .pas :: .pw 2 .spot :: .pw 3 .ref :: .any :: .ow 4 (wK p T a k).2.length .spot 37 :: .any :: .any :: .any :: .any :: .any :: .any :: .any :: .any :: .any :: .any :: .any :: .any :: .any :: .any :: .any :: .any :: .any :: []))
    (fun k => [.c .grid T, .c .pas p, .c .spot (wK p T a k).1, .r [.pw 0 .grid], .l .spot (wK p T a k).2]) 0 [0, 1, 2, 3, 4] (Nat.zero_le _) ⟨rfl, rfl, rfl, (by repeat' (first | exact trivial | rfl | apply And.intro)), (by repeat' (first | exact trivial | rfl | apply And.intro)), rfl, rfl, rfl⟩ fun k hk ih => ?_
  obtain ⟨k1, k2, k3, k4⟩ := hK k (by omega)
  have hsG := inG_isP hd k1
  have hT100 := hr.rg (cx a)
  have hbl4 := besN_len p (wK p T a k).1 4
  have hbg : ∀ r ∈ besN p (wK p T a k).1 4, inG r := fun r h => by
    obtain ⟨e, -, e2, rfl⟩ := besN_go 4 h
    unfold canGo at e2
    rw [Bool.and_eq_true] at e2
    exact inG_isP hd e2.1
  by_cases hlt : k < (T.getD (cx a) 0).toNat
  · obtain ⟨n1, n2, n3, n4⟩ := hN (wK p T a k).1 k1 k2 (by omega)
    have hll : (leftW T (wK p T a k).1 (besN p (wK p T a k).1 4)).length ≤ 4 := Nat.le_trans (List.length_filter_le _ _) hbl4
    have ew : wK p T a (k + 1) = (nxt p T (wK p T a k).1, (wK p T a k).2 ++ [nxt p T (wK p T a k).1]) := rfl
    have ih' := ih (k + 1)
    rw [ew] at ih'
    clear ih
    unfold nxt at ih'
    by_cases ha2 : (besN p (wK p T a k).1 4).any (delW T (wK p T a k).1) = true
    · skip
      refine Goes.tree Γ_ok htb 1000 false false Try.func83 rfl ?_
      ((try simp only [decide_eq_true_eq, decide_eq_false_iff_not, Bool.not_eq_true', Bool.not_eq_false', Bool.not_true, Bool.not_false, Bool.and_eq_true, Bool.or_eq_true, bne_iff_ne, beq_iff_eq, ne_eq]); (try simp only [rng, lo, hi, mnI, mxI, Int.toNat_natCast, Sg.n, Nat.mul_one, Nat.zero_add, Nat.add_zero, Nat.reduceAdd, List.getD_cons_zero, List.getD_cons_succ, one_row]))
      ((repeat' (first | (with_reducible apply And.intro) | intro _)); all_goals (first | exact trivial | (with_reducible assumption) | (show (_ : List Blk) = _; rfl) | (first | exact trivial | (with_reducible assumption) | omega | (split <;> omega) | (split <;> split <;> omega)) | skip); all_goals (try (refine ⟨rfl, (by first | exact Nat.le_refl _ | exact Nat.le_of_ble_eq_true rfl), rfl, rfl, ?_, (by repeat' (first | exact trivial | rfl | apply And.intro)), rfl, rfl⟩)))
      all_goals (try first | exact hsG | exact hr | exact (hr.rg _).1 | exact (hr.rg _).2 | exact hbg _ (by assumption) | exact ha2 | exact ha2 (by assumption) | exact n1 | omega)
      all_goals (try (show ((wK p T a k).2 ++ [_]).length ≤ _; simp only [List.length_append, List.length_cons, List.length_nil]; omega))
      exact ⟨ih' (by omega) (by omega) [0, 1, 2, 3, 8] _ _ ⟨rfl, rfl, rfl, (by repeat' (first | exact trivial | rfl | apply And.intro)), (by repeat' (first | exact trivial | rfl | apply And.intro)), rfl, rfl, rfl⟩⟩
    · have e : leftW T (wK p T a k).1 (besN p (wK p T a k).1 4) = besN p (wK p T a k).1 4 := by
        unfold leftW
        refine List.filter_eq_self.2 fun r hr => ?_
        cases hh : delW T (wK p T a k).1 r with
        | false => rfl
        | true => exact absurd (List.any_eq_true.2 ⟨r, hr, hh⟩) ha2
      rw [e] at ih' n1
      refine Goes.tree Γ_ok htb2 1000 false false Try.func83 rfl ?_
      ((try simp only [decide_eq_true_eq, decide_eq_false_iff_not, Bool.not_eq_true', Bool.not_eq_false', Bool.not_true, Bool.not_false, Bool.and_eq_true, Bool.or_eq_true, bne_iff_ne, beq_iff_eq, ne_eq]); (try simp only [rng, lo, hi, mnI, mxI, Int.toNat_natCast, Sg.n, Nat.mul_one, Nat.zero_add, Nat.add_zero, Nat.reduceAdd, List.getD_cons_zero, List.getD_cons_succ, one_row]))
      ((repeat' (first | (with_reducible apply And.intro) | intro _)); all_goals (first | exact trivial | (with_reducible assumption) | (show (_ : List Blk) = _; rfl) | (first | exact trivial | (with_reducible assumption) | omega | (split <;> omega) | (split <;> split <;> omega)) | skip); all_goals (try (refine ⟨rfl, (by first | exact Nat.le_refl _ | exact Nat.le_of_ble_eq_true rfl), rfl, rfl, ?_, (by repeat' (first | exact trivial | rfl | apply And.intro)), rfl, rfl⟩)))
      all_goals (try first | exact hsG | exact hr | exact (hr.rg _).1 | exact (hr.rg _).2 | exact hbg _ (by assumption) | exact ha2 | exact ha2 (by assumption) | exact n1 | omega)
      all_goals (try (show ((wK p T a k).2 ++ [_]).length ≤ _; simp only [List.length_append, List.length_cons, List.length_nil]; omega))
      exact ⟨ih' (by omega) (by omega) [0, 1, 2, 3, 7] _ _ ⟨rfl, rfl, rfl, (by repeat' (first | exact trivial | rfl | apply And.intro)), (by repeat' (first | exact trivial | rfl | apply And.intro)), rfl, rfl, rfl⟩⟩
  · obtain rfl : k = (T.getD (cx a) 0).toNat := by omega
    clear ih
    refine Goes.tree Γ_ok htb 1000 false false Try.func83 rfl ?_
    ((try simp only [decide_eq_true_eq, decide_eq_false_iff_not, Bool.not_eq_true', Bool.not_eq_false', Bool.not_true, Bool.not_false, Bool.and_eq_true, Bool.or_eq_true, bne_iff_ne, beq_iff_eq, ne_eq]); (try simp only [rng, lo, hi, mnI, mxI, Int.toNat_natCast, Sg.n, Nat.mul_one, Nat.zero_add, Nat.add_zero, Nat.reduceAdd, List.getD_cons_zero, List.getD_cons_succ]))
    ((repeat' (first | (with_reducible apply And.intro) | intro _)); all_goals (first | exact trivial | (with_reducible assumption) | (show (_ : List Blk) = _; rfl) | (first | exact trivial | (with_reducible assumption) | omega | (split <;> omega) | (split <;> split <;> omega)) | skip); all_goals (try (refine ⟨rfl, (by first | exact Nat.le_refl _ | exact Nat.le_of_ble_eq_true rfl), rfl, rfl, ?_, (by repeat' (first | exact trivial | rfl | apply And.intro)), rfl, rfl⟩)))
    all_goals (first | exact hsG | exact (hr.rg _).1 | exact (hr.rg _).2 | omega | exact sameA_refl _ | trace_state)
end Go.Proofs.Ytfelemoefhbphaa
