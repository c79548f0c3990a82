/- Days of rotation, with sums that the caller owns. -/
import Derived.Test.YtgogccconmlkiaaRot2
import Derived.Test.YtgogccconmlkiaaLend
namespace Go.Proofs.Ytgogccconmlkiaa
open Go Go.Eng
set_option linter.unusedSimpArgs false
set_option linter.unusedVariables false
set_option maxRecDepth 100000
set_option maxHeartbeats 4000000

noncomputable def rtVOS : Fun
  | [.ag .pas p, .pw 0 .gro, .fs .i64 rows, .i .i64 stay, .i .i64 eats, .i .i64 days], [.c .gro g] => some (.t2 (.ag .pas (rtK p g (yL p (spots p)) rows stay eats days.toNat).1) (.ow 1 (rtK p g (yL p (spots p)) rows stay eats days.toNat).2.length .i64 2), [.c .gro g, .l .i64 (rtK p g (yL p (spots p)) rows stay eats days.toNat).2], [RtOk p g (yL p (spots p)) rows stay eats days])
  | _, _ => .none
set_option maxRecDepth 100000 in
theorem s_l04RotateO : Sound Try.prog 65 rtVOS := by
  intro args M r M' vs h hvs
  unfold rtVOS at h
  split at h
  case h_2 => cases h
  rename_i p rows stay eats days g
  cases h
  refine SpecOK.assume fun hA hM => ?_
  have htb := (TbOk.cons s_l01Numbers Try.func122 rfl rfl (TbOk.cons s_l04Graze Try.func123 rfl rfl (TbOk.cons s_l04Grow Try.func104 rfl rfl (TbOk.nil : TbOk Try.prog tb0))))
  refine SpecOK.of_goes [0, 3] Try.func65 rfl ?_
  obtain ⟨hR, -⟩ := hvs
  have hK := rtK_ok hR
  have hZ := rt_grz hR
  have hD := fun d => dy_ok (d := d) hR.st.1 hR.od
  obtain ⟨-, hd, -, -, hst, hea, hod, hdd⟩ := hR
  have hn1 := hod.1
  clear hA hM hod
  refine Goes.tree Γ_ok htb 1000 false false Try.func65 rfl ?_
  ((try simp only [decide_eq_true_eq, decide_eq_false_iff_not, Bool.not_eq_true', Bool.not_eq_false', Bool.not_true, Bool.not_false, Bool.and_eq_true, Bool.or_eq_true, bne_iff_ne, beq_iff_eq, ne_eq]); (try simp only [rng, lo, hi, mnI, mxI, Int.toNat_natCast, Sg.n, Nat.mul_one, Nat.zero_add, Nat.add_zero, Nat.reduceAdd, List.getD_cons_zero, List.getD_cons_succ]))
  ((repeat' (first | (with_reducible apply And.intro) | intro _)); all_goals (first | exact trivial | (with_reducible assumption) | (show (_ : List Blk) = _; rfl) | (first | exact trivial | (with_reducible assumption) | omega | (split <;> omega) | (split <;> split <;> omega)) | skip); all_goals (try (refine ⟨rfl, (by first | exact Nat.le_refl _ | exact Nat.le_of_ble_eq_true rfl), rfl, rfl, ?_, (by repeat' (first | exact trivial | rfl | apply And.intro)), rfl, rfl⟩)))
  refine ⟨?_⟩
  generalize hYs : yL p (spots p) = Ys at *
  generalize hTs : yT p (spots p) = Ts at *
  refine Goes.loopR (fun d : Nat => days.toNat - d) (fun d => d ≤ days.toNat) (fun d => (.any :: .pw 0 .gro :: .fs .i64 rows :: .i .i64 stay :: .i .i64 eats :: .i .i64 days :: .pw 1 .pas :: .any :: .any :: .any :: .any :: .any :: .pw 2 .pas :: .any :: .any :: .fz .spot Ys :: .ow 3 (rtK p g Ys rows stay eats d).2.length .i64 2 :: .i .i64 (d:Int) :: .any :: .any :: .any :: .any :: .any :: .any :: .any :: .any :: .any :: .any :: .any :: .any :: .any :: .any :: .any :: .any :: .any :: .any :: .any :: .any :: .any :: .any :: .any :: .any :: .any :: .any :: .any :: .any :: .any :: .any :: .any :: .any :: .any :: .any :: .any :: .any :: .any :: .any :: .any :: .any :: .any :: .any :: []))
    (fun d => [.c .gro g, .c .pas (rtK p g Ys rows stay eats d).1, .c .pas (List.replicate 122 0), .l .i64 (rtK p g Ys rows stay eats d).2]) 0 [0, 1, 2, 4] (Nat.zero_le _) ⟨rfl, rfl, rfl, (by repeat' (first | exact trivial | rfl | apply And.intro)), (by repeat' (first | exact trivial | rfl | apply And.intro)), rfl, rfl, rfl⟩ fun d hle ih => ?_
  obtain ⟨k1, k2, k3, k4⟩ := hK d
  obtain ⟨z1, z2, z3, z4⟩ := hZ d
  have dd := hD d
  by_cases hlt : (d : Int) < days
  · unfold dyO dyI at dd
    refine Goes.tree Γ_ok htb 1000 false false Try.func65 rfl ?_
    ((try simp only [decide_eq_true_eq, decide_eq_false_iff_not, Bool.not_eq_true', Bool.not_eq_false', Bool.not_true, Bool.not_false, Bool.and_eq_true, Bool.or_eq_true, bne_iff_ne, beq_iff_eq, ne_eq]); (try simp only [rng, lo, hi, mnI, mxI, Int.toNat_natCast, Sg.n, Nat.mul_one, Nat.zero_add, Nat.add_zero, Nat.reduceAdd, List.getD_cons_zero, List.getD_cons_succ, one_row]))
    ((repeat' (first | (with_reducible apply And.intro) | intro _)); all_goals (first | exact trivial | (with_reducible assumption) | (show (_ : List Blk) = _; rfl) | (first | exact trivial | (with_reducible assumption) | omega | (split <;> omega) | (split <;> split <;> omega)) | skip); all_goals (try (refine ⟨rfl, (by first | exact Nat.le_refl _ | exact Nat.le_of_ble_eq_true rfl), rfl, rfl, ?_, (by repeat' (first | exact trivial | rfl | apply And.intro)), rfl, rfl⟩)))
    all_goals (try first | exact dd.2.2.2.2.1 | exact dd.2.2.2.2.2 | exact z1 | exact z2)
    · show ((rtK p g Ys rows stay eats d).2 ++ [_]).length ≤ _
      simp only [List.length_append, List.length_cons, List.length_nil]; omega
    · exact ⟨ih (d + 1) (by omega) (by omega) [0, 1, 2, 6] _ _ ⟨rfl, rfl, rfl, (by repeat' (first | exact trivial | rfl | apply And.intro)), (by repeat' (first | exact trivial | rfl | apply And.intro)), rfl, rfl, rfl⟩⟩
  · obtain rfl : d = days.toNat := by omega
    clear ih
    refine Goes.tree Γ_ok htb 1000 false false Try.func65 rfl ?_
    ((try simp only [decide_eq_true_eq, decide_eq_false_iff_not, Bool.not_eq_true', Bool.not_eq_false', Bool.not_true, Bool.not_false, Bool.and_eq_true, Bool.or_eq_true, bne_iff_ne, beq_iff_eq, ne_eq]); (try simp only [rng, lo, hi, mnI, mxI, Int.toNat_natCast, Sg.n, Nat.mul_one, Nat.zero_add, Nat.add_zero, Nat.reduceAdd, List.getD_cons_zero, List.getD_cons_succ]))
    ((repeat' (first | (with_reducible apply And.intro) | intro _)); all_goals (first | exact trivial | (with_reducible assumption) | (show (_ : List Blk) = _; rfl) | (first | exact trivial | (with_reducible assumption) | omega | (split <;> omega) | (split <;> split <;> omega)) | skip); all_goals (try (refine ⟨rfl, (by first | exact Nat.le_refl _ | exact Nat.le_of_ble_eq_true rfl), rfl, rfl, ?_, (by repeat' (first | exact trivial | rfl | apply And.intro)), rfl, rfl⟩)))
    all_goals (first | contradiction | exact sameA_refl _ | trace_state)

noncomputable def rtPOS : Fun
  | [.pw 0 .pas, .ag .gro g, .fs .i64 rows, .i .i64 stay, .i .i64 eats, .i .i64 days], [.c .pas p] => some (.ow 1 (rtK p g (yL p (spots p)) rows stay eats days.toNat).2.length .i64 2, [.c .pas (rtK p g (yL p (spots p)) rows stay eats days.toNat).1, .l .i64 (rtK p g (yL p (spots p)) rows stay eats days.toNat).2], [RtOk p g (yL p (spots p)) rows stay eats days])
  | _, _ => .none
set_option maxRecDepth 100000 in
theorem s_rotateO : Sound Try.prog 69 rtPOS := by
  intro args M r M' vs h hvs
  unfold rtPOS at h
  split at h
  case h_2 => cases h
  rename_i g rows stay eats days p
  cases h
  refine SpecOK.assume fun hA hM => ?_
  have htb := (TbOk.cons s_yards Try.func76 rfl rfl (TbOk.cons s_sizeI Try.func126 rfl rfl (TbOk.cons s_graze Try.func84 rfl rfl (TbOk.cons s_grow Try.func105 rfl rfl (TbOk.nil : TbOk Try.prog tb0)))))
  refine SpecOK.of_goes [0, 2] Try.func69 rfl ?_
  obtain ⟨hR, -⟩ := hvs
  have hl : (rows.length : Int) ≤ 40 := hR.od.1.2
  have hK := rtK_ok hR
  have hZ := rt_grz hR
  have hD := fun d => dy_ok (d := d) hR.st.1 hR.od
  obtain ⟨-, hd, -, -, hst, hea, hod, hdd⟩ := hR
  have hn1 := hod.1
  clear hA hM hod
  refine Goes.tree Γ_ok htb 1000 false false Try.func69 rfl ?_
  ((try simp only [decide_eq_true_eq, decide_eq_false_iff_not, Bool.not_eq_true', Bool.not_eq_false', Bool.not_true, Bool.not_false, Bool.and_eq_true, Bool.or_eq_true, bne_iff_ne, beq_iff_eq, ne_eq]); (try simp only [rng, lo, hi, mnI, mxI, Int.toNat_natCast, Sg.n, Nat.mul_one, Nat.zero_add, Nat.add_zero, Nat.reduceAdd, List.getD_cons_zero, List.getD_cons_succ]))
  ((repeat' (first | (with_reducible apply And.intro) | intro _)); all_goals (first | exact trivial | (with_reducible assumption) | (show (_ : List Blk) = _; rfl) | (first | exact trivial | (with_reducible assumption) | omega | (split <;> omega) | (split <;> split <;> omega)) | skip); all_goals (try (refine ⟨rfl, (by first | exact Nat.le_refl _ | exact Nat.le_of_ble_eq_true rfl), rfl, rfl, ?_, (by repeat' (first | exact trivial | rfl | apply And.intro)), rfl, rfl⟩)))
  refine ⟨?_⟩
  generalize hYs : yL p (spots p) = Ys at *
  refine Goes.loopR (fun d : Nat => days.toNat - d) (fun d => d ≤ days.toNat) (fun d => (.pw 0 .pas :: .any :: .fs .i64 rows :: .i .i64 stay :: .i .i64 eats :: .any :: .any :: .pw 1 .gro :: .any :: .any :: .any :: .any :: .any :: .fz .spot Ys :: .ow 2 (rtK p g Ys rows stay eats d).2.length .i64 2 :: .any :: .any :: .any :: .any :: .any :: .any :: .any :: .i .i64 days :: .i .i64 (d:Int) :: .any :: .any :: .any :: .any :: .any :: .any :: .any :: .any :: .any :: .any :: .any :: .any :: .any :: .any :: .any :: .any :: .any :: .any :: .any :: .any :: .any :: .any :: .any :: .any :: .any :: .any :: .any :: []))
    (fun d => [.c .pas (rtK p g Ys rows stay eats d).1, .c .gro g, .l .i64 (rtK p g Ys rows stay eats d).2]) 0 [0, 1, 2] (Nat.zero_le _) ⟨rfl, rfl, rfl, (by repeat' (first | exact trivial | rfl | apply And.intro)), (by repeat' (first | exact trivial | rfl | apply And.intro)), rfl, rfl, rfl⟩ fun d hle ih => ?_
  obtain ⟨k1, k2, k3, k4⟩ := hK d
  obtain ⟨z1, z2, z3, z4⟩ := hZ d
  have dd := hD d
  by_cases hlt : (d : Int) < days
  · unfold dyO dyI at dd
    refine Goes.tree Γ_ok htb 1000 false false Try.func69 rfl ?_
    ((try simp only [decide_eq_true_eq, decide_eq_false_iff_not, Bool.not_eq_true', Bool.not_eq_false', Bool.not_true, Bool.not_false, Bool.and_eq_true, Bool.or_eq_true, bne_iff_ne, beq_iff_eq, ne_eq]); (try simp only [rng, lo, hi, mnI, mxI, Int.toNat_natCast, Sg.n, Nat.mul_one, Nat.zero_add, Nat.add_zero, Nat.reduceAdd, List.getD_cons_zero, List.getD_cons_succ, one_row]))
    ((repeat' (first | (with_reducible apply And.intro) | intro _)); all_goals (first | exact trivial | (with_reducible assumption) | (show (_ : List Blk) = _; rfl) | (first | exact trivial | (with_reducible assumption) | omega | (split <;> omega) | (split <;> split <;> omega)) | skip); all_goals (try (refine ⟨rfl, (by first | exact Nat.le_refl _ | exact Nat.le_of_ble_eq_true rfl), rfl, rfl, ?_, (by repeat' (first | exact trivial | rfl | apply And.intro)), rfl, rfl⟩)))
    all_goals (try first | exact dd.2.2.2.2.1 | exact dd.2.2.2.2.2 | exact z1 | exact z2)
    · show ((rtK p g Ys rows stay eats d).2 ++ [_]).length ≤ _
      simp only [List.length_append, List.length_cons, List.length_nil]; omega
    · exact ⟨ih (d + 1) (by omega) (by omega) [0, 1, 4] _ _ ⟨rfl, rfl, rfl, (by repeat' (first | exact trivial | rfl | apply And.intro)), (by repeat' (first | exact trivial | rfl | apply And.intro)), rfl, rfl, rfl⟩⟩
  · obtain rfl : d = days.toNat := by omega
    clear ih
    refine Goes.tree Γ_ok htb 1000 false false Try.func69 rfl ?_
    ((try simp only [decide_eq_true_eq, decide_eq_false_iff_not, Bool.not_eq_true', Bool.not_eq_false', Bool.not_true, Bool.not_false, Bool.and_eq_true, Bool.or_eq_true, bne_iff_ne, beq_iff_eq, ne_eq]); (try simp only [rng, lo, hi, mnI, mxI, Int.toNat_natCast, Sg.n, Nat.mul_one, Nat.zero_add, Nat.add_zero, Nat.reduceAdd, List.getD_cons_zero, List.getD_cons_succ]))
    ((repeat' (first | (with_reducible apply And.intro) | intro _)); all_goals (first | exact trivial | (with_reducible assumption) | (show (_ : List Blk) = _; rfl) | (first | exact trivial | (with_reducible assumption) | omega | (split <;> omega) | (split <;> split <;> omega)) | skip); all_goals (try (refine ⟨rfl, (by first | exact Nat.le_refl _ | exact Nat.le_of_ble_eq_true rfl), rfl, rfl, ?_, (by repeat' (first | exact trivial | rfl | apply And.intro)), rfl, rfl⟩)))
    all_goals (first | contradiction | exact sameA_refl _ | trace_state)

theorem rot_ok {p g : List Int} {rows : List (List Int)} {stay eats days : Int} (hlen : p.length = 122) (h : rotC p g rows stay eats days = 0) : RtOk p g (yL p (spots p)) rows stay eats days := by
  obtain ⟨h1, h2, h3, h4, h5, h6, h7⟩ := rotC_ok h
  exact ⟨GR.of hlen h1, h1.1, h2, fun Y hY => yL_cells h1.1 hY, h4, h5, ⟨h6, h7⟩, h3⟩

/-- The sums. -/
noncomputable def rtS (p g : List Int) (rows : List (List Int)) (stay eats days : Int) : List (List Int) := (rtK p g (yL p (spots p)) rows stay eats days.toNat).2
noncomputable def rtP (p g : List Int) (rows : List (List Int)) (stay eats days : Int) : List Int := (rtK p g (yL p (spots p)) rows stay eats days.toNat).1

noncomputable def ryOkS : Fun
  | [.ag .pas p, .ag .gro g, .fs .i64 rows, .i .i64 stay, .i .i64 eats, .i .i64 days], [] => some (.t3 (.ag .pas (rtP p g rows stay eats days)) (.ow 0 (rtS p g rows stay eats days).length .i64 2) (.i .i64 0), [.l .i64 (rtS p g rows stay eats days)], [rotC p g rows stay eats days = 0])
  | _, _ => .none
noncomputable def rySErrS : Fun
  | [.ag .pas p, .ag .gro g, .fs .i64 rows, .i .i64 stay, .i .i64 eats, .i .i64 days], [] => some (.t3 (.ag .pas (List.replicate 122 0)) (.ow 0 0 .i64 2) (.i .i64 (rotC p g rows stay eats days)), [.l .i64 []], [¬ rotC p g rows stay eats days = 0])
  | _, _ => .none
noncomputable def ryErrS : Fun
  | [.ag .pas p, .ag .gro g, .fs .i64 rows, .i .i64 stay, .i .i64 eats, .i .i64 days], [] => some (.t3 (.ag .pas (List.replicate 122 0)) .nsl (.i .i64 (rotC p g rows stay eats days)), [], [¬ rotC p g rows stay eats days = 0])
  | _, _ => .none

set_option maxRecDepth 100000 in
theorem s_iRotOk : Sound Try.prog 27 ryOkS := by
  intro args M r M' vs h hvs
  unfold ryOkS at h
  split at h
  case h_2 => cases h
  rename_i p g rows stay eats days
  cases h
  refine SpecOK.assume fun hA hM => ?_
  have htb := (TbOk.cons s_rotateCode Try.func67 rfl rfl (TbOk.cons s_rotateO Try.func69 rfl rfl (TbOk.nil : TbOk Try.prog tb0)))
  refine SpecOK.of_goes [3] Try.func27 rfl ?_
  obtain ⟨hc, -⟩ := hvs
  have hR := rot_ok hA.1 hc
  clear hA hM
  unfold rtP rtS
  refine Goes.tree Γ_ok htb 1000 false false Try.func27 rfl ?_
  ((try simp only [decide_eq_true_eq, decide_eq_false_iff_not, Bool.not_eq_true', Bool.not_eq_false', Bool.not_true, Bool.not_false, Bool.and_eq_true, Bool.or_eq_true, bne_iff_ne, beq_iff_eq, ne_eq]); (try simp only [rng, lo, hi, mnI, mxI, Int.toNat_natCast, Sg.n, Nat.mul_one, Nat.zero_add, Nat.add_zero, Nat.reduceAdd, List.getD_cons_zero, List.getD_cons_succ]))
  ((repeat' (first | (with_reducible apply And.intro) | intro _)); all_goals (first | exact trivial | (with_reducible assumption) | (show (_ : List Blk) = _; rfl) | (first | exact trivial | (with_reducible assumption) | omega | (split <;> omega) | (split <;> split <;> omega)) | skip); all_goals (try (refine ⟨rfl, (by first | exact Nat.le_refl _ | exact Nat.le_of_ble_eq_true rfl), rfl, rfl, ?_, (by repeat' (first | exact trivial | rfl | apply And.intro)), rfl, rfl⟩)))
  all_goals (first | contradiction | exact hR | (rw [hc]; exact sameA_refl _) | exact sameA_refl _ | trace_state)
set_option maxRecDepth 100000 in
theorem s_iRotErr : Sound Try.prog 27 ryErrS := by
  intro args M r M' vs h hvs
  unfold ryErrS at h
  split at h
  case h_2 => cases h
  rename_i p g rows stay eats days
  cases h
  refine SpecOK.assume fun hA hM => ?_
  have htb := (TbOk.cons s_rotateCode Try.func67 rfl rfl (TbOk.cons s_rotateO Try.func69 rfl rfl (TbOk.nil : TbOk Try.prog tb0)))
  refine SpecOK.of_goes [] Try.func27 rfl ?_
  obtain ⟨hc, -⟩ := hvs
  clear hA hM
  refine Goes.tree Γ_ok htb 1000 false false Try.func27 rfl ?_
  ((try simp only [decide_eq_true_eq, decide_eq_false_iff_not, Bool.not_eq_true', Bool.not_eq_false', Bool.not_true, Bool.not_false, Bool.and_eq_true, Bool.or_eq_true, bne_iff_ne, beq_iff_eq, ne_eq]); (try simp only [rng, lo, hi, mnI, mxI, Int.toNat_natCast, Sg.n, Nat.mul_one, Nat.zero_add, Nat.add_zero, Nat.reduceAdd, List.getD_cons_zero, List.getD_cons_succ]))
  ((repeat' (first | (with_reducible apply And.intro) | intro _)); all_goals (first | exact trivial | (with_reducible assumption) | (show (_ : List Blk) = _; rfl) | (first | exact trivial | (with_reducible assumption) | omega | (split <;> omega) | (split <;> split <;> omega)) | skip); all_goals (try (refine ⟨rfl, (by first | exact Nat.le_refl _ | exact Nat.le_of_ble_eq_true rfl), rfl, rfl, ?_, (by repeat' (first | exact trivial | rfl | apply And.intro)), rfl, rfl⟩)))
  all_goals (first | contradiction | exact sameA_refl _ | trace_state)
set_option maxRecDepth 100000 in
theorem s_sRotOk : Sound Try.prog 26 ryOkS := by
  intro args M r M' vs h hvs
  unfold ryOkS at h
  split at h
  case h_2 => cases h
  rename_i p g rows stay eats days
  cases h
  refine SpecOK.assume fun hA hM => ?_
  have htb := (TbOk.cons s_l04Rotated Try.func64 rfl rfl (TbOk.cons s_l04RotateO Try.func65 rfl rfl (TbOk.nil : TbOk Try.prog tb0)))
  refine SpecOK.of_goes [3] Try.func26 rfl ?_
  obtain ⟨hc, -⟩ := hvs
  have hR := rot_ok hA.1 hc
  clear hA hM
  unfold rtP rtS
  refine Goes.tree Γ_ok htb 1000 false false Try.func26 rfl ?_
  ((try simp only [decide_eq_true_eq, decide_eq_false_iff_not, Bool.not_eq_true', Bool.not_eq_false', Bool.not_true, Bool.not_false, Bool.and_eq_true, Bool.or_eq_true, bne_iff_ne, beq_iff_eq, ne_eq]); (try simp only [rng, lo, hi, mnI, mxI, Int.toNat_natCast, Sg.n, Nat.mul_one, Nat.zero_add, Nat.add_zero, Nat.reduceAdd, List.getD_cons_zero, List.getD_cons_succ]))
  ((repeat' (first | (with_reducible apply And.intro) | intro _)); all_goals (first | exact trivial | (with_reducible assumption) | (show (_ : List Blk) = _; rfl) | (first | exact trivial | (with_reducible assumption) | omega | (split <;> omega) | (split <;> split <;> omega)) | skip); all_goals (try (refine ⟨rfl, (by first | exact Nat.le_refl _ | exact Nat.le_of_ble_eq_true rfl), rfl, rfl, ?_, (by repeat' (first | exact trivial | rfl | apply And.intro)), rfl, rfl⟩)))
  all_goals (first | contradiction | exact hR | (rw [hc]; exact sameA_refl _) | exact sameA_refl _ | trace_state)
set_option maxRecDepth 100000 in
theorem s_sRotErr : Sound Try.prog 26 rySErrS := by
  intro args M r M' vs h hvs
  unfold rySErrS at h
  split at h
  case h_2 => cases h
  rename_i p g rows stay eats days
  cases h
  refine SpecOK.assume fun hA hM => ?_
  have htb := (TbOk.cons s_l04Rotated Try.func64 rfl rfl (TbOk.cons s_l04RotateO Try.func65 rfl rfl (TbOk.nil : TbOk Try.prog tb0)))
  refine SpecOK.of_goes [3] Try.func26 rfl ?_
  obtain ⟨hc, -⟩ := hvs
  clear hA hM
  refine Goes.tree Γ_ok htb 1000 false false Try.func26 rfl ?_
  ((try simp only [decide_eq_true_eq, decide_eq_false_iff_not, Bool.not_eq_true', Bool.not_eq_false', Bool.not_true, Bool.not_false, Bool.and_eq_true, Bool.or_eq_true, bne_iff_ne, beq_iff_eq, ne_eq]); (try simp only [rng, lo, hi, mnI, mxI, Int.toNat_natCast, Sg.n, Nat.mul_one, Nat.zero_add, Nat.add_zero, Nat.reduceAdd, List.getD_cons_zero, List.getD_cons_succ]))
  ((repeat' (first | (with_reducible apply And.intro) | intro _)); all_goals (first | exact trivial | (with_reducible assumption) | (show (_ : List Blk) = _; rfl) | (first | exact trivial | (with_reducible assumption) | omega | (split <;> omega) | (split <;> split <;> omega)) | skip); all_goals (try (refine ⟨rfl, (by first | exact Nat.le_refl _ | exact Nat.le_of_ble_eq_true rfl), rfl, rfl, ?_, (by repeat' (first | exact trivial | rfl | apply And.intro)), rfl, rfl⟩)))
  all_goals (first | contradiction | exact sameA_refl _ | trace_state)
end Go.Proofs.Ytgogccconmlkiaa
