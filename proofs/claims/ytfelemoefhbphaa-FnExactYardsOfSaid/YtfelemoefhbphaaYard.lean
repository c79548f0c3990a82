/- The yard of a cell. -/
import Derived.Test.YtfelemoefhbphaaBfs
import Derived.Test.YtfelemoefhbphaaFilt
namespace Go.Proofs.Ytfelemoefhbphaa
open Go Go.Eng
set_option linter.unusedSimpArgs false
set_option linter.unusedVariables false
set_option maxRecDepth 100000
set_option maxHeartbeats 4000000

/-- Is the cell reached? -/
def inT (T : List Int) (c : List Int) : Bool := decide (0 ≤ T.getD (cx c) 0)
noncomputable def yardR (p s : List Int) : List (List Int) := spotsF (inT (m1 (bfsD p [s]))) (p.getD 0 0).toNat (p.getD 1 0).toNat

def inTS : Fun
  | [.ag .spot c, .pw 0 .grid], [.c .grid T] => some (.b (inT T c), [.c .grid T], [inG c ∧ ∀ j, -1 ≤ T.getD j 0 ∧ T.getD j 0 ≤ 100])
  | _, _ => .none
set_option maxRecDepth 100000 in
theorem s_inT : Sound Try.prog 115 inTS := by
  intro args M r M' vs h hvs
  unfold inTS at h
  split at h
  case h_2 => cases h
  rename_i c T
  cases h
  refine SpecOK.assume fun hA hM => ?_
  have htb := (TbOk.cons s_stepAt Try.func110 rfl rfl (TbOk.nil : TbOk Try.prog tb0))
  refine SpecOK.of_goes [0] Try.func115 rfl ?_
  obtain ⟨⟨hb, hr⟩, -⟩ := hvs
  clear hA hM
  refine Goes.tree Γ_ok htb 1000 false false Try.func115 rfl ?_
  ((try simp only [decide_eq_true_eq, decide_eq_false_iff_not, Bool.not_eq_true', Bool.not_eq_false', Bool.not_true, Bool.not_false, Bool.and_eq_true, Bool.or_eq_true, bne_iff_ne, beq_iff_eq, ne_eq]); (try simp only [rng, lo, hi, mnI, mxI, Int.toNat_natCast, Sg.n, Nat.mul_one, Nat.zero_add, Nat.add_zero, Nat.reduceAdd, List.getD_cons_zero, List.getD_cons_succ]))
  ((repeat' (first | (with_reducible apply And.intro) | intro _)); all_goals (first | exact trivial | (with_reducible assumption) | (show (_ : List Blk) = _; rfl) | (first | exact trivial | (with_reducible assumption) | omega | (split <;> omega) | (split <;> split <;> omega)) | skip); all_goals (try (refine ⟨rfl, (by first | exact Nat.le_refl _ | exact Nat.le_of_ble_eq_true rfl), rfl, rfl, ?_, (by repeat' (first | exact trivial | rfl | apply And.intro)), rfl, rfl⟩)))
  all_goals (first | exact hb | exact (hr _).1 | exact (hr _).2 | exact sameA_refl _)
def cellsYardS : Fun
  | [.ag .pas p, .fn 115 [(0, .grid)]], [.c .grid T] => some (.ow 1 (spotsF (inT T) (p.getD 0 0).toNat (p.getD 1 0).toNat).length .spot 37, [.c .grid T, .l .spot (spotsF (inT T) (p.getD 0 0).toNat (p.getD 1 0).toNat)], [okD p ∧ (∀ j, -1 ≤ T.getD j 0 ∧ T.getD j 0 ≤ 100)])
  | _, _ => .none

set_option maxRecDepth 100000 in
theorem s_cellsYard : Sound Try.prog 108 cellsYardS := by
  intro args M r M' vs h hvs
  unfold cellsYardS at h
  split at h
  case h_2 => cases h
  rename_i p T
  cases h
  refine SpecOK.assume fun hA hM => ?_
  have htb := (TbOk.cons s_inT Try.func115 rfl rfl (TbOk.nil : TbOk Try.prog tb0))
  refine SpecOK.of_goes [0, 2] Try.func108 rfl ?_
  obtain ⟨⟨⟨hw1, hw2, hh1, hh2⟩, hcond⟩, -⟩ := hvs
  clear hA hM
  have hb : ∀ y, y ≤ (p.getD 1 0).toNat → (p.getD 0 0).toNat * y ≤ 10 * 10 := fun y hy => Nat.mul_le_mul (by omega) (by omega)
  refine Goes.tree Γ_ok htb 1000 false false Try.func108 rfl ?_
  refine ⟨?_⟩
  refine Goes.loopR (fun y : Nat => (p.getD 1 0).toNat - y) (fun y => y ≤ (p.getD 1 0).toNat) (fun y => (.any :: .fn 115 [(0, .grid)] :: .pw 1 .pas :: .any :: .any :: .ow 2 (spotsF (inT T) (p.getD 0 0).toNat y).length .spot 37 :: .any :: .any :: .any :: .any :: .any :: .i .i8 (p.getD 1 0) :: .i .i8 (y:Int) :: .any :: .any :: .any :: .any :: .any :: .any :: .any :: .any :: .any :: .any :: .any :: .any :: .any :: .any :: .any :: .any :: .any :: .any :: .any :: .any :: []))
    (fun y => [.c .grid T, .c .pas p, .l .spot (spotsF (inT T) (p.getD 0 0).toNat y)]) 0 [0, 1, 2] (by omega) ⟨rfl, rfl, rfl, (by repeat' (first | exact trivial | rfl | apply And.intro)), (by repeat' (first | exact trivial | rfl | apply And.intro)), rfl, rfl, rfl⟩ fun y hy ihO => ?_
  have hb1 := hb y hy
  by_cases hlt : (y : Int) < p.getD 1 0
  · refine Goes.tree Γ_ok htb 1000 false false Try.func108 rfl ?_
    ((try simp only [decide_eq_true_eq, decide_eq_false_iff_not, Bool.not_eq_true', Bool.not_eq_false', Bool.not_true, Bool.not_false, Bool.and_eq_true, Bool.or_eq_true, bne_iff_ne, beq_iff_eq, ne_eq]); (try simp only [rng, lo, hi, mnI, mxI, Int.toNat_natCast, Sg.n, Nat.mul_one, Nat.zero_add, Nat.add_zero, Nat.reduceAdd, List.getD_cons_zero, List.getD_cons_succ]))
    ((repeat' (first | (with_reducible apply And.intro) | intro _)); all_goals (first | exact trivial | (with_reducible assumption) | (show (_ : List Blk) = _; rfl) | (first | exact trivial | (with_reducible assumption) | omega | (split <;> omega) | (split <;> split <;> omega)) | skip); all_goals (try (refine ⟨rfl, (by first | exact Nat.le_refl _ | exact Nat.le_of_ble_eq_true rfl), rfl, rfl, ?_, (by repeat' (first | exact trivial | rfl | apply And.intro)), rfl, rfl⟩)))
    refine ⟨?_⟩
    refine Goes.loopR (fun x : Nat => (p.getD 0 0).toNat - x) (fun x => x ≤ (p.getD 0 0).toNat) (fun x => (.any :: .fn 115 [(0, .grid)] :: .pw 1 .pas :: .any :: .any :: .ow 2 (rowF (inT T) (spotsF (inT T) (p.getD 0 0).toNat y) y x).length .spot 37 :: .i .i8 (y:Int) :: .any :: .any :: .any :: .any :: .i .i8 (p.getD 1 0) :: .i .i8 (y:Int) :: .any :: .any :: .any :: .i .i8 (p.getD 0 0) :: .i .i8 (x:Int) :: .any :: .any :: .any :: .any :: .any :: .any :: .any :: .any :: .any :: .any :: .any :: .any :: .any :: .any :: .any :: []))
      (fun x => [.c .grid T, .c .pas p, .l .spot (rowF (inT T) (spotsF (inT T) (p.getD 0 0).toNat y) y x)]) 0 [0, 1, 2] (by omega) ⟨rfl, rfl, rfl, (by repeat' (first | exact trivial | rfl | apply And.intro)), (by repeat' (first | exact trivial | rfl | apply And.intro)), rfl, rfl, rfl⟩ fun x hx ih => ?_
    have l1 := rowF_len (inT T) (spotsF (inT T) (p.getD 0 0).toNat y) y x
    have l2 := spotsF_len (inT T) (p.getD 0 0).toNat y
    have hyes : (inT T) [(x:Int), (y:Int)] = true → rowF (inT T) (spotsF (inT T) (p.getD 0 0).toNat y) y (x + 1) = rowF (inT T) (spotsF (inT T) (p.getD 0 0).toNat y) y x ++ [[(x : Int), (y : Int)]] := fun h => by rw [rowF, if_pos h]
    have hno : (inT T) [(x:Int), (y:Int)] = false → rowF (inT T) (spotsF (inT T) (p.getD 0 0).toNat y) y (x + 1) = rowF (inT T) (spotsF (inT T) (p.getD 0 0).toNat y) y x := fun h => by rw [rowF, if_neg (by rw [h]; decide)]
    refine Goes.tree Γ_ok htb 1000 false false Try.func108 rfl ?_
    ((try simp only [decide_eq_true_eq, decide_eq_false_iff_not, Bool.not_eq_true', Bool.not_eq_false', Bool.not_true, Bool.not_false, Bool.and_eq_true, Bool.or_eq_true, bne_iff_ne, beq_iff_eq, ne_eq]); (try simp only [rng, lo, hi, mnI, mxI, Int.toNat_natCast, Sg.n, Nat.mul_one, Nat.zero_add, Nat.add_zero, Nat.reduceAdd, List.getD_cons_zero, List.getD_cons_succ, one_row]))
    ((repeat' (first | (with_reducible apply And.intro) | intro _)); all_goals (first | exact trivial | (with_reducible assumption) | (show (_ : List Blk) = _; rfl) | (first | exact trivial | (with_reducible assumption) | omega | (split <;> omega) | (split <;> split <;> omega)) | skip); all_goals (try (refine ⟨rfl, (by first | exact Nat.le_refl _ | exact Nat.le_of_ble_eq_true rfl), rfl, rfl, ?_, (by repeat' (first | exact trivial | rfl | apply And.intro)), rfl, rfl⟩)))
    all_goals (try first | (with_reducible exact hcond) | exact (hcond _).1 | exact (hcond _).2)
    · simp only [inG, List.getD_cons_zero, List.getD_cons_succ]; omega
    · show (rowF (inT T) (spotsF (inT T) (p.getD 0 0).toNat y) y x ++ [[(x:Int), (y:Int)]]).length ≤ _
      simp only [List.length_append, List.length_cons, List.length_nil]; omega
    · refine ⟨ih (x + 1) (by omega) (by omega) [0, 1, 5] _ _ ?_⟩
      rw [hyes (by assumption)]
      exact ⟨rfl, rfl, rfl, (by repeat' (first | exact trivial | rfl | apply And.intro)), (by repeat' (first | exact trivial | rfl | apply And.intro)), rfl, rfl, rfl⟩
    · refine ⟨ih (x + 1) (by omega) (by omega) [0, 1, 2] _ _ ?_⟩
      rw [hno (by assumption)]
      exact ⟨rfl, rfl, rfl, (by repeat' (first | exact trivial | rfl | apply And.intro)), (by repeat' (first | exact trivial | rfl | apply And.intro)), rfl, rfl, rfl⟩
    · obtain rfl : x = (p.getD 0 0).toNat := by omega
      exact ⟨ihO (y + 1) (by omega) (by omega) [0, 1, 2] _ _ ⟨rfl, rfl, rfl, (by repeat' (first | exact trivial | rfl | apply And.intro)), (by repeat' (first | exact trivial | rfl | apply And.intro)), rfl, rfl, rfl⟩⟩
  · obtain rfl : y = (p.getD 1 0).toNat := by omega
    clear ihO
    refine Goes.tree Γ_ok htb 1000 false false Try.func108 rfl ?_
    ((try simp only [decide_eq_true_eq, decide_eq_false_iff_not, Bool.not_eq_true', Bool.not_eq_false', Bool.not_true, Bool.not_false, Bool.and_eq_true, Bool.or_eq_true, bne_iff_ne, beq_iff_eq, ne_eq]); (try simp only [rng, lo, hi, mnI, mxI, Int.toNat_natCast, Sg.n, Nat.mul_one, Nat.zero_add, Nat.add_zero, Nat.reduceAdd, List.getD_cons_zero, List.getD_cons_succ]))
    ((repeat' (first | (with_reducible apply And.intro) | intro _)); all_goals (first | exact trivial | (with_reducible assumption) | (show (_ : List Blk) = _; rfl) | (first | exact trivial | (with_reducible assumption) | omega | (split <;> omega) | (split <;> split <;> omega)) | skip); all_goals (try (refine ⟨rfl, (by first | exact Nat.le_refl _ | exact Nat.le_of_ble_eq_true rfl), rfl, rfl, ?_, (by repeat' (first | exact trivial | rfl | apply And.intro)), rfl, rfl⟩)))
    all_goals (first | contradiction | exact sameA_refl _)


noncomputable def yardOS : Fun
  | [.ag .pas p, .ag .spot s], [] => some (.ow 0 (yardR p s).length .spot 37, [.l .spot (yardR p s)], [okD p ∧ isP p s = true])
  | _, _ => .none
set_option maxRecDepth 100000 in
theorem s_yard : Sound Try.prog 59 yardOS := by
  intro args M r M' vs h hvs
  unfold yardOS at h
  split at h
  case h_2 => cases h
  rename_i p s
  cases h
  refine SpecOK.assume fun hA hM => ?_
  have htb := (TbOk.cons s_far Try.func82 rfl rfl (TbOk.cons s_cellsYard Try.func108 rfl rfl (TbOk.nil : TbOk Try.prog tb0)))
  refine SpecOK.of_goes [4] Try.func59 rfl ?_
  obtain ⟨⟨hd, hs⟩, -⟩ := hvs
  have hr := m1_rng hd (one_isP hs)
  clear hA hM
  refine Goes.tree Γ_ok htb 1000 false false Try.func59 rfl ?_
  ((try simp only [decide_eq_true_eq, decide_eq_false_iff_not, Bool.not_eq_true', Bool.not_eq_false', Bool.not_true, Bool.not_false, Bool.and_eq_true, Bool.or_eq_true, bne_iff_ne, beq_iff_eq, ne_eq]); (try simp only [rng, lo, hi, mnI, mxI, Int.toNat_natCast, Sg.n, Nat.mul_one, Nat.zero_add, Nat.add_zero, Nat.reduceAdd, List.getD_cons_zero, List.getD_cons_succ, one_row]))
  ((repeat' (first | (with_reducible apply And.intro) | intro _)); all_goals (first | exact trivial | (with_reducible assumption) | (show (_ : List Blk) = _; rfl) | (first | exact trivial | (with_reducible assumption) | omega | (split <;> omega) | (split <;> split <;> omega)) | skip); all_goals (try (refine ⟨rfl, (by first | exact Nat.le_refl _ | exact Nat.le_of_ble_eq_true rfl), rfl, rfl, ?_, (by repeat' (first | exact trivial | rfl | apply And.intro)), rfl, rfl⟩)))
  all_goals (try first | exact hd | exact one_isP hs _ (by assumption) | (simp; done) | exact (hr _).1 | exact (hr _).2 | exact sameA_refl _)
  all_goals trace_state

noncomputable def yardFS : Fun
  | [.pw 0 .pas, .ag .spot s], [.c .pas p] => some (.fs .spot (yardR p s), [.c .pas p], [okD p ∧ isP p s = true])
  | _, _ => .none
set_option maxRecDepth 100000 in
theorem s_l01Yard : Sound Try.prog 55 yardFS := by
  intro args M r M' vs h hvs
  unfold yardFS at h
  split at h
  case h_2 => cases h
  rename_i s p
  cases h
  refine SpecOK.assume fun hA hM => ?_
  have htb := (TbOk.cons s_l01Steps Try.func78 rfl rfl (TbOk.nil : TbOk Try.prog tb0))
  refine SpecOK.of_goes [0] Try.func55 rfl ?_
  obtain ⟨⟨hd, hs⟩, -⟩ := hvs
  have hp := PasOk.of hA.1 hM.1
  have hw := bfsD_wf hd (one_isP hs)
  obtain ⟨hw1, hw2, hh1, hh2⟩ := hd
  unfold yardR
  have hd : okD p := ⟨hw1, hw2, hh1, hh2⟩
  clear hA hM
  have hb : ∀ y, y ≤ (p.getD 1 0).toNat → (p.getD 0 0).toNat * y ≤ 10 * 10 := fun y hy => Nat.mul_le_mul (by omega) (by omega)
  refine Goes.tree Γ_ok htb 1000 true false Try.func55 rfl ?_
  ((try simp only [decide_eq_true_eq, decide_eq_false_iff_not, Bool.not_eq_true', Bool.not_eq_false', Bool.not_true, Bool.not_false, Bool.and_eq_true, Bool.or_eq_true, bne_iff_ne, beq_iff_eq, ne_eq]); (try simp only [rng, lo, hi, mnI, mxI, Int.toNat_natCast, Sg.n, Nat.mul_one, Nat.zero_add, Nat.add_zero, Nat.reduceAdd, List.getD_cons_zero, List.getD_cons_succ]))
  ((repeat' (first | (with_reducible apply And.intro) | intro _)); all_goals (first | exact trivial | (with_reducible assumption) | (show (_ : List Blk) = _; rfl) | (first | exact trivial | (with_reducible assumption) | omega | (split <;> omega) | (split <;> split <;> omega)) | skip); all_goals (try (refine ⟨rfl, (by first | exact Nat.le_refl _ | exact Nat.le_of_ble_eq_true rfl), rfl, rfl, ?_, (by repeat' (first | exact trivial | rfl | apply And.intro)), rfl, rfl⟩)))
  all_goals (try first | exact hd | exact hs)
  refine ⟨?_⟩
  generalize hF : inT (m1 (bfsD p [s])) = F at *
  generalize hT : bfsD p [s] = D at *
  refine Goes.loopR (fun y : Nat => (p.getD 1 0).toNat - y) (fun y => y ≤ (p.getD 1 0).toNat) (fun y => (.pw 0 .pas :: .any :: .any :: .pw 1 .spot :: .any :: .pw 2 .lgrid :: .ow 3 (spotsF F (p.getD 0 0).toNat y).length .spot 37 :: .i .i8 (y:Int) :: .any :: .any :: .any :: .any :: .any :: .any :: .any :: .any :: .any :: .any :: .any :: .any :: .any :: .any :: .any :: .any :: .any :: .any :: .any :: .any :: .any :: .any :: .any :: .any :: .any :: .any :: .any :: .any :: .any :: .any :: .any :: .any :: .any :: .any :: []))
    (fun y => [.c .pas p, .c .spot s, .c .lgrid D, .l .spot (spotsF F (p.getD 0 0).toNat y)]) 0 [0, 1, 2, 3] (by omega) ⟨rfl, rfl, rfl, (by repeat' (first | exact trivial | rfl | apply And.intro)), (by repeat' (first | exact trivial | rfl | apply And.intro)), rfl, rfl, rfl⟩ fun y hy ihO => ?_
  have hb1 := hb y hy
  by_cases hlt : (y : Int) < p.getD 1 0
  · refine Goes.tree Γ_ok htb 1000 true false Try.func55 rfl ?_
    ((try simp only [decide_eq_true_eq, decide_eq_false_iff_not, Bool.not_eq_true', Bool.not_eq_false', Bool.not_true, Bool.not_false, Bool.and_eq_true, Bool.or_eq_true, bne_iff_ne, beq_iff_eq, ne_eq]); (try simp only [rng, lo, hi, mnI, mxI, Int.toNat_natCast, Sg.n, Nat.mul_one, Nat.zero_add, Nat.add_zero, Nat.reduceAdd, List.getD_cons_zero, List.getD_cons_succ]))
    ((repeat' (first | (with_reducible apply And.intro) | intro _)); all_goals (first | exact trivial | (with_reducible assumption) | (show (_ : List Blk) = _; rfl) | (first | exact trivial | (with_reducible assumption) | omega | (split <;> omega) | (split <;> split <;> omega)) | skip); all_goals (try (refine ⟨rfl, (by first | exact Nat.le_refl _ | exact Nat.le_of_ble_eq_true rfl), rfl, rfl, ?_, (by repeat' (first | exact trivial | rfl | apply And.intro)), rfl, rfl⟩)))
    refine ⟨?_⟩
    refine Goes.loopR (fun x : Nat => (p.getD 0 0).toNat - x) (fun x => x ≤ (p.getD 0 0).toNat) (fun x => (.pw 0 .pas :: .any :: .any :: .pw 1 .spot :: .any :: .pw 2 .lgrid :: .ow 3 (rowF F (spotsF F (p.getD 0 0).toNat y) y x).length .spot 37 :: .i .i8 (y:Int) :: .i .i8 (x:Int) :: .any :: .any :: .any :: .any :: .any :: .any :: .any :: .any :: .any :: .any :: .any :: .any :: .any :: .any :: .any :: .any :: .any :: .any :: .any :: .any :: .any :: .any :: .any :: .any :: .any :: .any :: .any :: .any :: .any :: .any :: .any :: .any :: .any :: []))
      (fun x => [.c .pas p, .c .spot s, .c .lgrid D, .l .spot (rowF F (spotsF F (p.getD 0 0).toNat y) y x)]) 0 [0, 1, 2, 3] (by omega) ⟨rfl, rfl, rfl, (by repeat' (first | exact trivial | rfl | apply And.intro)), (by repeat' (first | exact trivial | rfl | apply And.intro)), rfl, rfl, rfl⟩ fun x hx ih => ?_
    have l1 := rowF_len F (spotsF F (p.getD 0 0).toNat y) y x
    have l2 := spotsF_len F (p.getD 0 0).toNat y
    have hbv : x < 10 → F [(x:Int), (y:Int)] = decide (0 < D.getD (y * 10 + x) 0) := fun h => by
      rw [← hF]
      unfold inT
      rw [m1_get (by rw [hw.1]; unfold cx; simp only [List.getD_cons_zero, List.getD_cons_succ, Int.toNat_natCast]; omega)]
      unfold cx
      simp only [List.getD_cons_zero, List.getD_cons_succ, Int.toNat_natCast]
      exact decide_eq_decide.2 (by omega)
    have hyes : x < 10 → 0 < D.getD (y * 10 + x) 0 → rowF F (spotsF F (p.getD 0 0).toNat y) y (x + 1) = rowF F (spotsF F (p.getD 0 0).toNat y) y x ++ [[(x : Int), (y : Int)]] := fun h0 h => by rw [rowF, if_pos (by rw [hbv h0]; exact decide_eq_true h)]
    have hno : x < 10 → ¬ 0 < D.getD (y * 10 + x) 0 → rowF F (spotsF F (p.getD 0 0).toNat y) y (x + 1) = rowF F (spotsF F (p.getD 0 0).toNat y) y x := fun h0 h => by rw [rowF, if_neg (by rw [hbv h0, decide_eq_false h]; decide)]
    have hwr := hw.2 (y * 10 + x)
    refine Goes.tree Γ_ok htb 1000 true false Try.func55 rfl ?_
    ((try simp only [decide_eq_true_eq, decide_eq_false_iff_not, Bool.not_eq_true', Bool.not_eq_false', Bool.not_true, Bool.not_false, Bool.and_eq_true, Bool.or_eq_true, bne_iff_ne, beq_iff_eq, ne_eq]); (try simp only [rng, lo, hi, mnI, mxI, Int.toNat_natCast, Sg.n, Nat.mul_one, Nat.zero_add, Nat.add_zero, Nat.reduceAdd, List.getD_cons_zero, List.getD_cons_succ, one_row]))
    ((repeat' (first | (with_reducible apply And.intro) | intro _)); all_goals (first | exact trivial | (with_reducible assumption) | (show (_ : List Blk) = _; rfl) | (first | exact trivial | (with_reducible assumption) | omega | (split <;> omega) | (split <;> split <;> omega)) | skip); all_goals (try (refine ⟨rfl, (by first | exact Nat.le_refl _ | exact Nat.le_of_ble_eq_true rfl), rfl, rfl, ?_, (by repeat' (first | exact trivial | rfl | apply And.intro)), rfl, rfl⟩)))
    · show (rowF F (spotsF F (p.getD 0 0).toNat y) y x ++ [[(x:Int), (y:Int)]]).length ≤ _
      simp only [List.length_append, List.length_cons, List.length_nil]; omega
    · refine ⟨ih (x + 1) (by omega) (by omega) [0, 1, 2, 5] _ _ ?_⟩
      rw [hyes (by omega) (by assumption)]
      exact ⟨rfl, rfl, rfl, (by repeat' (first | exact trivial | rfl | apply And.intro)), (by repeat' (first | exact trivial | rfl | apply And.intro)), rfl, rfl, rfl⟩
    · refine ⟨ih (x + 1) (by omega) (by omega) [0, 1, 2, 3] _ _ ?_⟩
      rw [hno (by omega) (by assumption)]
      exact ⟨rfl, rfl, rfl, (by repeat' (first | exact trivial | rfl | apply And.intro)), (by repeat' (first | exact trivial | rfl | apply And.intro)), rfl, rfl, rfl⟩
    · obtain rfl : x = (p.getD 0 0).toNat := by omega
      exact ⟨ihO (y + 1) (by omega) (by omega) [0, 1, 2, 3] _ _ ⟨rfl, rfl, rfl, (by repeat' (first | exact trivial | rfl | apply And.intro)), (by repeat' (first | exact trivial | rfl | apply And.intro)), rfl, rfl, rfl⟩⟩
  · obtain rfl : y = (p.getD 1 0).toNat := by omega
    clear ihO
    refine Goes.tree Γ_ok htb 1000 true false Try.func55 rfl ?_
    ((try simp only [decide_eq_true_eq, decide_eq_false_iff_not, Bool.not_eq_true', Bool.not_eq_false', Bool.not_true, Bool.not_false, Bool.and_eq_true, Bool.or_eq_true, bne_iff_ne, beq_iff_eq, ne_eq]); (try simp only [rng, lo, hi, mnI, mxI, Int.toNat_natCast, Sg.n, Nat.mul_one, Nat.zero_add, Nat.add_zero, Nat.reduceAdd, List.getD_cons_zero, List.getD_cons_succ]))
    ((repeat' (first | (with_reducible apply And.intro) | intro _)); all_goals (first | exact trivial | (with_reducible assumption) | (show (_ : List Blk) = _; rfl) | (first | exact trivial | (with_reducible assumption) | omega | (split <;> omega) | (split <;> split <;> omega)) | skip); all_goals (try (refine ⟨rfl, (by first | exact Nat.le_refl _ | exact Nat.le_of_ble_eq_true rfl), rfl, rfl, ?_, (by repeat' (first | exact trivial | rfl | apply And.intro)), rfl, rfl⟩)))
    all_goals (first | contradiction | exact sameA_refl _)
end Go.Proofs.Ytfelemoefhbphaa
