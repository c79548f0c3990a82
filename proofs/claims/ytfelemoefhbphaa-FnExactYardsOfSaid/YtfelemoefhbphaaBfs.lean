/- The steps from a cell: the spec's way and the program's. -/
import Derived.Test.YtfelemoefhbphaaBfs0
namespace Go.Proofs.Ytfelemoefhbphaa
open Go Go.Eng
set_option linter.unusedSimpArgs false
set_option linter.unusedVariables false
set_option maxRecDepth 100000
set_option maxHeartbeats 4000000

noncomputable def stepsS : Fun
  | [.pw 0 .pas, .ag .spot s], [.c .pas p] => some (.ag .lgrid (bfsD p [s]), [.c .pas p], [okD p ∧ isP p s = true])
  | _, _ => .none

set_option maxRecDepth 100000 in
theorem s_l01Steps : Sound Try.prog 78 stepsS := by
  intro args M r M' vs h hvs
  unfold stepsS at h
  split at h
  case h_2 => cases h
  rename_i s p
  cases h
  refine SpecOK.assume fun hA hM => ?_
  have htb := (TbOk.cons s_l01Beside Try.func79 rfl rfl (TbOk.nil : TbOk Try.prog tb0))
  refine SpecOK.of_goes [0] Try.func78 rfl ?_
  obtain ⟨⟨hd, hs⟩, -⟩ := hvs
  have hg := inG_of' hd hs
  obtain ⟨a, b, rfl⟩ := len2 hA.2.1
  simp only [inG, List.getD_cons_zero, List.getD_cons_succ] at hg
  clear hA hM
  refine Goes.tree Γ_ok htb 1000 false false Try.func78 rfl ?_
  ((try simp only [decide_eq_true_eq, decide_eq_false_iff_not, Bool.not_eq_true', Bool.not_eq_false', Bool.not_true, Bool.not_false, Bool.and_eq_true, Bool.or_eq_true, bne_iff_ne, beq_iff_eq, ne_eq]); (try simp only [rng, lo, hi, mnI, mxI, Int.toNat_natCast, Sg.n, Nat.mul_one, Nat.zero_add, Nat.add_zero, Nat.reduceAdd, List.getD_cons_zero, List.getD_cons_succ, one_row]))
  ((repeat' (first | (with_reducible apply And.intro) | intro _)); all_goals (first | exact trivial | (with_reducible assumption) | (show (_ : List Blk) = _; rfl) | (first | exact trivial | (with_reducible assumption) | omega | (split <;> omega) | (split <;> split <;> omega)) | skip); all_goals (try (refine ⟨rfl, (by first | exact Nat.le_refl _ | exact Nat.le_of_ble_eq_true rfl), rfl, rfl, ?_, (by repeat' (first | exact trivial | rfl | apply And.intro)), rfl, rfl⟩)))
  refine ⟨?_⟩
  refine Goes.loopR (fun i : Nat => 102 - i) (fun i => i ≤ (stI p [[a, b]] i).2.length) (fun i => (.pw 0 .pas :: .any :: .any :: .pw 1 .spot :: .pw 2 .lgrid :: .pw 3 .lgrid :: .ow 4 (stI p [[a, b]] i).2.length .spot 37 :: .i .i64 (i:Int) :: .any :: .any :: .any :: .any :: .any :: .any :: .any :: .any :: .any :: .any :: .any :: .any :: .any :: .any :: .any :: .any :: .any :: .any :: .any :: .any :: .any :: .any :: .any :: .any :: .any :: .any :: .any :: .any :: .any :: .any :: .any :: .any :: .any :: .any :: .any :: .any :: .any :: .any :: .any :: .any :: .any :: .any :: .any :: .any :: .any :: .any :: .any :: .any :: .any :: .any :: .any :: .any :: .any :: .any :: .any :: .any :: .any :: .any :: .any :: .any :: .any :: .any :: .any :: .any :: .any :: .any :: .any :: .any :: .any :: .any :: .any :: .any :: .any :: []))
    (fun i => [.c .pas p, .c .spot [a, b], .c .lgrid (List.replicate 100 0), .c .lgrid (stI p [[a, b]] i).1, .l .spot (stI p [[a, b]] i).2]) 0 [0, 1, 2, 3, 4] (Nat.zero_le _) ⟨rfl, rfl, rfl, (by repeat' (first | exact trivial | rfl | apply And.intro)), (by repeat' (first | exact trivial | rfl | apply And.intro)), rfl, rfl, rfl⟩ fun i hle ih => ?_
  have hwf : WF p 1 (stI p [[a, b]] i) := WF.stI hd (one_isP hs) i
  have h100 := hwf.le
  by_cases hlt : i < (stI p [[a, b]] i).2.length
  · have e1 : stI p [[a, b]] (i + 1) = goS p ((stI p [[a, b]] i).2.getD i []) (stI p [[a, b]] i) 4 := by rw [stI, if_pos hlt]
    have e2 := inK_bes p ((stI p [[a, b]] i).2.getD i []) (stI p [[a, b]] i) 4
    have hrow : isP p ((stI p [[a, b]] i).2.getD i []) = true := hwf.cells _ (by rw [List.getD_eq_getElem?_getD, List.getElem?_eq_getElem hlt]; exact List.getElem_mem _)
    have ih' := ih (i + 1)
    rw [e1, ← e2] at ih'
    clear ih
    generalize stI p [[a, b]] i = st at *
    have hbp := besN_isP p (st.2.getD i []) 4
    refine Goes.tree Γ_ok htb 1000 false false Try.func78 rfl ?_
    ((try simp only [decide_eq_true_eq, decide_eq_false_iff_not, Bool.not_eq_true', Bool.not_eq_false', Bool.not_true, Bool.not_false, Bool.and_eq_true, Bool.or_eq_true, bne_iff_ne, beq_iff_eq, ne_eq]); (try simp only [rng, lo, hi, mnI, mxI, Int.toNat_natCast, Sg.n, Nat.mul_one, Nat.zero_add, Nat.add_zero, Nat.reduceAdd, List.getD_cons_zero, List.getD_cons_succ]))
    ((repeat' (first | (with_reducible apply And.intro) | intro _)); all_goals (first | exact trivial | (with_reducible assumption) | (show (_ : List Blk) = _; rfl) | (first | exact trivial | (with_reducible assumption) | omega | (split <;> omega) | (split <;> split <;> omega)) | skip); all_goals (try (refine ⟨rfl, (by first | exact Nat.le_refl _ | exact Nat.le_of_ble_eq_true rfl), rfl, rfl, ?_, (by repeat' (first | exact trivial | rfl | apply And.intro)), rfl, rfl⟩)))
    generalize st.2.getD i [] = now at *
    refine ⟨?_⟩
    refine Goes.loopR (fun k : Nat => (besN p now 4).length - k) (fun k => k ≤ (besN p now 4).length) (fun k => (.pw 0 .pas :: .any :: .any :: .pw 1 .spot :: .pw 2 .lgrid :: .pw 3 .lgrid :: .ow 4 (inK now (besN p now 4) st k).2.length .spot 37 :: .i .i64 (i:Int) :: .pw 5 .spot :: .fs .spot (besN p now 4) :: .i .i64 (k:Int) :: .any :: .any :: .any :: .any :: .any :: .any :: .any :: .any :: .any :: .any :: .any :: .any :: .any :: .any :: .any :: .any :: .any :: .any :: .any :: .any :: .any :: .any :: .any :: .any :: .any :: .any :: .any :: .any :: .any :: .any :: .any :: .any :: .any :: .any :: .any :: .any :: .any :: .any :: .any :: .any :: .any :: .any :: .any :: .any :: .any :: .any :: .any :: .any :: .any :: .any :: .any :: .any :: .any :: .any :: .any :: .any :: .any :: .any :: .any :: .any :: .any :: .any :: .any :: .any :: .any :: .any :: .any :: .any :: .any :: .any :: []))
      (fun k => [.c .pas p, .c .spot [a, b], .c .lgrid (List.replicate 100 0), .c .lgrid (inK now (besN p now 4) st k).1, .l .spot (inK now (besN p now 4) st k).2, .c .spot now]) 0 [0, 1, 2, 3, 4, 5] (Nat.zero_le _) ⟨rfl, rfl, rfl, (by repeat' (first | exact trivial | rfl | apply And.intro)), (by repeat' (first | exact trivial | rfl | apply And.intro)), rfl, rfl, rfl⟩ fun k hk ihk => ?_
    have hb4 := besN_len p now 4
    have hkw := hwf.inK hd (now := now) hbp k hk
    by_cases hkl : k < (besN p now 4).length
    · have e3 : inK now (besN p now 4) st (k + 1) = meet now (inK now (besN p now 4) st k) ((besN p now 4).getD k []) := rfl
      have hq : isP p ((besN p now 4).getD k []) = true := hbp _ (by rw [List.getD_eq_getElem?_getD, List.getElem?_eq_getElem hkl]; exact List.getElem_mem _)
      have ihk' := ihk (k + 1)
      rw [e3] at ihk'
      clear ihk ih' e1 e2
      generalize inK now (besN p now 4) st k = sk at *
      have hqG := inG_of' hd hq
      have hnG := inG_of' hd hrow
      simp only [inG] at hqG hnG
      have hk100 := hkw.le
      have hr1 := hkw.le' (cx now)
      have hr2 := hkw.le' (cx ((besN p now 4).getD k []))
      unfold cx at hr1 hr2
      have hyes : sk.1.getD (cx ((besN p now 4).getD k [])) 0 = 0 → meet now sk ((besN p now 4).getD k []) = (sk.1.set (cx ((besN p now 4).getD k [])) (sk.1.getD (cx now) 0 + 1), sk.2 ++ [(besN p now 4).getD k []]) := fun h => if_pos h
      have hno : ¬ sk.1.getD (cx ((besN p now 4).getD k [])) 0 = 0 → meet now sk ((besN p now 4).getD k []) = sk := fun h => if_neg h
      refine Goes.tree Γ_ok htb 1000 false false Try.func78 rfl ?_
      ((try simp only [decide_eq_true_eq, decide_eq_false_iff_not, Bool.not_eq_true', Bool.not_eq_false', Bool.not_true, Bool.not_false, Bool.and_eq_true, Bool.or_eq_true, bne_iff_ne, beq_iff_eq, ne_eq]); (try simp only [rng, lo, hi, mnI, mxI, Int.toNat_natCast, Sg.n, Nat.mul_one, Nat.zero_add, Nat.add_zero, Nat.reduceAdd, List.getD_cons_zero, List.getD_cons_succ, one_row]))
      ((repeat' (first | (with_reducible apply And.intro) | intro _)); all_goals (first | exact trivial | (with_reducible assumption) | (show (_ : List Blk) = _; rfl) | (first | exact trivial | (with_reducible assumption) | omega | (split <;> omega) | (split <;> split <;> omega)) | skip); all_goals (try (refine ⟨rfl, (by first | exact Nat.le_refl _ | exact Nat.le_of_ble_eq_true rfl), rfl, rfl, ?_, (by repeat' (first | exact trivial | rfl | apply And.intro)), rfl, rfl⟩)))
      · show (sk.2 ++ [_]).length ≤ _
        simp only [List.length_append, List.length_cons, List.length_nil]; omega
      · refine ⟨ihk' (by omega) (by omega) [0, 1, 2, 3, 7, 5] _ _ ?_⟩
        rw [hyes (by assumption)]
        exact ⟨rfl, rfl, rfl, (by repeat' (first | exact trivial | rfl | apply And.intro)), (by repeat' (first | exact trivial | rfl | apply And.intro)), rfl, rfl, rfl⟩
      · refine ⟨ihk' (by omega) (by omega) [0, 1, 2, 3, 4, 5] _ _ ?_⟩
        rw [hno (by assumption)]
        exact ⟨rfl, rfl, rfl, (by repeat' (first | exact trivial | rfl | apply And.intro)), (by repeat' (first | exact trivial | rfl | apply And.intro)), rfl, rfl, rfl⟩
    · obtain rfl : k = (besN p now 4).length := by omega
      have hmono := goS_mono p now st 4
      rw [← e2] at hmono
      refine Goes.tree Γ_ok htb 1000 false false Try.func78 rfl ?_
      ((try simp only [decide_eq_true_eq, decide_eq_false_iff_not, Bool.not_eq_true', Bool.not_eq_false', Bool.not_true, Bool.not_false, Bool.and_eq_true, Bool.or_eq_true, bne_iff_ne, beq_iff_eq, ne_eq]); (try simp only [rng, lo, hi, mnI, mxI, Int.toNat_natCast, Sg.n, Nat.mul_one, Nat.zero_add, Nat.add_zero, Nat.reduceAdd, List.getD_cons_zero, List.getD_cons_succ]))
      ((repeat' (first | (with_reducible apply And.intro) | intro _)); all_goals (first | exact trivial | (with_reducible assumption) | (show (_ : List Blk) = _; rfl) | (first | exact trivial | (with_reducible assumption) | omega | (split <;> omega) | (split <;> split <;> omega)) | skip); all_goals (try (refine ⟨rfl, (by first | exact Nat.le_refl _ | exact Nat.le_of_ble_eq_true rfl), rfl, rfl, ?_, (by repeat' (first | exact trivial | rfl | apply And.intro)), rfl, rfl⟩)))
      exact ⟨ih' (by omega) (by omega) [0, 1, 2, 3, 4] _ _ ⟨rfl, rfl, rfl, (by repeat' (first | exact trivial | rfl | apply And.intro)), (by repeat' (first | exact trivial | rfl | apply And.intro)), rfl, rfl, rfl⟩⟩
  · have hD := bfsD_of (p := p) (rows := [[a, b]]) (i := i) (by simp only [List.length_cons, List.length_nil] at *; omega) hlt
    clear ih
    rw [hD]
    refine Goes.tree Γ_ok htb 1000 false false Try.func78 rfl ?_
    ((try simp only [decide_eq_true_eq, decide_eq_false_iff_not, Bool.not_eq_true', Bool.not_eq_false', Bool.not_true, Bool.not_false, Bool.and_eq_true, Bool.or_eq_true, bne_iff_ne, beq_iff_eq, ne_eq]); (try simp only [rng, lo, hi, mnI, mxI, Int.toNat_natCast, Sg.n, Nat.mul_one, Nat.zero_add, Nat.add_zero, Nat.reduceAdd, List.getD_cons_zero, List.getD_cons_succ]))
    ((repeat' (first | (with_reducible apply And.intro) | intro _)); all_goals (first | exact trivial | (with_reducible assumption) | (show (_ : List Blk) = _; rfl) | (first | exact trivial | (with_reducible assumption) | omega | (split <;> omega) | (split <;> split <;> omega)) | skip); all_goals (try (refine ⟨rfl, (by first | exact Nat.le_refl _ | exact Nat.le_of_ble_eq_true rfl), rfl, rfl, ?_, (by repeat' (first | exact trivial | rfl | apply And.intro)), rfl, rfl⟩)))
    all_goals (first | contradiction | exact sameA_refl _ | trace_state)

def cloneS : Fun
  | [.fs .spot rows], [] => some (.ow 0 rows.length .spot 37, [.l .spot rows], [0 < rows.length ∧ rows.length ≤ 1073741824])
  | _, _ => .none
set_option maxRecDepth 100000 in
theorem s_cloneSpot : Sound Try.prog 106 cloneS := by
  intro args M r M' vs h hvs
  unfold cloneS at h
  split at h
  case h_2 => cases h
  rename_i rows
  cases h
  refine SpecOK.assume fun hA hM => ?_
  have htb := (TbOk.nil : TbOk Try.prog tb0)
  refine SpecOK.of_goes [1] Try.func106 rfl ?_
  obtain ⟨⟨h1, h2⟩, -⟩ := hvs
  clear hA hM
  refine Goes.tree Γ_ok htb 1000 false false Try.func106 rfl ?_
  ((try simp only [decide_eq_true_eq, decide_eq_false_iff_not, Bool.not_eq_true', Bool.not_eq_false', Bool.not_true, Bool.not_false, Bool.and_eq_true, Bool.or_eq_true, bne_iff_ne, beq_iff_eq, ne_eq]); (try simp only [rng, lo, hi, mnI, mxI, Int.toNat_natCast, Sg.n, Nat.mul_one, Nat.zero_add, Nat.add_zero, Nat.reduceAdd, List.getD_cons_zero, List.getD_cons_succ]))
  ((repeat' (first | (with_reducible apply And.intro) | intro _)); all_goals (first | exact trivial | (with_reducible assumption) | (show (_ : List Blk) = _; rfl) | (first | exact trivial | (with_reducible assumption) | omega | (split <;> omega) | (split <;> split <;> omega)) | skip); all_goals (try (refine ⟨rfl, (by first | exact Nat.le_refl _ | exact Nat.le_of_ble_eq_true rfl), rfl, rfl, ?_, (by repeat' (first | exact trivial | rfl | apply And.intro)), rfl, rfl⟩)))
  all_goals (first | contradiction | exact h2 | exact sameA_refl _ | trace_state)

/-- A table of which the first n are -1. -/
def fil (n : Nat) : List Int := List.replicate n (-1) ++ List.replicate (100 - n) 0
theorem fil_set {n : Nat} (h : n < 100) : (fil n).set n (-1) = fil (n + 1) := by
  unfold fil
  rw [rep_set _ _ _ _ (by omega), show 100 - n - 1 = 100 - (n + 1) from by omega]
theorem fil_all (rows : List (List Int)) : fil 100 = m1 (srcD rows 0) := by
  unfold fil m1 srcD; simp
theorem src_step (rows : List (List Int)) (i : Nat) : (m1 (srcD rows i)).set (cx (rows.getD i [])) 0 = m1 (srcD rows (i + 1)) := m1_set _ _ _

noncomputable def farS : Fun
  | [.ag .pas p, .fs .spot rows], [] => some (.ag .grid (m1 (bfsD p rows)), [], [okD p ∧ (∀ s ∈ rows, isP p s = true) ∧ 0 < rows.length ∧ rows.length ≤ 1000000])
  | _, _ => .none

set_option maxRecDepth 100000 in
theorem s_far : Sound Try.prog 82 farS := by
  intro args M r M' vs h hvs
  unfold farS at h
  split at h
  case h_2 => cases h
  rename_i p rows
  cases h
  refine SpecOK.assume fun hA hM => ?_
  have htb := (TbOk.cons s_cloneSpot Try.func106 rfl rfl (TbOk.cons s_canGo Try.func124 rfl rfl (TbOk.cons s_ahead Try.func123 rfl rfl (TbOk.nil : TbOk Try.prog tb0))))
  refine SpecOK.of_goes [] Try.func82 rfl ?_
  obtain ⟨⟨hd, hs, hl0, hl1⟩, -⟩ := hvs
  clear hA hM
  have hsi : ∀ i, i < rows.length → isP p (rows.getD i []) = true := fun i h => hs _ (by rw [List.getD_eq_getElem?_getD, List.getElem?_eq_getElem h]; exact List.getElem_mem _)
  refine Goes.tree Γ_ok htb 1000 false false Try.func82 rfl ?_
  ((try simp only [decide_eq_true_eq, decide_eq_false_iff_not, Bool.not_eq_true', Bool.not_eq_false', Bool.not_true, Bool.not_false, Bool.and_eq_true, Bool.or_eq_true, bne_iff_ne, beq_iff_eq, ne_eq]); (try simp only [rng, lo, hi, mnI, mxI, Int.toNat_natCast, Sg.n, Nat.mul_one, Nat.zero_add, Nat.add_zero, Nat.reduceAdd, List.getD_cons_zero, List.getD_cons_succ]))
  ((repeat' (first | (with_reducible apply And.intro) | intro _)); all_goals (first | exact trivial | (with_reducible assumption) | (show (_ : List Blk) = _; rfl) | (first | exact trivial | (with_reducible assumption) | omega | (split <;> omega) | (split <;> split <;> omega)) | skip); all_goals (try (refine ⟨rfl, (by first | exact Nat.le_refl _ | exact Nat.le_of_ble_eq_true rfl), rfl, rfl, ?_, (by repeat' (first | exact trivial | rfl | apply And.intro)), rfl, rfl⟩)))
  refine ⟨?_⟩
  refine Goes.loopR (fun y : Nat => 10 - y) (fun y => y ≤ 10) (fun y => (.any :: .fs .spot rows :: .pw 0 .pas :: .any :: .pw 1 .grid :: .pw 2 .grid :: .any :: .any :: .any :: .any :: .any :: .any :: .any :: .any :: .any :: .i .i64 (y:Int) :: .any :: .any :: .any :: .any :: .any :: .any :: .any :: .any :: .any :: .any :: .any :: .any :: .any :: .any :: .any :: .any :: .any :: .any :: .any :: .any :: .any :: .any :: .any :: .any :: .any :: .any :: .any :: .any :: .any :: .any :: .any :: .any :: .any :: .any :: .any :: .any :: .any :: .any :: .any :: .any :: .any :: .any :: .any :: .any :: .any :: .any :: .any :: .any :: .any :: .any :: .any :: .any :: .any :: .any :: .any :: .any :: .any :: .any :: .any :: .any :: .any :: .any :: .any :: .any :: .any :: .any :: .any :: .any :: .any :: .any :: .any :: .any :: .any :: .any :: .any :: .any :: []))
    (fun y => [.c .pas p, .c .grid (List.replicate 100 0), .c .grid (fil (y * 10))]) 0 [0, 1, 2] (Nat.zero_le _) ⟨rfl, rfl, rfl, (by repeat' (first | exact trivial | rfl | apply And.intro)), (by repeat' (first | exact trivial | rfl | apply And.intro)), rfl, rfl, rfl⟩ fun y hy ihO => ?_
  by_cases hlt : y < 10
  · refine Goes.tree Γ_ok htb 1000 false false Try.func82 rfl ?_
    ((try simp only [decide_eq_true_eq, decide_eq_false_iff_not, Bool.not_eq_true', Bool.not_eq_false', Bool.not_true, Bool.not_false, Bool.and_eq_true, Bool.or_eq_true, bne_iff_ne, beq_iff_eq, ne_eq]); (try simp only [rng, lo, hi, mnI, mxI, Int.toNat_natCast, Sg.n, Nat.mul_one, Nat.zero_add, Nat.add_zero, Nat.reduceAdd, List.getD_cons_zero, List.getD_cons_succ]))
    ((repeat' (first | (with_reducible apply And.intro) | intro _)); all_goals (first | exact trivial | (with_reducible assumption) | (show (_ : List Blk) = _; rfl) | (first | exact trivial | (with_reducible assumption) | omega | (split <;> omega) | (split <;> split <;> omega)) | skip); all_goals (try (refine ⟨rfl, (by first | exact Nat.le_refl _ | exact Nat.le_of_ble_eq_true rfl), rfl, rfl, ?_, (by repeat' (first | exact trivial | rfl | apply And.intro)), rfl, rfl⟩)))
    refine ⟨?_⟩
    refine Goes.loopR (fun x : Nat => 10 - x) (fun x => x ≤ 10) (fun x => (.any :: .fs .spot rows :: .pw 0 .pas :: .any :: .pw 1 .grid :: .pw 2 .grid :: .i .i64 (y:Int) :: .any :: .any :: .any :: .any :: .any :: .any :: .any :: .any :: .i .i64 (y:Int) :: .any :: .any :: .i .i64 (x:Int) :: .any :: .any :: .any :: .any :: .any :: .any :: .any :: .any :: .any :: .any :: .any :: .any :: .any :: .any :: .any :: .any :: .any :: .any :: .any :: .any :: .any :: .any :: .any :: .any :: .any :: .any :: .any :: .any :: .any :: .any :: .any :: .any :: .any :: .any :: .any :: .any :: .any :: .any :: .any :: .any :: .any :: .any :: .any :: .any :: .any :: .any :: .any :: .any :: .any :: .any :: .any :: .any :: .any :: .any :: .any :: .any :: .any :: .any :: .any :: .any :: .any :: .any :: .any :: .any :: .any :: .any :: .any :: .any :: .any :: .any :: .any :: .any :: .any :: []))
      (fun x => [.c .pas p, .c .grid (List.replicate 100 0), .c .grid (fil (y * 10 + x))]) 0 [0, 1, 2] (Nat.zero_le _) ⟨rfl, rfl, rfl, (by repeat' (first | exact trivial | rfl | apply And.intro)), (by repeat' (first | exact trivial | rfl | apply And.intro)), rfl, rfl, rfl⟩ fun x hx ih => ?_
    have hf : x < 10 → (fil (y * 10 + x)).set (y * 10 + x) (-1) = fil (y * 10 + (x + 1)) := fun h => fil_set (by omega)
    have hy1 : fil ((y + 1) * 10) = fil (y * 10 + 10) := by rw [show (y + 1) * 10 = y * 10 + 10 from by omega]
    refine Goes.tree Γ_ok htb 1000 false false Try.func82 rfl ?_
    ((try simp only [decide_eq_true_eq, decide_eq_false_iff_not, Bool.not_eq_true', Bool.not_eq_false', Bool.not_true, Bool.not_false, Bool.and_eq_true, Bool.or_eq_true, bne_iff_ne, beq_iff_eq, ne_eq]); (try simp only [rng, lo, hi, mnI, mxI, Int.toNat_natCast, Sg.n, Nat.mul_one, Nat.zero_add, Nat.add_zero, Nat.reduceAdd, List.getD_cons_zero, List.getD_cons_succ]))
    ((repeat' (first | (with_reducible apply And.intro) | intro _)); all_goals (first | exact trivial | (with_reducible assumption) | (show (_ : List Blk) = _; rfl) | (first | exact trivial | (with_reducible assumption) | omega | (split <;> omega) | (split <;> split <;> omega)) | skip); all_goals (try (refine ⟨rfl, (by first | exact Nat.le_refl _ | exact Nat.le_of_ble_eq_true rfl), rfl, rfl, ?_, (by repeat' (first | exact trivial | rfl | apply And.intro)), rfl, rfl⟩)))
    · refine ⟨ih (x + 1) (by omega) (by omega) [0, 1, 2] _ _ ?_⟩
      rw [hf (by omega)]
      exact ⟨rfl, rfl, rfl, (by repeat' (first | exact trivial | rfl | apply And.intro)), (by repeat' (first | exact trivial | rfl | apply And.intro)), rfl, rfl, rfl⟩
    · obtain rfl : x = 10 := by omega
      refine ⟨ihO (y + 1) (by omega) (by omega) [0, 1, 2] _ _ ?_⟩
      rw [hy1]
      exact ⟨rfl, rfl, rfl, (by repeat' (first | exact trivial | rfl | apply And.intro)), (by repeat' (first | exact trivial | rfl | apply And.intro)), rfl, rfl, rfl⟩
  obtain rfl : y = 10 := by omega
  clear ihO hy hlt
  rw [show fil (10 * 10) = m1 (srcD rows 0) from fil_all rows]
  refine Goes.tree Γ_ok htb 1000 false false Try.func82 rfl ?_
  ((try simp only [decide_eq_true_eq, decide_eq_false_iff_not, Bool.not_eq_true', Bool.not_eq_false', Bool.not_true, Bool.not_false, Bool.and_eq_true, Bool.or_eq_true, bne_iff_ne, beq_iff_eq, ne_eq]); (try simp only [rng, lo, hi, mnI, mxI, Int.toNat_natCast, Sg.n, Nat.mul_one, Nat.zero_add, Nat.add_zero, Nat.reduceAdd, List.getD_cons_zero, List.getD_cons_succ]))
  ((repeat' (first | (with_reducible apply And.intro) | intro _)); all_goals (first | exact trivial | (with_reducible assumption) | (show (_ : List Blk) = _; rfl) | (first | exact trivial | (with_reducible assumption) | omega | (split <;> omega) | (split <;> split <;> omega)) | skip); all_goals (try (refine ⟨rfl, (by first | exact Nat.le_refl _ | exact Nat.le_of_ble_eq_true rfl), rfl, rfl, ?_, (by repeat' (first | exact trivial | rfl | apply And.intro)), rfl, rfl⟩)))
  refine ⟨?_⟩
  refine Goes.loopR (fun i : Nat => rows.length - i) (fun i => i ≤ rows.length) (fun i => (.any :: .fs .spot rows :: .pw 0 .pas :: .any :: .pw 1 .grid :: .pw 2 .grid :: .any :: .any :: .any :: .any :: .any :: .any :: .any :: .any :: .any :: .any :: .any :: .any :: .any :: .any :: .any :: .any :: .any :: .any :: .any :: .any :: .any :: .fs .spot rows :: .i .i64 (rows.length:Int) :: .i .i64 (i:Int) :: .any :: .any :: .any :: .any :: .any :: .any :: .any :: .any :: .any :: .any :: .any :: .any :: .any :: .any :: .any :: .any :: .any :: .any :: .any :: .any :: .any :: .any :: .any :: .any :: .any :: .any :: .any :: .any :: .any :: .any :: .any :: .any :: .any :: .any :: .any :: .any :: .any :: .any :: .any :: .any :: .any :: .any :: .any :: .any :: .any :: .any :: .any :: .any :: .any :: .any :: .any :: .any :: .any :: .any :: .any :: .any :: .any :: .any :: .any :: .any :: .any :: .any :: []))
    (fun i => [.c .pas p, .c .grid (List.replicate 100 0), .c .grid (m1 (srcD rows i))]) 0 [0, 1, 2] (Nat.zero_le _) ⟨rfl, rfl, rfl, (by repeat' (first | exact trivial | rfl | apply And.intro)), (by repeat' (first | exact trivial | rfl | apply And.intro)), rfl, rfl, rfl⟩ fun i hile ih => ?_
  by_cases hlt : i < rows.length
  · have hg := inG_of' hd (hsi i hlt)
    have hst := src_step rows i
    simp only [inG] at hg
    refine Goes.tree Γ_ok htb 1000 false false Try.func82 rfl ?_
    ((try simp only [decide_eq_true_eq, decide_eq_false_iff_not, Bool.not_eq_true', Bool.not_eq_false', Bool.not_true, Bool.not_false, Bool.and_eq_true, Bool.or_eq_true, bne_iff_ne, beq_iff_eq, ne_eq]); (try simp only [rng, lo, hi, mnI, mxI, Int.toNat_natCast, Sg.n, Nat.mul_one, Nat.zero_add, Nat.add_zero, Nat.reduceAdd, List.getD_cons_zero, List.getD_cons_succ]))
    ((repeat' (first | (with_reducible apply And.intro) | intro _)); all_goals (first | exact trivial | (with_reducible assumption) | (show (_ : List Blk) = _; rfl) | (first | exact trivial | (with_reducible assumption) | omega | (split <;> omega) | (split <;> split <;> omega)) | skip); all_goals (try (refine ⟨rfl, (by first | exact Nat.le_refl _ | exact Nat.le_of_ble_eq_true rfl), rfl, rfl, ?_, (by repeat' (first | exact trivial | rfl | apply And.intro)), rfl, rfl⟩)))
    refine ⟨ih (i + 1) (by omega) (by omega) [0, 1, 2] _ _ ?_⟩
    rw [← hst]
    exact ⟨rfl, rfl, rfl, (by repeat' (first | exact trivial | rfl | apply And.intro)), (by repeat' (first | exact trivial | rfl | apply And.intro)), rfl, rfl, rfl⟩
  obtain rfl : i = rows.length := by omega
  clear ih hile hlt
  refine Goes.tree Γ_ok htb 1000 false false Try.func82 rfl ?_
  ((try simp only [decide_eq_true_eq, decide_eq_false_iff_not, Bool.not_eq_true', Bool.not_eq_false', Bool.not_true, Bool.not_false, Bool.and_eq_true, Bool.or_eq_true, bne_iff_ne, beq_iff_eq, ne_eq]); (try simp only [rng, lo, hi, mnI, mxI, Int.toNat_natCast, Sg.n, Nat.mul_one, Nat.zero_add, Nat.add_zero, Nat.reduceAdd, List.getD_cons_zero, List.getD_cons_succ]))
  ((repeat' (first | (with_reducible apply And.intro) | intro _)); all_goals (first | exact trivial | (with_reducible assumption) | (show (_ : List Blk) = _; rfl) | (first | exact trivial | (with_reducible assumption) | omega | (split <;> omega) | (split <;> split <;> omega)) | skip); all_goals (try (refine ⟨rfl, (by first | exact Nat.le_refl _ | exact Nat.le_of_ble_eq_true rfl), rfl, rfl, ?_, (by repeat' (first | exact trivial | rfl | apply And.intro)), rfl, rfl⟩)))
  refine ⟨?_⟩
  refine Goes.loopR (fun i : Nat => rows.length + 101 - i) (fun i => i ≤ (stI p rows i).2.length) (fun i => (.any :: .ow 3 (stI p rows i).2.length .spot 37 :: .pw 0 .pas :: .any :: .pw 1 .grid :: .pw 2 .grid :: .any :: .any :: .any :: .any :: .i .i64 (i:Int) :: .any :: .any :: .any :: .any :: .any :: .any :: .any :: .any :: .any :: .any :: .any :: .any :: .any :: .any :: .any :: .any :: .any :: .any :: .any :: .any :: .any :: .any :: .any :: .any :: .any :: .any :: .any :: .any :: .any :: .any :: .any :: .any :: .any :: .any :: .any :: .any :: .any :: .any :: .any :: .any :: .any :: .any :: .any :: .any :: .any :: .any :: .any :: .any :: .any :: .any :: .any :: .any :: .any :: .any :: .any :: .any :: .any :: .any :: .any :: .any :: .any :: .any :: .any :: .any :: .any :: .any :: .any :: .any :: .any :: .any :: .any :: .any :: .any :: .any :: .any :: .any :: .any :: .any :: .any :: .any :: .any :: []))
    (fun i => [.c .pas p, .c .grid (List.replicate 100 0), .c .grid (m1 (stI p rows i).1), .l .spot (stI p rows i).2]) 0 [0, 1, 2, 3] (Nat.zero_le _) ⟨rfl, rfl, rfl, (by repeat' (first | exact trivial | rfl | apply And.intro)), (by repeat' (first | exact trivial | rfl | apply And.intro)), rfl, rfl, rfl⟩ fun i hle ih => ?_
  have hwf := WF.stI hd hs i
  have h100 := hwf.le
  by_cases hlt : i < (stI p rows i).2.length
  · have e1 : stI p rows (i + 1) = goS p ((stI p rows i).2.getD i []) (stI p rows i) 4 := by rw [stI, if_pos hlt]
    have hmono := goS_mono p ((stI p rows i).2.getD i []) (stI p rows i) 4
    have hrow : isP p ((stI p rows i).2.getD i []) = true := hwf.cells _ (by rw [List.getD_eq_getElem?_getD, List.getElem?_eq_getElem hlt]; exact List.getElem_mem _)
    have ih' := ih (i + 1)
    rw [e1] at ih'
    clear ih
    generalize stI p rows i = st at *
    refine Goes.tree Γ_ok htb 1000 false false Try.func82 rfl ?_
    ((try simp only [decide_eq_true_eq, decide_eq_false_iff_not, Bool.not_eq_true', Bool.not_eq_false', Bool.not_true, Bool.not_false, Bool.and_eq_true, Bool.or_eq_true, bne_iff_ne, beq_iff_eq, ne_eq]); (try simp only [rng, lo, hi, mnI, mxI, Int.toNat_natCast, Sg.n, Nat.mul_one, Nat.zero_add, Nat.add_zero, Nat.reduceAdd, List.getD_cons_zero, List.getD_cons_succ]))
    ((repeat' (first | (with_reducible apply And.intro) | intro _)); all_goals (first | exact trivial | (with_reducible assumption) | (show (_ : List Blk) = _; rfl) | (first | exact trivial | (with_reducible assumption) | omega | (split <;> omega) | (split <;> split <;> omega)) | skip); all_goals (try (refine ⟨rfl, (by first | exact Nat.le_refl _ | exact Nat.le_of_ble_eq_true rfl), rfl, rfl, ?_, (by repeat' (first | exact trivial | rfl | apply And.intro)), rfl, rfl⟩)))
    generalize st.2.getD i [] = now at *
    have hnow := inG_of' hd hrow
    have hnear := near_of hd hrow
    have hnl := cx_lt hnow
    simp only [inG] at hnow
    refine ⟨?_⟩
    refine Goes.loopR (fun d : Nat => 4 - d) (fun d => d ≤ 4) (fun d => (.any :: .ow 3 (goS p now st d).2.length .spot 37 :: .pw 0 .pas :: .any :: .pw 1 .grid :: .pw 2 .grid :: .any :: .any :: .any :: .any :: .i .i64 (i:Int) :: .pw 4 .spot :: .any :: .any :: .any :: .any :: .any :: .any :: .any :: .any :: .any :: .any :: .any :: .any :: .any :: .any :: .any :: .any :: .any :: .any :: .any :: .any :: .any :: .any :: .any :: .any :: .any :: .any :: .any :: .any :: .any :: .any :: .any :: .any :: .any :: .any :: .any :: .any :: .any :: .any :: .any :: .any :: .i .i64 (d:Int) :: .any :: .any :: .any :: .any :: .any :: .any :: .any :: .any :: .any :: .any :: .any :: .any :: .any :: .any :: .any :: .any :: .any :: .any :: .any :: .any :: .any :: .any :: .any :: .any :: .any :: .any :: .any :: .any :: .any :: .any :: .any :: .any :: .any :: .any :: .any :: .any :: .any :: .any :: .any :: []))
      (fun d => [.c .pas p, .c .grid (List.replicate 100 0), .c .grid (m1 (goS p now st d).1), .l .spot (goS p now st d).2, .c .spot now]) 0 [0, 1, 2, 3, 4] (Nat.zero_le _) ⟨rfl, rfl, rfl, (by repeat' (first | exact trivial | rfl | apply And.intro)), (by repeat' (first | exact trivial | rfl | apply And.intro)), rfl, rfl, rfl⟩ fun d hd4 ihd => ?_
    have hkw := hwf.goS hd (now := now) d
    by_cases hdl : d < 4
    · have e3 : goS p now st (d + 1) = if canGo p now d = true then meet now (goS p now st d) (ahead now d) else goS p now st d := rfl
      have ihd' := ihd (d + 1)
      rw [e3] at ihd'
      clear ihd ih' e1
      generalize goS p now st d = sk at *
      have hk100 := hkw.le
      have hr1 := hkw.le' (cx now)
      have hm1 : (m1 sk.1).getD (cx now) 0 = sk.1.getD (cx now) 0 - 1 := m1_get (by rw [hkw.len]; exact hnl)
      have hm2 : canGo p now d = true → inG (ahead now d) ∧ (m1 sk.1).getD (cx (ahead now d)) 0 = sk.1.getD (cx (ahead now d)) 0 - 1 ∧ 0 ≤ sk.1.getD (cx (ahead now d)) 0 ∧ sk.1.getD (cx (ahead now d)) 0 ≤ 100 := fun h => by
        have hg := inG_of' hd (canGo_isP h)
        exact ⟨hg, m1_get (by rw [hkw.len]; exact cx_lt hg), hkw.le' _⟩
      have hyes : canGo p now d = true → (m1 sk.1).getD (cx (ahead now d)) 0 < 0 → (if canGo p now d = true then meet now sk (ahead now d) else sk) = (sk.1.set (cx (ahead now d)) (sk.1.getD (cx now) 0 + 1), sk.2 ++ [ahead now d]) := fun h h' => by
        obtain ⟨-, g1, g2, -⟩ := hm2 h
        rw [if_pos h, meet, if_pos (by omega)]
      have hno : canGo p now d = true → ¬ (m1 sk.1).getD (cx (ahead now d)) 0 < 0 → (if canGo p now d = true then meet now sk (ahead now d) else sk) = sk := fun h h' => by
        obtain ⟨-, g1, g2, -⟩ := hm2 h
        rw [if_pos h, meet, if_neg (by omega)]
      have hno' : canGo p now d = false → (if canGo p now d = true then meet now sk (ahead now d) else sk) = sk := fun h => by rw [h]; rfl
      have hset : (m1 sk.1).set (cx (ahead now d)) ((m1 sk.1).getD (cx now) 0 + 1) = m1 (sk.1.set (cx (ahead now d)) (sk.1.getD (cx now) 0 + 1)) := by
        rw [m1_set, hm1, show sk.1.getD (cx now) 0 - 1 + 1 + 1 = sk.1.getD (cx now) 0 + 1 from by omega]
      unfold inG cx at hm2
      unfold cx at hm1 hr1
      refine Goes.tree Γ_ok htb 1000 false false Try.func82 rfl ?_
      ((try simp only [decide_eq_true_eq, decide_eq_false_iff_not, Bool.not_eq_true', Bool.not_eq_false', Bool.not_true, Bool.not_false, Bool.and_eq_true, Bool.or_eq_true, bne_iff_ne, beq_iff_eq, ne_eq]); (try simp only [rng, lo, hi, mnI, mxI, Int.toNat_natCast, Sg.n, Nat.mul_one, Nat.zero_add, Nat.add_zero, Nat.reduceAdd, List.getD_cons_zero, List.getD_cons_succ, one_row]))
      ((repeat' (first | (with_reducible apply And.intro) | intro _)); all_goals (first | exact trivial | (with_reducible assumption) | (show (_ : List Blk) = _; rfl) | (first | exact trivial | (with_reducible assumption) | omega | (split <;> omega) | (split <;> split <;> omega)) | skip); all_goals (try (refine ⟨rfl, (by first | exact Nat.le_refl _ | exact Nat.le_of_ble_eq_true rfl), rfl, rfl, ?_, (by repeat' (first | exact trivial | rfl | apply And.intro)), rfl, rfl⟩)))
      all_goals (try first | exact trivial | exact hnear | exact hd | exact hrow | omega | (have hc := hm2 (by assumption); omega))
      · show (sk.2 ++ [_]).length ≤ _
        simp only [List.length_append, List.length_cons, List.length_nil]; omega
      · refine ⟨ihd' (by omega) (by omega) [0, 1, 2, 7, 4] _ _ ?_⟩
        rw [hyes (by assumption) (by assumption), ← hset]
        exact ⟨rfl, rfl, rfl, (by repeat' (first | exact trivial | rfl | apply And.intro)), (by repeat' (first | exact trivial | rfl | apply And.intro)), rfl, rfl, rfl⟩
      · refine ⟨ihd' (by omega) (by omega) [0, 1, 2, 3, 4] _ _ ?_⟩
        rw [hno (by assumption) (by assumption)]
        exact ⟨rfl, rfl, rfl, (by repeat' (first | exact trivial | rfl | apply And.intro)), (by repeat' (first | exact trivial | rfl | apply And.intro)), rfl, rfl, rfl⟩
      · refine ⟨ihd' (by omega) (by omega) [0, 1, 2, 3, 4] _ _ ?_⟩
        rw [hno' (by assumption)]
        exact ⟨rfl, rfl, rfl, (by repeat' (first | exact trivial | rfl | apply And.intro)), (by repeat' (first | exact trivial | rfl | apply And.intro)), rfl, rfl, rfl⟩
    · obtain rfl : d = 4 := by omega
      refine Goes.tree Γ_ok htb 1000 false false Try.func82 rfl ?_
      ((try simp only [decide_eq_true_eq, decide_eq_false_iff_not, Bool.not_eq_true', Bool.not_eq_false', Bool.not_true, Bool.not_false, Bool.and_eq_true, Bool.or_eq_true, bne_iff_ne, beq_iff_eq, ne_eq]); (try simp only [rng, lo, hi, mnI, mxI, Int.toNat_natCast, Sg.n, Nat.mul_one, Nat.zero_add, Nat.add_zero, Nat.reduceAdd, List.getD_cons_zero, List.getD_cons_succ]))
      ((repeat' (first | (with_reducible apply And.intro) | intro _)); all_goals (first | exact trivial | (with_reducible assumption) | (show (_ : List Blk) = _; rfl) | (first | exact trivial | (with_reducible assumption) | omega | (split <;> omega) | (split <;> split <;> omega)) | skip); all_goals (try (refine ⟨rfl, (by first | exact Nat.le_refl _ | exact Nat.le_of_ble_eq_true rfl), rfl, rfl, ?_, (by repeat' (first | exact trivial | rfl | apply And.intro)), rfl, rfl⟩)))
      exact ⟨ih' (by omega) (by omega) [0, 1, 2, 3] _ _ ⟨rfl, rfl, rfl, (by repeat' (first | exact trivial | rfl | apply And.intro)), (by repeat' (first | exact trivial | rfl | apply And.intro)), rfl, rfl, rfl⟩⟩
  · have hD := bfsD_of (p := p) (rows := rows) (i := i) (by omega) hlt
    clear ih
    rw [hD]
    refine Goes.tree Γ_ok htb 1000 false false Try.func82 rfl ?_
    ((try simp only [decide_eq_true_eq, decide_eq_false_iff_not, Bool.not_eq_true', Bool.not_eq_false', Bool.not_true, Bool.not_false, Bool.and_eq_true, Bool.or_eq_true, bne_iff_ne, beq_iff_eq, ne_eq]); (try simp only [rng, lo, hi, mnI, mxI, Int.toNat_natCast, Sg.n, Nat.mul_one, Nat.zero_add, Nat.add_zero, Nat.reduceAdd, List.getD_cons_zero, List.getD_cons_succ]))
    ((repeat' (first | (with_reducible apply And.intro) | intro _)); all_goals (first | exact trivial | (with_reducible assumption) | (show (_ : List Blk) = _; rfl) | (first | exact trivial | (with_reducible assumption) | omega | (split <;> omega) | (split <;> split <;> omega)) | skip); all_goals (try (refine ⟨rfl, (by first | exact Nat.le_refl _ | exact Nat.le_of_ble_eq_true rfl), rfl, rfl, ?_, (by repeat' (first | exact trivial | rfl | apply And.intro)), rfl, rfl⟩)))
    all_goals (first | contradiction | exact sameA_refl _ | trace_state)

def stepAtS : Fun
  | [.pw 0 .grid, .ag .spot s], [.c .grid T] => some (.i .i64 (T.getD (cx s) 0), [.c .grid T], [inG s ∧ ∀ j, -1 ≤ T.getD j 0 ∧ T.getD j 0 ≤ 100])
  | _, _ => .none
theorem m1_rng {p : List Int} {rows : List (List Int)} (hd : okD p) (hs : ∀ s ∈ rows, isP p s = true) (j : Nat) : -1 ≤ (m1 (bfsD p rows)).getD j 0 ∧ (m1 (bfsD p rows)).getD j 0 ≤ 100 := by
  obtain ⟨h1, h2⟩ := bfsD_wf hd hs
  by_cases hj : j < (bfsD p rows).length
  · have := h2 j
    rw [m1_get hj]; omega
  · have : (m1 (bfsD p rows)).getD j 0 = 0 := by
      rw [List.getD_eq_getElem?_getD, List.getElem?_eq_none (by unfold m1; rw [List.length_map]; omega)]; rfl
    rw [this]; omega
set_option maxRecDepth 100000 in
theorem s_stepAt : Sound Try.prog 110 stepAtS := by
  intro args M r M' vs h hvs
  unfold stepAtS at h
  split at h
  case h_2 => cases h
  rename_i s T
  cases h
  refine SpecOK.assume fun hA hM => ?_
  have htb := (TbOk.nil : TbOk Try.prog tb0)
  refine SpecOK.of_goes [0] Try.func110 rfl ?_
  obtain ⟨⟨hg, hr⟩, -⟩ := hvs
  have hr := hr (cx s)
  obtain ⟨a, b, rfl⟩ := len2 hA.2.1
  simp only [inG, cx, List.getD_cons_zero, List.getD_cons_succ] at hg hr
  clear hA hM
  refine Goes.tree Γ_ok htb 1000 false false Try.func110 rfl ?_
  ((try simp only [decide_eq_true_eq, decide_eq_false_iff_not, Bool.not_eq_true', Bool.not_eq_false', Bool.not_true, Bool.not_false, Bool.and_eq_true, Bool.or_eq_true, bne_iff_ne, beq_iff_eq, ne_eq]); (try simp only [rng, lo, hi, mnI, mxI, Int.toNat_natCast, Sg.n, Nat.mul_one, Nat.zero_add, Nat.add_zero, Nat.reduceAdd, List.getD_cons_zero, List.getD_cons_succ]))
  ((repeat' (first | (with_reducible apply And.intro) | intro _)); all_goals (first | exact trivial | (with_reducible assumption) | (show (_ : List Blk) = _; rfl) | (first | exact trivial | (with_reducible assumption) | omega | (split <;> omega) | (split <;> split <;> omega)) | skip); all_goals (try (refine ⟨rfl, (by first | exact Nat.le_refl _ | exact Nat.le_of_ble_eq_true rfl), rfl, rfl, ?_, (by repeat' (first | exact trivial | rfl | apply And.intro)), rfl, rfl⟩)))
  exact sameA_refl _
end Go.Proofs.Ytfelemoefhbphaa
