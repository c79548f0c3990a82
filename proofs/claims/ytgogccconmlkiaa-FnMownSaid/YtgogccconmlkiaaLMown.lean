/- The row Mown: grass that has been mown is a little more than four times the hay; no day makes more hay than the best one, no two more than the best two; hay that is fed is gone. -/
import Derived.Test.YtgogccconmlkiaaEngG
import Derived.Test.YtgogccconmlkiaaMw1
namespace Go.Proofs.Ytgogccconmlkiaa
open Go Go.Eng
set_option linter.unusedSimpArgs false
set_option linter.unusedVariables false
set_option maxRecDepth 100000
set_option maxHeartbeats 4000000

set_option maxRecDepth 100000 in
theorem l_MownB (x0 x1 : List (List Int)) : SpecOK Try.prog 8 [.fs .u8 x0, .fs .u8 x1] [] (.b true) [] := by
  refine SpecOK.assume fun hA hM => ?_
  have hR0 : SrcOk x0 := ⟨hA.2.1⟩
  have hR1 : SrcOk x1 := ⟨hA.2.2.2.1⟩
  clear hA hM
  have htb := (TbOk.cons s_a2Long Try.func29 rfl rfl (TbOk.cons s_a2Pasture Try.func30 rfl rfl (TbOk.cons s_a2Growth Try.func31 rfl rfl (TbOk.cons s_a2Spot Try.func41 rfl rfl (TbOk.cons s_a2At Try.func33 rfl rfl (TbOk.cons s_implMowYard Try.func42 rfl rfl (TbOk.cons s_specMowYard Try.func43 rfl rfl (TbOk.cons s_specGrassIn Try.func44 rfl rfl (TbOk.cons s_implGrassIn Try.func45 rfl rfl (TbOk.cons s_specYardOf Try.func46 rfl rfl (TbOk.cons s_a2HasSpot Try.func38 rfl rfl (TbOk.cons s_implBestMowing Try.func47 rfl rfl (TbOk.cons s_specBestMowing Try.func48 rfl rfl (TbOk.cons s_implHayOf Try.func49 rfl rfl (TbOk.cons s_implBestTwo Try.func50 rfl rfl (TbOk.cons s_specBestTwo Try.func51 rfl rfl (TbOk.cons s_specGrowDays Try.func52 rfl rfl (TbOk.cons s_specHayOf Try.func53 rfl rfl (TbOk.cons s_implFeed Try.func54 rfl rfl (TbOk.cons s_specFeed Try.func55 rfl rfl (TbOk.nil : TbOk Try.prog tb0)))))))))))))))))))))
  refine SpecOK.of_goesV [] 61 Try.func8 rfl rfl ?_
  have hP := draw_ok hR0 (a := 0) (sd := 0) (Int.le_refl _)
  have hS := a2Spot_in hR1 hP.1.1
  have hG := a2G_ok hR1
  have hL := atV_rng hR1 (i := 0) (n := 9) (Int.le_refl _) (by decide)
  have hD := atV_rng hR1 (i := 1) (n := 7) (by decide) (by decide)
  have hSl : (a2SpotP x1 (drawS x0 0 0).1).length = 2 := rfl
  have hE := atV_rng hR1 (i := 2) (n := 20) (by decide) (by decide)
  by_cases hlong : 3000 < x0.length ∨ 3000 < x1.length
  · refine GoesV.tree Γ_ok htb 1000 false false Try.func8 rfl rfl ?_
    ((try simp only [decide_eq_true_eq, decide_eq_false_iff_not, Bool.not_eq_true', Bool.not_eq_false', Bool.not_true, Bool.not_false, Bool.and_eq_true, Bool.or_eq_true, bne_iff_ne, beq_iff_eq, ne_eq]); (try simp only [rng, lo, hi, mnI, mxI, Int.toNat_natCast, Sg.n, Nat.mul_one, Nat.zero_add, Nat.add_zero, Nat.reduceAdd, List.getD_cons_zero, List.getD_cons_succ]))
    ((repeat' (first | (with_reducible apply And.intro) | intro _)); all_goals (first | exact trivial | (with_reducible assumption) | (show (_ : List Blk) = _; rfl) | (first | exact trivial | (with_reducible assumption) | omega | (split <;> omega) | (split <;> split <;> omega)) | skip); all_goals (try (refine ⟨rfl, (by first | exact Nat.le_refl _ | exact Nat.le_of_ble_eq_true rfl), rfl, rfl, ?_, (by repeat' (first | exact trivial | rfl | apply And.intro)), rfl, rfl⟩)))
    all_goals (try first | contradiction | exact rfl)
  · have hd := hP.1.1
    obtain ⟨hPok, hPl, hP5, hP6⟩ := hP
    have hd' := hd
    unfold okD at hd'
    have eS : a2SpotP x1 (drawS x0 0 0).1 = a2SpotP x1 (drawS x0 0 0).1 := rfl
    generalize hSe : a2SpotP x1 (drawS x0 0 0).1 = S at *
    clear eS
    generalize hPe : (drawS x0 0 0).1 = P at *
    generalize hGe : a2GP x1 = G at *
    generalize hLe : atV x1 0 9 = L at *
    generalize hDe : atV x1 1 7 = D at *
    generalize hEe : atV x1 2 20 = E at *
    have hO : MwOk P G S L (1 + D) := ⟨hPl, hPok, hG, hS, hSl, by omega, by omega⟩
    have hgr := GR.of hPl hPok
    obtain ⟨c1, c2, c3⟩ := mw_code hO (FcS.refl hPl) hPok
    have hY := yard_isP (s := S) hd
    have hYc := yardR_cells (s := S) hd
    have hY1 := yardR_100 (s := S) hd
    have hm := fc_mown (s := S) hPl hPok (l := L) (by omega) (by omega)
    have hms := mow_sum hgr (fun c hc => (hY c hc).1) (l := L) (by omega) (by omega) (yardR P S).length (Nat.le_refl _)
    have hmk := (mowK_ok hgr (fun c hc => (hY c hc).1) (leave := L) (by omega) (by omega) (yardR P S).length (Nat.le_refl _)).2
    have hmc := fun c (hc : inG c) (hcl : c.length = 2) => mow_cell (l := L) hgr hYc (by omega) (by omega) hc hcl (yardR P S).length (Nat.le_refl _)
    rw [List.take_length] at hmc
    have e1 : mowYP P S L = (mowK P (yardR P S) L (yardR P S).length).1 := if_pos c2
    have e2 : mowYV P S L = (mowK P (yardR P S) L (yardR P S).length).2.tdiv 4 := if_pos c2
    have e3 : (if codeP P [S] = 0 then yardR P S else []) = yardR P S := if_pos c1
    have e4 : (if okP P then sumA P 10 else 0) = sumA P 10 := if_pos hPok
    have e5 : (if okP P then (0 : Int) else 1) = 0 := if_pos hPok
    generalize hMe : mowK P (yardR P S) L (yardR P S).length = Mm at *
    have e6 : (if okP Mm.1 then sumA Mm.1 10 else 0) = sumA Mm.1 10 := if_pos hm.2
    have e7 : (if okP Mm.1 then (0 : Int) else 1) = 0 := if_pos hm.2
    have hs0 := sumA_GR hgr
    have hq : Mm.2.tdiv 4 = Mm.2 / 4 := Int.tdiv_eq_ediv_of_nonneg hmk.1
    refine GoesV.tree Γ_ok htb 1000 false false Try.func8 rfl rfl ?_
    ((try simp only [decide_eq_true_eq, decide_eq_false_iff_not, Bool.not_eq_true', Bool.not_eq_false', Bool.not_true, Bool.not_false, Bool.and_eq_true, Bool.or_eq_true, bne_iff_ne, beq_iff_eq, ne_eq]); (try simp only [rng, lo, hi, mnI, mxI, Int.toNat_natCast, Sg.n, Nat.mul_one, Nat.zero_add, Nat.add_zero, Nat.reduceAdd, List.getD_cons_zero, List.getD_cons_succ, hlong, hPe, hGe, hSe, hLe, hDe, hEe, e1, e2, e3, e4, e5, e6, e7, c1, c2]))
    ((repeat' (first | (with_reducible apply And.intro) | intro _)); all_goals (first | exact trivial | (with_reducible assumption) | (show (_ : List Blk) = _; rfl) | (first | exact trivial | (with_reducible assumption) | omega | (split <;> omega) | (split <;> split <;> omega)) | skip); all_goals (try (refine ⟨rfl, (by first | exact Nat.le_refl _ | exact Nat.le_of_ble_eq_true rfl), rfl, rfl, ?_, (by repeat' (first | exact trivial | rfl | apply And.intro)), rfl, rfl⟩)))
    all_goals (try first | omega | contradiction)
    refine ⟨?_⟩
    generalize hYe : yardR P S = Y at *
    have hYl : Y.length ≤ 1000000 := by omega
    generalize hV : Mm.2.tdiv 4 = V at *
    refine GoesV.loopR (fun y : Nat => (P.getD 1 0).toNat - y) (fun y => y ≤ (P.getD 1 0).toNat) (fun y => (.any :: .fs .u8 x1 :: .any :: .any :: .any :: .pw 0 .pas :: .pw 1 .gro :: .pw 2 .spot :: .i .i64 L :: .i .i64 (1 + D) :: .any :: .any :: .any :: .pw 3 .pas :: .i .i64 V :: .any :: .any :: .any :: .any :: .any :: .fs .spot Y :: .any :: .i .i8 (y : Int) :: .any :: .any :: .any :: .any :: .any :: .any :: .any :: .any :: .any :: .any :: .any :: .any :: .any :: .any :: .any :: .any :: .any :: .any :: .any :: .any :: .any :: .any :: .any :: .any :: .any :: .any :: .any :: .any :: .any :: .any :: .any :: .any :: .any :: .any :: .any :: .any :: .any :: .any :: []))
      (fun y => [.c .pas P, .c .gro G, .c .spot S, .c .pas Mm.1]) 0 [0, 1, 2, 4] (Nat.zero_le _) ⟨rfl, rfl, rfl, (by repeat' (first | exact trivial | rfl | apply And.intro)), (by repeat' (first | exact trivial | rfl | apply And.intro)), rfl, rfl, rfl⟩ fun y hy ihY => ?_
    by_cases hlt : (y : Int) < P.getD 1 0
    · have ihY := ihY (y + 1) (by omega) (by omega)
      refine GoesV.tree Γ_ok htb 1000 false false Try.func8 rfl rfl ?_
      ((try simp only [decide_eq_true_eq, decide_eq_false_iff_not, Bool.not_eq_true', Bool.not_eq_false', Bool.not_true, Bool.not_false, Bool.and_eq_true, Bool.or_eq_true, bne_iff_ne, beq_iff_eq, ne_eq]); (try simp only [rng, lo, hi, mnI, mxI, Int.toNat_natCast, Sg.n, Nat.mul_one, Nat.zero_add, Nat.add_zero, Nat.reduceAdd, List.getD_cons_zero, List.getD_cons_succ]))
      ((repeat' (first | (with_reducible apply And.intro) | intro _)); all_goals (first | exact trivial | (with_reducible assumption) | (show (_ : List Blk) = _; rfl) | (first | exact trivial | (with_reducible assumption) | omega | (split <;> omega) | (split <;> split <;> omega)) | skip); all_goals (try (refine ⟨rfl, (by first | exact Nat.le_refl _ | exact Nat.le_of_ble_eq_true rfl), rfl, rfl, ?_, (by repeat' (first | exact trivial | rfl | apply And.intro)), rfl, rfl⟩)))
      all_goals (try first | omega | contradiction)
      refine ⟨?_⟩
      refine GoesV.loopR (fun x : Nat => (P.getD 0 0).toNat - x) (fun x => x ≤ (P.getD 0 0).toNat) (fun x => (.any :: .fs .u8 x1 :: .any :: .any :: .any :: .pw 0 .pas :: .pw 1 .gro :: .pw 2 .spot :: .i .i64 L :: .i .i64 (1 + D) :: .any :: .any :: .any :: .pw 3 .pas :: .i .i64 V :: .any :: .any :: .any :: .any :: .any :: .fs .spot Y :: .any :: .i .i8 (y : Int) :: .i .i8 (x : Int) :: .any :: .any :: .any :: .any :: .any :: .any :: .any :: .any :: .any :: .any :: .any :: .any :: .any :: .any :: .any :: .any :: .any :: .any :: .any :: .any :: .any :: .any :: .any :: .any :: .any :: .any :: .any :: .any :: .any :: .any :: .any :: .any :: .any :: .any :: .any :: .any :: .any :: []))
        (fun x => [.c .pas P, .c .gro G, .c .spot S, .c .pas Mm.1]) 0 [0, 1, 2, 3] (Nat.zero_le _) ⟨rfl, rfl, rfl, (by repeat' (first | exact trivial | rfl | apply And.intro)), (by repeat' (first | exact trivial | rfl | apply And.intro)), rfl, rfl, rfl⟩ fun x hx ihX => ?_
      by_cases hltx : (x : Int) < P.getD 0 0
      · have ihX := ihX (x + 1) (by omega) (by omega)
        have hc := hmc [(x : Int), (y : Int)] (by simp only [inG, List.getD_cons_zero, List.getD_cons_succ]; omega) rfl
        have eg : gx [(x : Int), (y : Int)] = 2 + y * 10 + x * 1 := by simp [gx]
        rw [eg] at hc
        have eh : (Y.any fun r => decide (r = [(x : Int), (y : Int)])) = hspR Y [(x : Int), (y : Int)] := rfl
        rw [eh] at hc
        have hg1 := hgr.rng [(x : Int), (y : Int)] (by simp only [inG, List.getD_cons_zero, List.getD_cons_succ]; omega)
        rw [eg] at hg1
        clear hmc eh
        unfold minI at hc
        simp only [Nat.mul_one] at hc hg1
        cases hb : hspR Y [(x : Int), (y : Int)]
        · rw [hb, if_neg (by decide)] at hc
          refine GoesV.tree Γ_ok htb 1000 false false Try.func8 rfl rfl ?_
          ((try simp only [decide_eq_true_eq, decide_eq_false_iff_not, Bool.not_eq_true', Bool.not_eq_false', Bool.not_true, Bool.not_false, Bool.and_eq_true, Bool.or_eq_true, bne_iff_ne, beq_iff_eq, ne_eq]); (try simp only [rng, lo, hi, mnI, mxI, Int.toNat_natCast, Sg.n, Nat.mul_one, Nat.zero_add, Nat.add_zero, Nat.reduceAdd, List.getD_cons_zero, List.getD_cons_succ, hb]))
          ((repeat' (first | (with_reducible apply And.intro) | intro _)); all_goals (first | exact trivial | (with_reducible assumption) | (show (_ : List Blk) = _; rfl) | (first | exact trivial | (with_reducible assumption) | omega | (split <;> omega) | (split <;> split <;> omega)) | skip); all_goals (try (refine ⟨rfl, (by first | exact Nat.le_refl _ | exact Nat.le_of_ble_eq_true rfl), rfl, rfl, ?_, (by repeat' (first | exact trivial | rfl | apply And.intro)), rfl, rfl⟩)))
          all_goals (try first | omega | contradiction)
          all_goals (try exact ⟨ihX [0, 1, 2, 3] _ _ ⟨rfl, rfl, rfl, (by repeat' (first | exact trivial | rfl | apply And.intro)), (by repeat' (first | exact trivial | rfl | apply And.intro)), rfl, rfl, rfl⟩⟩)
        · rw [hb, if_pos rfl] at hc
          refine GoesV.tree Γ_ok htb 1000 false false Try.func8 rfl rfl ?_
          ((try simp only [decide_eq_true_eq, decide_eq_false_iff_not, Bool.not_eq_true', Bool.not_eq_false', Bool.not_true, Bool.not_false, Bool.and_eq_true, Bool.or_eq_true, bne_iff_ne, beq_iff_eq, ne_eq]); (try simp only [rng, lo, hi, mnI, mxI, Int.toNat_natCast, Sg.n, Nat.mul_one, Nat.zero_add, Nat.add_zero, Nat.reduceAdd, List.getD_cons_zero, List.getD_cons_succ, hb]))
          ((repeat' (first | (with_reducible apply And.intro) | intro _)); all_goals (first | exact trivial | (with_reducible assumption) | (show (_ : List Blk) = _; rfl) | (first | exact trivial | (with_reducible assumption) | omega | (split <;> omega) | (split <;> split <;> omega)) | skip); all_goals (try (refine ⟨rfl, (by first | exact Nat.le_refl _ | exact Nat.le_of_ble_eq_true rfl), rfl, rfl, ?_, (by repeat' (first | exact trivial | rfl | apply And.intro)), rfl, rfl⟩)))
          all_goals (try first | omega | contradiction)
          all_goals (try exact ⟨ihX [0, 1, 2, 3] _ _ ⟨rfl, rfl, rfl, (by repeat' (first | exact trivial | rfl | apply And.intro)), (by repeat' (first | exact trivial | rfl | apply And.intro)), rfl, rfl, rfl⟩⟩)
      · obtain rfl : x = (P.getD 0 0).toNat := by omega
        clear ihX
        refine GoesV.tree Γ_ok htb 1000 false false Try.func8 rfl rfl ?_
        ((try simp only [decide_eq_true_eq, decide_eq_false_iff_not, Bool.not_eq_true', Bool.not_eq_false', Bool.not_true, Bool.not_false, Bool.and_eq_true, Bool.or_eq_true, bne_iff_ne, beq_iff_eq, ne_eq]); (try simp only [rng, lo, hi, mnI, mxI, Int.toNat_natCast, Sg.n, Nat.mul_one, Nat.zero_add, Nat.add_zero, Nat.reduceAdd, List.getD_cons_zero, List.getD_cons_succ]))
        ((repeat' (first | (with_reducible apply And.intro) | intro _)); all_goals (first | exact trivial | (with_reducible assumption) | (show (_ : List Blk) = _; rfl) | (first | exact trivial | (with_reducible assumption) | omega | (split <;> omega) | (split <;> split <;> omega)) | skip); all_goals (try (refine ⟨rfl, (by first | exact Nat.le_refl _ | exact Nat.le_of_ble_eq_true rfl), rfl, rfl, ?_, (by repeat' (first | exact trivial | rfl | apply And.intro)), rfl, rfl⟩)))
        all_goals (try first | omega | contradiction)
        exact ⟨ihY [0, 1, 2, 3] _ _ ⟨rfl, rfl, rfl, (by repeat' (first | exact trivial | rfl | apply And.intro)), (by repeat' (first | exact trivial | rfl | apply And.intro)), rfl, rfl, rfl⟩⟩
    · obtain rfl : y = (P.getD 1 0).toNat := by omega
      clear ihY hmc
      have hx1 := hO
      rw [← hYe] at hYl
      obtain ⟨b, hB⟩ := mw_best hO
      obtain ⟨ta, tb, tm, hT⟩ := mw_two hO
      rw [hYe] at hB hT hYl
      have hcD := c3 (1 + D) (by omega) (by omega)
      have b1 := hB.d
      have b2 := hB.v
      have b3 := hB.le
      refine GoesV.tree Γ_ok htb 1000 false false Try.func8 rfl rfl ?_
      ((try simp only [decide_eq_true_eq, decide_eq_false_iff_not, Bool.not_eq_true', Bool.not_eq_false', Bool.not_true, Bool.not_false, Bool.and_eq_true, Bool.or_eq_true, bne_iff_ne, beq_iff_eq, ne_eq]); (try simp only [rng, lo, hi, mnI, mxI, Int.toNat_natCast, Sg.n, Nat.mul_one, Nat.zero_add, Nat.add_zero, Nat.reduceAdd, List.getD_cons_zero, List.getD_cons_succ, b1, b2, hcD]))
      ((repeat' (first | (with_reducible apply And.intro) | intro _)); all_goals (first | exact trivial | (with_reducible assumption) | (show (_ : List Blk) = _; rfl) | (first | exact trivial | (with_reducible assumption) | omega | (split <;> omega) | (split <;> split <;> omega)) | skip); all_goals (try (refine ⟨rfl, (by first | exact Nat.le_refl _ | exact Nat.le_of_ble_eq_true rfl), rfl, rfl, ?_, (by repeat' (first | exact trivial | rfl | apply And.intro)), rfl, rfl⟩)))
      all_goals (try first | omega | contradiction)
      refine ⟨?_⟩
      refine GoesV.loopR (fun k : Nat => (1 + D).toNat + 1 - k) (fun k => (k : Int) ≤ 1 + D + 1) (fun k => (.any :: .fs .u8 x1 :: .any :: .any :: .any :: .pw 0 .pas :: .pw 1 .gro :: .pw 2 .spot :: .i .i64 L :: .i .i64 (1 + D) :: .any :: .any :: .any :: .any :: .i .i64 V :: .any :: .any :: .any :: .any :: .any :: .any :: .any :: .any :: .any :: .any :: .any :: .any :: .any :: .any :: .any :: .i .i64 (b.1 : Int) :: .i .i64 b.2 :: .any :: .i .i64 (k : Int) :: .any :: .any :: .any :: .any :: .any :: .any :: .any :: .any :: .any :: .any :: .any :: .any :: .any :: .any :: .any :: .any :: .any :: .any :: .any :: .any :: .any :: .any :: .any :: .any :: .any :: .any :: .any :: []))
        (fun k => [.c .pas P, .c .gro G, .c .spot S]) 0 [0, 1, 2] (by omega) ⟨rfl, rfl, rfl, (by repeat' (first | exact trivial | rfl | apply And.intro)), (by repeat' (first | exact trivial | rfl | apply And.intro)), rfl, rfl, rfl⟩ fun k hk ihK => ?_
      by_cases hltk : (k : Int) ≤ 1 + D
      · have ihK := ihK (k + 1) (by omega) (by omega)
        obtain ⟨k1, k2, k3⟩ := hB.h k hltk
        have kc := c3 (k : Int) (by omega) (by omega)
        have kv := mw_hay hO (FcS.refl hPl) hPok (d := (k : Int)) (by omega) (by omega)
        rw [hYe, Int.toNat_natCast] at kv
        generalize hayAt P G Y L k = hk at *
        refine GoesV.tree Γ_ok htb 1000 false false Try.func8 rfl rfl ?_
        ((try simp only [decide_eq_true_eq, decide_eq_false_iff_not, Bool.not_eq_true', Bool.not_eq_false', Bool.not_true, Bool.not_false, Bool.and_eq_true, Bool.or_eq_true, bne_iff_ne, beq_iff_eq, ne_eq]); (try simp only [rng, lo, hi, mnI, mxI, Int.toNat_natCast, Sg.n, Nat.mul_one, Nat.zero_add, Nat.add_zero, Nat.reduceAdd, List.getD_cons_zero, List.getD_cons_succ, kc, kv]))
        ((repeat' (first | (with_reducible apply And.intro) | intro _)); all_goals (first | exact trivial | (with_reducible assumption) | (show (_ : List Blk) = _; rfl) | (first | exact trivial | (with_reducible assumption) | omega | (split <;> omega) | (split <;> split <;> omega)) | skip); all_goals (try (refine ⟨rfl, (by first | exact Nat.le_refl _ | exact Nat.le_of_ble_eq_true rfl), rfl, rfl, ?_, (by repeat' (first | exact trivial | rfl | apply And.intro)), rfl, rfl⟩)))
        all_goals (try first | omega | contradiction)
        all_goals (try exact ⟨ihK [0, 1, 2] _ _ ⟨rfl, rfl, rfl, (by repeat' (first | exact trivial | rfl | apply And.intro)), (by repeat' (first | exact trivial | rfl | apply And.intro)), rfl, rfl, rfl⟩⟩)
      · obtain ek : (k : Int) = 1 + D + 1 := by omega
        clear ihK
        obtain ⟨tc, t1, t2, t3, t4, hTh⟩ := hT
        refine GoesV.tree Γ_ok htb 1000 false false Try.func8 rfl rfl ?_
        ((try simp only [decide_eq_true_eq, decide_eq_false_iff_not, Bool.not_eq_true', Bool.not_eq_false', Bool.not_true, Bool.not_false, Bool.and_eq_true, Bool.or_eq_true, bne_iff_ne, beq_iff_eq, ne_eq]); (try simp only [rng, lo, hi, mnI, mxI, Int.toNat_natCast, Sg.n, Nat.mul_one, Nat.zero_add, Nat.add_zero, Nat.reduceAdd, List.getD_cons_zero, List.getD_cons_succ, tc, t1, t2, t3]))
        ((repeat' (first | (with_reducible apply And.intro) | intro _)); all_goals (first | exact trivial | (with_reducible assumption) | (show (_ : List Blk) = _; rfl) | (first | exact trivial | (with_reducible assumption) | omega | (split <;> omega) | (split <;> split <;> omega)) | skip); all_goals (try (refine ⟨rfl, (by first | exact Nat.le_refl _ | exact Nat.le_of_ble_eq_true rfl), rfl, rfl, ?_, (by repeat' (first | exact trivial | rfl | apply And.intro)), rfl, rfl⟩)))
        all_goals (try first | omega | contradiction)
        refine ⟨?_⟩
        refine GoesV.loopR (fun u : Nat => (1 + D).toNat - u) (fun u => (u : Int) ≤ 1 + D) (fun u => (.any :: .fs .u8 x1 :: .any :: .any :: .any :: .pw 0 .pas :: .pw 1 .gro :: .pw 2 .spot :: .i .i64 L :: .i .i64 (1 + D) :: .any :: .any :: .any :: .any :: .i .i64 V :: .any :: .any :: .any :: .any :: .any :: .any :: .any :: .any :: .any :: .any :: .any :: .any :: .any :: .any :: .any :: .any :: .any :: .any :: .any :: .any :: .any :: .any :: .any :: .any :: .any :: .i .i64 ta :: .i .i64 tb :: .i .i64 tm :: .any :: .i .i64 (u : Int) :: .any :: .any :: .any :: .any :: .any :: .any :: .any :: .any :: .any :: .any :: .any :: .any :: .any :: .any :: .any :: .any :: []))
          (fun u => [.c .pas P, .c .gro G, .c .spot S]) 0 [0, 1, 2] (by omega) ⟨rfl, rfl, rfl, (by repeat' (first | exact trivial | rfl | apply And.intro)), (by repeat' (first | exact trivial | rfl | apply And.intro)), rfl, rfl, rfl⟩ fun u hu ihU => ?_
        by_cases hltu : (u : Int) < 1 + D
        · have ihU := ihU (u + 1) (by omega) (by omega)
          have hDy := mw_day hO u (by omega)
          rw [hYe] at hDy
          obtain ⟨y1, y2, y3, y4, y5, y6⟩ := hDy
          have hTu := hTh u
          have hr2 := fun k => hYe ▸ two_rng (mw_hayOk hO) u k
          clear hTh
          refine GoesV.tree Γ_ok htb 1000 false false Try.func8 rfl rfl ?_
          ((try simp only [decide_eq_true_eq, decide_eq_false_iff_not, Bool.not_eq_true', Bool.not_eq_false', Bool.not_true, Bool.not_false, Bool.and_eq_true, Bool.or_eq_true, bne_iff_ne, beq_iff_eq, ne_eq]); (try simp only [rng, lo, hi, mnI, mxI, Int.toNat_natCast, Sg.n, Nat.mul_one, Nat.zero_add, Nat.add_zero, Nat.reduceAdd, List.getD_cons_zero, List.getD_cons_succ, y1, if_true, y3, y4, y5]))
          ((repeat' (first | (with_reducible apply And.intro) | intro _)); all_goals (first | exact trivial | (with_reducible assumption) | (show (_ : List Blk) = _; rfl) | (first | exact trivial | (with_reducible assumption) | omega | (split <;> omega) | (split <;> split <;> omega)) | skip); all_goals (try (refine ⟨rfl, (by first | exact Nat.le_refl _ | exact Nat.le_of_ble_eq_true rfl), rfl, rfl, ?_, (by repeat' (first | exact trivial | rfl | apply And.intro)), rfl, rfl⟩)))
          all_goals (try first | omega | contradiction)
          refine ⟨?_⟩
          refine GoesV.loopR (fun k : Nat => (1 + D).toNat - u - k) (fun k => (u : Int) + 1 + k ≤ 1 + D + 1) (fun k => (.any :: .fs .u8 x1 :: .any :: .any :: .any :: .pw 0 .pas :: .pw 1 .gro :: .pw 2 .spot :: .i .i64 L :: .i .i64 (1 + D) :: .any :: .any :: .any :: .any :: .i .i64 V :: .any :: .any :: .any :: .any :: .any :: .any :: .any :: .any :: .any :: .any :: .any :: .any :: .any :: .any :: .any :: .any :: .any :: .any :: .any :: .any :: .any :: .any :: .any :: .any :: .any :: .i .i64 ta :: .i .i64 tb :: .i .i64 tm :: .any :: .i .i64 (u : Int) :: .any :: .any :: .i .i64 0 :: .pw 3 .pas :: .i .i64 (hayAt P G Y L u) :: .i .i64 0 :: .i .i64 ((u : Int) + 1 + k) :: .any :: .any :: .any :: .any :: .any :: .any :: .any :: .any :: .any :: []))
            (fun k => [.c .pas P, .c .gro G, .c .spot S, .c .pas (mownP P G Y L u)]) 0 [0, 1, 2, 4] (by omega) ⟨rfl, rfl, rfl, (by repeat' (first | exact trivial | rfl | exact Int.add_zero _ | exact (Int.add_zero _).symm | apply And.intro)), (by repeat' (first | exact trivial | rfl | apply And.intro)), rfl, rfl, rfl⟩ fun k hk ihV => ?_
          by_cases hltv : (u : Int) + 1 + k ≤ 1 + D
          · have ihV := ihV (k + 1) (by omega) (by omega)
            obtain ⟨v1, v2⟩ := y6 ((u : Int) + 1 + k - u) (by omega) (by omega)
            obtain ⟨v3, v4, v5⟩ := hTu ((u : Int) + 1 + k) (by omega) hltv
            obtain ⟨⟨r1, r2⟩, r3, r4⟩ := hr2 ((u : Int) + 1 + k - u).toNat
            clear y6 hTu hr2
            generalize hayAt (mownP P G Y L u) G Y L ((u : Int) + 1 + k - u).toNat = hb at *
            refine GoesV.tree Γ_ok htb 1000 false false Try.func8 rfl rfl ?_
            ((try simp only [decide_eq_true_eq, decide_eq_false_iff_not, Bool.not_eq_true', Bool.not_eq_false', Bool.not_true, Bool.not_false, Bool.and_eq_true, Bool.or_eq_true, bne_iff_ne, beq_iff_eq, ne_eq]); (try simp only [rng, lo, hi, mnI, mxI, Int.toNat_natCast, Sg.n, Nat.mul_one, Nat.zero_add, Nat.add_zero, Nat.reduceAdd, List.getD_cons_zero, List.getD_cons_succ, v1, v2]))
            ((repeat' (first | (with_reducible apply And.intro) | intro _)); all_goals (first | exact trivial | (with_reducible assumption) | (show (_ : List Blk) = _; rfl) | (first | exact trivial | (with_reducible assumption) | omega | (split <;> omega) | (split <;> split <;> omega)) | skip); all_goals (try (refine ⟨rfl, (by first | exact Nat.le_refl _ | exact Nat.le_of_ble_eq_true rfl), rfl, rfl, ?_, (by repeat' (first | exact trivial | rfl | apply And.intro)), rfl, rfl⟩)))
            all_goals (try first | omega | contradiction)
            all_goals (try exact ⟨ihV [0, 1, 2, 3] _ _ ⟨rfl, rfl, rfl, (by repeat' (first | exact trivial | rfl | apply And.intro)), (by repeat' (first | exact trivial | rfl | apply And.intro)), rfl, rfl, rfl⟩⟩)
          · clear ihV
            refine GoesV.tree Γ_ok htb 1000 false false Try.func8 rfl rfl ?_
            ((try simp only [decide_eq_true_eq, decide_eq_false_iff_not, Bool.not_eq_true', Bool.not_eq_false', Bool.not_true, Bool.not_false, Bool.and_eq_true, Bool.or_eq_true, bne_iff_ne, beq_iff_eq, ne_eq]); (try simp only [rng, lo, hi, mnI, mxI, Int.toNat_natCast, Sg.n, Nat.mul_one, Nat.zero_add, Nat.add_zero, Nat.reduceAdd, List.getD_cons_zero, List.getD_cons_succ]))
            ((repeat' (first | (with_reducible apply And.intro) | intro _)); all_goals (first | exact trivial | (with_reducible assumption) | (show (_ : List Blk) = _; rfl) | (first | exact trivial | (with_reducible assumption) | omega | (split <;> omega) | (split <;> split <;> omega)) | skip); all_goals (try (refine ⟨rfl, (by first | exact Nat.le_refl _ | exact Nat.le_of_ble_eq_true rfl), rfl, rfl, ?_, (by repeat' (first | exact trivial | rfl | apply And.intro)), rfl, rfl⟩)))
            all_goals (try first | omega | contradiction)
            all_goals (try exact ⟨ihU [0, 1, 2] _ _ ⟨rfl, rfl, rfl, (by repeat' (first | exact trivial | rfl | apply And.intro)), (by repeat' (first | exact trivial | rfl | apply And.intro)), rfl, rfl, rfl⟩⟩)
        · obtain eu : (u : Int) = 1 + D := by omega
          clear ihU
          have hn : (((1 + D).toNat : Nat) : Int) = 1 + D := by omega
          have hV0 : 0 ≤ V ∧ V ≤ 100000 := by obtain ⟨m1, m2, -⟩ := hmk; omega
          have hf := fdK_ok (h := V + 40) (e := E) (by omega) (by omega) (1 + D).toNat
          rw [hn] at hf
          obtain ⟨hf1, hf2, hf3, hf4⟩ := hf
          have hW0 : 0 ≤ E * (1 + D) := Int.mul_nonneg (by omega) (by omega)
          have hW1 : E * (1 + D) ≤ 20 * 7 := Int.mul_le_mul (by omega) (by omega) (by omega) (by omega)
          have hfm : (fdK (V + 40) E (1 + D).toNat).1 = if 0 < V + 40 - E * (1 + D) then V + 40 - E * (1 + D) else 0 := by
            rw [hf1]; split <;> split <;> omega
          refine GoesV.tree Γ_ok htb 1000 false false Try.func8 rfl rfl ?_
          ((try simp only [decide_eq_true_eq, decide_eq_false_iff_not, Bool.not_eq_true', Bool.not_eq_false', Bool.not_true, Bool.not_false, Bool.and_eq_true, Bool.or_eq_true, bne_iff_ne, beq_iff_eq, ne_eq]); (try simp only [rng, lo, hi, mnI, mxI, Int.toNat_natCast, Sg.n, Nat.mul_one, Nat.zero_add, Nat.add_zero, Nat.reduceAdd, List.getD_cons_zero, List.getD_cons_succ, hEe]))
          ((repeat' (first | (with_reducible apply And.intro) | intro _)); all_goals (first | exact trivial | (with_reducible assumption) | (show (_ : List Blk) = _; rfl) | (first | exact trivial | (with_reducible assumption) | omega | (split <;> omega) | (split <;> split <;> omega)) | skip); all_goals (try (refine ⟨rfl, (by first | exact Nat.le_refl _ | exact Nat.le_of_ble_eq_true rfl), rfl, rfl, ?_, (by repeat' (first | exact trivial | rfl | apply And.intro)), rfl, rfl⟩)))
          all_goals (try first | omega | contradiction)
          all_goals (first | exact rfl | (show (true : Bool) = _; rw [decide_eq_decide.2 hf4]; exact (beq_self_eq_true _).symm))
theorem l_Mown (x0 x1 : List (List Int)) : SpecOK Try.prog 8 [.fs .u8 x0, .fs .u8 x1] [] (.d true) [] := l_MownB x0 x1
end Go.Proofs.Ytgogccconmlkiaa

namespace Go.Proofs.Ytgogccconmlkiaa.fnMown
open Go Go.Eng Go.ChangeShapes Go.WideShapes Go.ChangeAt Go.RowKit
theorem own : ownKnob Try.prog.godebug = none := by kernel_rfl
theorem laidOut : laidOutB Try.prog = true := by kernel_rfl
set_option maxRecDepth 100000 in
theorem lifted (os : Os) (started : os.Started) (H : Type) (enc : TypeId × Value → H) :
    ReturnsInHanded {} Try.checked os 8 .any (Rows.fnMownSpec.pre6 enc Try.prog Try.f8 Rows.fnMownRow.domain false) (Rows.fnMownSpec.post enc Try.prog Try.f8 false true false false) := by
  refine returnsInHanded_of_change_sized (C := Try.checked) own started (by kernel_rfl) Try.func8
    (ChangeSpec.witness6 (enc := enc) (C := Try.checked) false ⟨#[], #[.slice none 0 0, .slice none 0 0], []⟩ 8 (by kernel_rfl) (by kernel_rfl) (by kernel_rfl) (by kernel_rfl)) ?_
  intro W base args ds gs before hval0 hW hcnd hsz0 _
  have hval : ∀ (j : Nat) t v, Try.f8.params[j]? = some t → args[j]? = some v → Value.okWide Try.prog W .any base t v := hval0
  have hW' := hW
  obtain ⟨p, q, hA0, hV, rfl, hfz, hnd⟩ := hW
  have hA : DataW.TrodAll enc Try.prog W 0 (fun _ => true) true Try.f8.params.toList args.toList ds p := hA0
  rw [Try.params8] at hA hval
  obtain ⟨v0, vs0, d0, ds0, p0, q0, hargs, rfl, rfl, h0, r0⟩ := trodAll_cons hA
  obtain ⟨v1, vs1, d1, ds1, p1, q1, rfl, rfl, rfl, h1, r1⟩ := trodAll_cons r0
  obtain ⟨rfl, rfl, rfl⟩ := trodAll_nil r1
  obtain rfl : args = #[v0, v1] := by cases args; simp_all
  obtain ⟨rfl, rfl⟩ := trodVars_none hV
  obtain ⟨x0, g0, m0⟩ := open_rows Γ_ok (σ := .u8) Try.underlying59 rfl rfl (by decide) (hval 0 _ v0 rfl rfl) h0
  have z0 := trod_lt' h0
  obtain ⟨x1, g1, m1⟩ := open_rows Γ_ok (σ := .u8) Try.underlying59 rfl rfl (by decide) (hval 1 _ v1 rfl rfl) h1
  have z1 := trod_lt' h1

  clear hA0 hval0 hsz0
  refine (l_Mown x0 x1 ⟨fun _ => ⟨0, 0, 0, .none, 0⟩, fun k => W.heap[k]?, globW W⟩ [v0, v1] W ⟨den_fs g0 rfl, den_fs g1 rfl, trivial⟩ (mrel_nil fun _ _ h => h) (fun x hx i hi => (by simp at hx; rcases hx with rfl | rfl <;> cases hi))).mono fun e W' ⟨v, ρ', he, hv, hAft, _⟩ => ?_
  subst he
  obtain rfl : v = .bool true := hv
  have bel := hAft.below
  have t0 := Below.trod laidOut (by kernel_rfl) (by decide +kernel) h0 bel z0
  have t1 := Below.trod laidOut (by kernel_rfl) (by decide +kernel) h1 bel z1
  exact ⟨_, rfl, _, _, _, [], _, [], hW', trodAll_mk1 (shut_bool Try.underlying4 _), (trodAll_cons_mk t0 (trodAll_cons_mk t1 trodAll_mk0)), rfl, bel.frame _, fun h => (by cases h)⟩
theorem and_t {a b : Bool} (h : a = true) (h' : b = true) : (a && b) = true := by rw [h, h']; rfl
set_option maxHeartbeats 4000000 in
theorem facts : joinedFacts Try.pinned.checked.prog 8 Try.f8 Rows.fnMownSpec Rows.fnMownRow = true := by
  unfold joinedFacts
  repeat' (with_reducible apply and_t)
  all_goals (as_aux_lemma => kernel_rfl)
theorem over : Rows.fnMownRow.holds Try.pinned (OpenSpec.ofChange Rows.fnMownSpec) :=
  OpenClaim.holds_of_wide 8 Try.f8 rfl rfl rfl rfl rfl rfl rfl ⟨rfl, rfl, rfl, rfl, rfl⟩ rfl rfl rfl rfl rfl (by kernel_rfl) Try.func8 facts
    (of_decide_eq_true (by kernel_rfl)) (by unfold Func.isWrapper; first | (rw [if_pos (by decide +kernel)]; kernel_rfl) | (rw [if_neg (by decide +kernel)]; exact ⟨rfl, rfl⟩))
    (fun os started H enc _ => lifted os started H enc)
end Go.Proofs.Ytgogccconmlkiaa.fnMown
namespace Go.Proofs.Ytgogccconmlkiaa
theorem fnMown_holds : Rows.FnMownSaid := fnMown.over
#print axioms fnMown_holds
end Go.Proofs.Ytgogccconmlkiaa

