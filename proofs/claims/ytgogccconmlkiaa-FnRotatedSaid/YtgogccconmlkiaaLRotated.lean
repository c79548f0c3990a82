/- The row Rotated: rotation by the walk of the law, its days of shortage, its balance, its best stay. -/
import Derived.Test.YtgogccconmlkiaaRt2
import Derived.Test.YtgogccconmlkiaaHay
namespace Go.Proofs.Ytgogccconmlkiaa
open Go Go.Eng
set_option linter.unusedSimpArgs false
set_option linter.unusedVariables false
set_option maxRecDepth 100000
set_option maxHeartbeats 4000000

set_option maxRecDepth 100000 in
theorem l_RotatedB (x0 x1 : List (List Int)) : SpecOK Try.prog 7 [.fs .u8 x0, .fs .u8 x1] [] (.b true) [] := by
  refine SpecOK.assume fun hA hM => ?_
  have hR0 : SrcOk x0 := ⟨hA.2.1⟩
  have hR1 : SrcOk x1 := ⟨hA.2.2.2.1⟩
  clear hA hM
  have htb := (TbOk.cons s_a2Long Try.func29 rfl rfl (TbOk.cons s_a2Pasture Try.func30 rfl rfl (TbOk.cons s_a2Growth Try.func31 rfl rfl (TbOk.cons s_yardsOfF Try.func32 rfl rfl (TbOk.cons s_a2At Try.func33 rfl rfl (TbOk.cons s_iRotOk Try.func27 rfl rfl (TbOk.cons s_sRotOk Try.func26 rfl rfl (TbOk.cons s_iShOk Try.func23 rfl rfl (TbOk.cons s_sShOk Try.func22 rfl rfl (TbOk.cons s_a2Same Try.func34 rfl rfl (TbOk.cons s_a2HasI Try.func36 rfl rfl (TbOk.cons s_a2Is Try.func35 rfl rfl (TbOk.cons s_implGrazeYard Try.func37 rfl rfl (TbOk.cons s_a2HasSpot Try.func38 rfl rfl (TbOk.cons s_specGrowCell Try.func39 rfl rfl (TbOk.cons s_implBalance Try.func40 rfl rfl (TbOk.cons s_implBestStay Try.func20 rfl rfl (TbOk.cons s_specBestStay Try.func17 rfl rfl (TbOk.nil : TbOk Try.prog tb0)))))))))))))))))))
  refine SpecOK.of_goesV [] 45 Try.func7 rfl rfl ?_
  have hP := draw_ok hR0 (a := 0) (sd := 0) (Int.le_refl _)
  have hG := a2G_ok hR1
  have hSt := atV_rng hR1 (i := 3) (n := 4) (by decide) (by decide)
  have hEa := atV_rng hR1 (i := 4) (n := 30) (by decide) (by decide)
  have hDd := atV_rng hR1 (i := 5) (n := 10) (by decide) (by decide)
  have hn0 := yl_pos hP.1.1
  have hn1 := yL_100 hP.1.1
  by_cases hlong : 3000 < x0.length ∨ 3000 < x1.length
  · refine GoesV.tree Γ_ok htb 12 false false Try.func7 rfl rfl ?_
    ((try simp only [decide_eq_true_eq, decide_eq_false_iff_not, Bool.not_eq_true', Bool.not_eq_false', Bool.not_true, Bool.not_false, Bool.and_eq_true, Bool.or_eq_true, bne_iff_ne, beq_iff_eq, ne_eq]); (try simp only [rng, lo, hi, mnI, mxI, Int.toNat_natCast, Sg.n, Nat.mul_one, Nat.zero_add, Nat.add_zero, Nat.reduceAdd, List.getD_cons_zero, List.getD_cons_succ]))
    ((repeat' (first | (with_reducible apply And.intro) | intro _)); all_goals (first | exact trivial | (with_reducible assumption) | (show (_ : List Blk) = _; rfl) | (first | exact trivial | (with_reducible assumption) | omega | (split <;> omega) | (split <;> split <;> omega)) | skip); all_goals (try (refine ⟨rfl, (by first | exact Nat.le_refl _ | exact Nat.le_of_ble_eq_true rfl), rfl, rfl, ?_, (by repeat' (first | exact trivial | rfl | apply And.intro)), rfl, rfl⟩)))
    all_goals (try first | contradiction | exact rfl)
  · have hd := hP.1.1
    obtain ⟨hPok, hPl, hP5, hP6⟩ := hP
    have hd' := hd
    unfold okD at hd'
    refine GoesV.tree Γ_ok htb 11 false false Try.func7 rfl rfl ?_
    ((try simp only [decide_eq_true_eq, decide_eq_false_iff_not, Bool.not_eq_true', Bool.not_eq_false', Bool.not_true, Bool.not_false, Bool.and_eq_true, Bool.or_eq_true, bne_iff_ne, beq_iff_eq, ne_eq]); (try simp only [rng, lo, hi, mnI, mxI, Int.toNat_natCast, Sg.n, Nat.mul_one, Nat.zero_add, Nat.add_zero, Nat.reduceAdd, List.getD_cons_zero, List.getD_cons_succ, hlong]))
    ((repeat' (first | (with_reducible apply And.intro) | intro _)); all_goals (first | exact trivial | (with_reducible assumption) | (show (_ : List Blk) = _; rfl) | (first | exact trivial | (with_reducible assumption) | omega | (split <;> omega) | (split <;> split <;> omega)) | skip); all_goals (try (refine ⟨rfl, (by first | exact Nat.le_refl _ | exact Nat.le_of_ble_eq_true rfl), rfl, rfl, ?_, (by repeat' (first | exact trivial | rfl | apply And.intro)), rfl, rfl⟩)))
    all_goals (try first | omega | contradiction | exact rfl)
    all_goals (try first | exact hR0 | exact hR1 | exact hPok | exact hd)
    refine ⟨?_⟩
    generalize hPe : (drawS x0 0 0).1 = P at *
    generalize hGe : a2GP x1 = G at *
    generalize hSe : atV x1 3 4 = D at *
    generalize hEe : atV x1 4 30 = E at *
    generalize hDe : atV x1 5 10 = T at *
    have ha := atV_rng hR1 (i := 0) (n := ((yL P (spots P)).length : Int)) (by decide) (by omega)
    have hb := atV_rng hR1 (i := 1) (n := ((yL P (spots P)).length : Int)) (by decide) (by omega)
    have hc := atV_rng hR1 (i := 2) (n := ((yL P (spots P)).length : Int)) (by decide) (by omega)
    refine GoesV.tree Γ_ok htb 15 false false Try.func7 rfl rfl ?_
    ((try simp only [decide_eq_true_eq, decide_eq_false_iff_not, Bool.not_eq_true', Bool.not_eq_false', Bool.not_true, Bool.not_false, Bool.and_eq_true, Bool.or_eq_true, bne_iff_ne, beq_iff_eq, ne_eq]); (try simp only [rng, lo, hi, mnI, mxI, Int.toNat_natCast, Sg.n, Nat.mul_one, Nat.zero_add, Nat.add_zero, Nat.reduceAdd, List.getD_cons_zero, List.getD_cons_succ, three_rows, hSe, hEe]))
    ((repeat' (first | (with_reducible apply And.intro) | intro _)); all_goals (first | exact trivial | (with_reducible assumption) | (show (_ : List Blk) = _; rfl) | (first | exact trivial | (with_reducible assumption) | omega | (split <;> omega) | (split <;> split <;> omega)) | skip); all_goals (try (refine ⟨rfl, (by first | exact Nat.le_refl _ | exact Nat.le_of_ble_eq_true rfl), rfl, rfl, ?_, (by repeat' (first | exact trivial | rfl | apply And.intro)), rfl, rfl⟩)))
    all_goals (try first | omega | contradiction | exact rfl)
    all_goals (try first | exact hR0 | exact hR1 | exact hPok | exact hd)
    refine ⟨?_⟩
    refine GoesV.freeze 10 _ 3 .i64 _ rfl rfl ?_
    generalize hAe : atV x1 0 ((yL P (spots P)).length : Int) = a at *
    generalize hBe : atV x1 1 ((yL P (spots P)).length : Int) = b at *
    generalize hCe : atV x1 2 ((yL P (spots P)).length : Int) = c at *
    have hO : RdOk P G a b c (1 + D) E T := ⟨hPl, hPok, hG, ha, hb, hc, by omega, by omega, by omega⟩
    have hcode := rd_code hO (s := 1 + D) (by omega)
    refine GoesV.tree Γ_ok htb 11 false false Try.func7 rfl rfl ?_
    ((try simp only [decide_eq_true_eq, decide_eq_false_iff_not, Bool.not_eq_true', Bool.not_eq_false', Bool.not_true, Bool.not_false, Bool.and_eq_true, Bool.or_eq_true, bne_iff_ne, beq_iff_eq, ne_eq]); (try simp only [rng, lo, hi, mnI, mxI, Int.toNat_natCast, Sg.n, Nat.mul_one, Nat.zero_add, Nat.add_zero, Nat.reduceAdd, List.getD_cons_zero, List.getD_cons_succ, hDe]))
    ((repeat' (first | (with_reducible apply And.intro) | intro _)); all_goals (first | exact trivial | (with_reducible assumption) | (show (_ : List Blk) = _; rfl) | (first | exact trivial | (with_reducible assumption) | omega | (split <;> omega) | (split <;> split <;> omega)) | skip); all_goals (try (refine ⟨rfl, (by first | exact Nat.le_refl _ | exact Nat.le_of_ble_eq_true rfl), rfl, rfl, ?_, (by repeat' (first | exact trivial | rfl | apply And.intro)), rfl, rfl⟩)))
    all_goals (try first | omega | contradiction | exact rfl)
    all_goals (try first | exact hR0 | exact hR1 | exact hcode)
    refine ⟨?_⟩
    refine GoesV.freeze 15 _ _ .i64 _ rfl rfl ?_
    refine GoesV.freeze 18 _ _ .i64 _ rfl rfl ?_
    refine GoesV.freeze 20 _ _ .i64 _ rfl rfl ?_
    refine GoesV.freeze 22 _ _ .i64 _ rfl rfl ?_
    have hcode1 := rd_code hO (s := 1) (by decide)
    have hR := rd_rt hO
    obtain ⟨hbs1, hbs2, hbs3⟩ := rd_best hO
    have hr3 : ([[a], [b], [c]] : List (List Int)).length = 3 := rfl
    have hr3' : ([[a], [b], [c]] : List (List Int)).length = 3 := rfl
    generalize hrw : ([[a], [b], [c]] : List (List Int)) = rows at *
    have hDy := fun d => rt_day hPl hPok hR d
    have hKo := rtK_ok hR
    have hGrew := rd_grew hPl hPok hR
    have hdy := fun d => dy_ok (d := d) hR.st.1 hR.od
    have hget := fun {j : Nat} (hj : j < T.toNat) => rt_get hR (j := j) T.toNat hj
    have hpre := sum_pre hR T.toNat
    have hlS : (rtK P G (yL P (spots P)) rows (1 + D) E T.toNat).2.length = T.toNat := (hKo T.toNat).2.2.1
    have hbal := fun {g e : Int} => rd_bal (g := g) (e := e) hPok (hDy T.toNat).ok ((hDy T.toNat).fc.same 0 (by omega)) ((hDy T.toNat).fc.same 1 (by omega))
    have hsh : ∀ j : Nat, j < T.toNat → hasI (shA P G rows (1 + D) E T) (j : Int) = decide (((rtK P G (yL P (spots P)) rows (1 + D) E T.toNat).2.getD j []).getD 0 0 < E) := fun j hj => by
      have := shL_has (rtS P G rows (1 + D) E T) E j (rtS P G rows (1 + D) E T).length
      have e : rtS P G rows (1 + D) E T = (rtK P G (yL P (spots P)) rows (1 + D) E T.toNat).2 := rfl
      unfold shA
      rw [this, e, hlS, decide_eq_decide]
      exact ⟨fun h => h.2, fun h => ⟨hj, h⟩⟩
    have hSle : (shA P G rows (1 + D) E T).length ≤ 1000000 := by
      have := shL_len (rtS P G rows (1 + D) E T) E (rtS P G rows (1 + D) E T).length
      have e : (rtS P G rows (1 + D) E T).length = T.toNat := hlS
      unfold shA; omega
    have eS : rtS P G rows (1 + D) E T = (rtK P G (yL P (spots P)) rows (1 + D) E T.toNat).2 := rfl
    have eP : rtP P G rows (1 + D) E T = (rtK P G (yL P (spots P)) rows (1 + D) E T.toNat).1 := rfl
    rw [eS, eP]
    clear eS eP
    generalize shA P G rows (1 + D) E T = SH at *
    have hT : ((T.toNat : Nat) : Int) = T := by omega
    refine GoesV.tree Γ_ok htb 1000 false false Try.func7 rfl rfl ?_
    ((try simp only [decide_eq_true_eq, decide_eq_false_iff_not, Bool.not_eq_true', Bool.not_eq_false', Bool.not_true, Bool.not_false, Bool.and_eq_true, Bool.or_eq_true, bne_iff_ne, beq_iff_eq, ne_eq]); (try simp only [rng, lo, hi, mnI, mxI, Int.toNat_natCast, Sg.n, Nat.mul_one, Nat.zero_add, Nat.add_zero, Nat.reduceAdd, List.getD_cons_zero, List.getD_cons_succ, hlS, hT]))
    ((repeat' (first | (with_reducible apply And.intro) | intro _)); all_goals (first | exact trivial | (with_reducible assumption) | (show (_ : List Blk) = _; rfl) | (first | exact trivial | (with_reducible assumption) | omega | (split <;> omega) | (split <;> split <;> omega)) | skip); all_goals (try (refine ⟨rfl, (by first | exact Nat.le_refl _ | exact Nat.le_of_ble_eq_true rfl), rfl, rfl, ?_, (by repeat' (first | exact trivial | rfl | apply And.intro)), rfl, rfl⟩)))
    all_goals (try first | omega | contradiction | exact rfl)
    refine ⟨?_⟩
    generalize hYs : yL P (spots P) = Ys at *
    generalize hSS : (rtK P G Ys rows (1 + D) E T.toNat).2 = S at *
    generalize hPP : (rtK P G Ys rows (1 + D) E T.toNat).1 = PF at *
    obtain ⟨gw, hgw⟩ : ∃ gw : Nat → Int, ∀ d, gw d = sumA (rtK P G Ys rows (1 + D) E d).1 10 - sumA P 10 + sumI S d := ⟨_, fun _ => rfl⟩
    have hgw0 : gw 0 = 0 := by rw [hgw]; show sumA P 10 - sumA P 10 + 0 = 0; omega
    have hgwR : ∀ d, d ≤ T.toNat → 0 ≤ gw d ∧ gw d ≤ 10000000 ∧ 0 ≤ sumI S d ∧ sumI S d ≤ 1000000 := fun d hd => by
      have h1 := hGrew d
      rw [← hpre d hd] at h1
      have h2 := sumA_GR (hKo d).1
      have h3 := sumA_GR (GR.of hPl hPok)
      have h4 := sumI_rng (b := 100000) (by decide) (hKo T.toNat).2.2.2 d (by rw [(hKo T.toNat).2.2.1]; exact hd)
      rw [hSS] at h4
      rw [hgw]; omega
    clear hGrew hpre
    refine GoesV.loopR (fun d : Nat => T.toNat - d) (fun d => d ≤ T.toNat) (fun d => (.any :: .any :: .any :: .any :: .any :: .pw 0 .pas :: .pw 1 .gro :: .fz .spot Ys :: .any :: .any :: .fs .i64 rows :: .i .i64 (1 + D) :: .i .i64 E :: .i .i64 T :: .any :: .any :: .any :: .pw 2 .pas :: .fs .i64 S :: .any :: .any :: .any :: .fs .i64 SH :: .any :: .pw 3 .pas :: .i .i64 (sumI S d) :: .i .i64 (gw d) :: .i .i64 (d : Int) :: .any :: .any :: .any :: .any :: .any :: .any :: .any :: .any :: .any :: .any :: .any :: .any :: .any :: .any :: .any :: .any :: .any :: []))
      (fun d => [.c .pas P, .c .gro G, .c .pas PF, .c .pas (rtK P G Ys rows (1 + D) E d).1]) 0 [0, 1, 6, 9] (Nat.zero_le _) ⟨rfl, rfl, rfl, (by repeat' (first | exact trivial | rfl | exact hgw0 | apply And.intro)), (by repeat' (first | exact trivial | rfl | apply And.intro)), rfl, rfl, rfl⟩ fun d hdl ihD => ?_
    obtain ⟨w1, w2, w3, w4⟩ := hgwR d hdl
    by_cases hlt : (d : Int) < T
    · have ihD := ihD (d + 1) (by omega) (by omega)
      obtain ⟨w5, w6, w7, w8⟩ := hgwR (d + 1) (by omega)
      have hX := hDy d
      have hSd := hget (j := d) (by omega)
      have hsd := hsh d (by omega)
      obtain ⟨o1, o2, o3, o4, o5, o6⟩ := hdy d
      have eO : (rows.getD (((d : Int).tdiv (1 + D)).tmod 3).toNat []).getD 0 0 = dyO rows (1 + D) d := by
        unfold dyO dyI; rw [hr3]; rfl
      have o3' : 0 ≤ ((d : Int).tdiv (1 + D)).tmod 3 ∧ ((d : Int).tdiv (1 + D)).tmod 3 < 3 := by
        unfold dyI at o3 o4; rw [hr3] at o3 o4; exact ⟨o3, o4⟩
      have eY : Ys.getD (dyO rows (1 + D) d).toNat [] = dyY Ys rows (1 + D) d := rfl
      have eK : (rtK P G Ys rows (1 + D) E (d + 1)).1 = growP G (dyY Ys rows (1 + D) d) (grzK (rtK P G Ys rows (1 + D) E d).1 (dyY Ys rows (1 + D) d) E (dyY Ys rows (1 + D) d).length).1 := rfl
      have eI : sumI S (d + 1) = sumI S d + (grzK (rtK P G Ys rows (1 + D) E d).1 (dyY Ys rows (1 + D) d) E (dyY Ys rows (1 + D) d).length).2 := by
        show sumI S d + (S.getD d []).getD 0 0 = _
        rw [hSd]; rfl
      have hg1 := hgw d
      have hg2 := hgw (d + 1)
      rw [eK, eI] at hg2
      rw [eI] at w7 w8
      rw [eK, eI] at ihD
      clear hDy hKo hdy hget hsh hgwR hgw eK eI hbs3 hbal
      generalize hq : (rtK P G Ys rows (1 + D) E d).1 = q at *
      generalize hyy : dyY Ys rows (1 + D) d = Y at *
      obtain ⟨f1, f2, f3, f4, f5, f6, f7, f8, f9, f10, f11, f12, f13, f14, f15, f16⟩ := hX
      generalize grzK q Y E Y.length = AE at *
      obtain ⟨A, e⟩ := AE
      dsimp only at *
      refine GoesV.tree Γ_ok htb 1000 false false Try.func7 rfl rfl ?_
      ((try simp only [decide_eq_true_eq, decide_eq_false_iff_not, Bool.not_eq_true', Bool.not_eq_false', Bool.not_true, Bool.not_false, Bool.and_eq_true, Bool.or_eq_true, bne_iff_ne, beq_iff_eq, ne_eq]); (try simp only [rng, lo, hi, mnI, mxI, Int.toNat_natCast, Sg.n, Nat.mul_one, Nat.zero_add, Nat.add_zero, Nat.reduceAdd, List.getD_cons_zero, List.getD_cons_succ, eO, eY, hSd, hsd, f6, f7, f8, f9, bne_self_eq_false, beq_self_eq_true, Int.toNat_zero]))
      ((repeat' (first | (with_reducible apply And.intro) | intro _)); all_goals (first | exact trivial | (with_reducible assumption) | (show (_ : List Blk) = _; rfl) | (first | exact trivial | (with_reducible assumption) | omega | (split <;> omega) | (split <;> split <;> omega)) | skip); all_goals (try (refine ⟨rfl, (by first | exact Nat.le_refl _ | exact Nat.le_of_ble_eq_true rfl), rfl, rfl, ?_, (by repeat' (first | exact trivial | rfl | apply And.intro)), rfl, rfl⟩)))
      all_goals (try first | omega | contradiction | exact rfl)
      refine ⟨?_⟩
      have hA0 : A.getD 0 0 = P.getD 0 0 := f14 0 (by omega)
      have hA1 : A.getD 1 0 = P.getD 1 0 := f14 1 (by omega)
      have eG : GL G Y A (spotsY (P.getD 0 0).toNat (P.getD 1 0).toNat) = growP G Y A := by unfold GL growP spots; rw [hA0, hA1]
      rw [← eG] at ihD hg2 f16
      have hgA : ∀ l, (∀ s ∈ l, inG s) → GR (GL G Y A l) := fun l hl => (growK_ok (but := Y) hG f12 hl l.length (Nat.le_refl _)).1
      have sA := sumA_GR f12
      have hz : gw d + (sumA (GL G Y A (spotsY (P.getD 0 0).toNat 0)) 10 - sumA A 10) = gw d := by show gw d + (sumA A 10 - sumA A 10) = gw d; omega
      have hw10 : (P.getD 0 0).toNat ≤ 10 := by omega
      refine GoesV.loopR (fun y : Nat => (P.getD 1 0).toNat - y) (fun y => y ≤ (P.getD 1 0).toNat) (fun y => (.any :: .any :: .any :: .any :: .any :: .pw 0 .pas :: .pw 1 .gro :: .fz .spot Ys :: .any :: .any :: .fs .i64 rows :: .i .i64 (1 + D) :: .i .i64 E :: .i .i64 T :: .any :: .any :: .any :: .pw 2 .pas :: .fs .i64 S :: .any :: .any :: .any :: .fs .i64 SH :: .any :: .pw 3 .pas :: .i .i64 (sumI S d) :: .i .i64 (gw d + (sumA (GL G Y A (spotsY (P.getD 0 0).toNat y)) 10 - sumA A 10)) :: .i .i64 (d : Int) :: .fs .spot Y :: .pw 4 .pas :: .i .i64 e :: .any :: .pw 5 .pas :: .i .i8 (y : Int) :: .any :: .any :: .any :: .any :: .any :: .any :: .any :: .any :: .any :: .any :: .any :: []))
        (fun y => [.c .pas P, .c .gro G, .c .pas PF, .c .pas q, .c .pas A, .c .pas (GL G Y A (spotsY (P.getD 0 0).toNat y))]) 0 [0, 1, 2, 3, 4, 5] (Nat.zero_le _) ⟨rfl, rfl, rfl, (by repeat' (first | exact trivial | rfl | exact hz | apply And.intro)), (by repeat' (first | exact trivial | rfl | apply And.intro)), rfl, rfl, rfl⟩ fun y hy ihY => ?_
      by_cases hlty : (y : Int) < P.getD 1 0
      · have ihY := ihY (y + 1) (by omega) (by omega)
        clear ihD
        refine GoesV.tree Γ_ok htb 1000 false false Try.func7 rfl rfl ?_
        ((try simp only [decide_eq_true_eq, decide_eq_false_iff_not, Bool.not_eq_true', Bool.not_eq_false', Bool.not_true, Bool.not_false, Bool.and_eq_true, Bool.or_eq_true, bne_iff_ne, beq_iff_eq, ne_eq]); (try simp only [rng, lo, hi, mnI, mxI, Int.toNat_natCast, Sg.n, Nat.mul_one, Nat.zero_add, Nat.add_zero, Nat.reduceAdd, List.getD_cons_zero, List.getD_cons_succ]))
        ((repeat' (first | (with_reducible apply And.intro) | intro _)); all_goals (first | exact trivial | (with_reducible assumption) | (show (_ : List Blk) = _; rfl) | (first | exact trivial | (with_reducible assumption) | omega | (split <;> omega) | (split <;> split <;> omega)) | skip); all_goals (try (refine ⟨rfl, (by first | exact Nat.le_refl _ | exact Nat.le_of_ble_eq_true rfl), rfl, rfl, ?_, (by repeat' (first | exact trivial | rfl | apply And.intro)), rfl, rfl⟩)))
        all_goals (try first | omega | contradiction | exact rfl)
        refine ⟨?_⟩
        refine GoesV.loopR (fun x : Nat => (P.getD 0 0).toNat - x) (fun x => x ≤ (P.getD 0 0).toNat) (fun x => (.any :: .any :: .any :: .any :: .any :: .pw 0 .pas :: .pw 1 .gro :: .fz .spot Ys :: .any :: .any :: .fs .i64 rows :: .i .i64 (1 + D) :: .i .i64 E :: .i .i64 T :: .any :: .any :: .any :: .pw 2 .pas :: .fs .i64 S :: .any :: .any :: .any :: .fs .i64 SH :: .any :: .pw 3 .pas :: .i .i64 (sumI S d) :: .i .i64 (gw d + (sumA (GL G Y A (rowA (spotsY (P.getD 0 0).toNat y) y x)) 10 - sumA A 10)) :: .i .i64 (d : Int) :: .fs .spot Y :: .pw 4 .pas :: .i .i64 e :: .any :: .pw 5 .pas :: .i .i8 (y : Int) :: .i .i8 (x : Int) :: .any :: .any :: .any :: .any :: .any :: .any :: .any :: .any :: .any :: .any :: []))
          (fun x => [.c .pas P, .c .gro G, .c .pas PF, .c .pas q, .c .pas A, .c .pas (GL G Y A (rowA (spotsY (P.getD 0 0).toNat y) y x))]) 0 [0, 1, 2, 3, 4, 5] (Nat.zero_le _) ⟨rfl, rfl, rfl, (by repeat' (first | exact trivial | rfl | apply And.intro)), (by repeat' (first | exact trivial | rfl | apply And.intro)), rfl, rfl, rfl⟩ fun x hx ihX => ?_
        have hQ := hgA _ (rowA_in (w := (P.getD 0 0).toNat) (y := y) (x := x) hw10 (by omega) hx)
        have sQ := sumA_GR hQ
        by_cases hltx : (x : Int) < P.getD 0 0
        · have ihX := ihX (x + 1) (by omega) (by omega)
          have e1 := GL_row G Y A (spotsY (P.getD 0 0).toNat y) y x
          have hcell := GL_cell (g := G) (but := Y) (p := A) (w := (P.getD 0 0).toNat) (y := y) (x := x) hw10 (by omega)
          have hin : inG [(x : Int), (y : Int)] := by simp only [inG, List.getD_cons_zero, List.getD_cons_succ]; omega
          have hgx : gx [(x : Int), (y : Int)] = 2 + y * 10 + x := by simp only [gx, List.getD_cons_zero, List.getD_cons_succ, Int.toNat_natCast]
          have hv := f12.rng _ hin
          rw [hgx] at hv
          have hw := grown_ok hG hv.1 hv.2
          rw [e1] at ihX
          clear e1 ihY
          generalize GL G Y A (rowA (spotsY (P.getD 0 0).toNat y) y x) = Q at *
          have hsg := sumA_gx (s := [(x : Int), (y : Int)]) (v := grown G (A.getD (2 + y * 10 + x) 0)) hQ hin
          rw [hgx, hcell] at hsg
          have c1 : (if okG G ∧ 0 ≤ A.getD (2 + y * 10 + x) 0 ∧ A.getD (2 + y * 10 + x) 0 ≤ 1000 then grown G (A.getD (2 + y * 10 + x) 0) else 0) = grown G (A.getD (2 + y * 10 + x) 0) := if_pos ⟨hG, hv.1, hv.2⟩
          have c2 : (if okG G then (if 0 ≤ A.getD (2 + y * 10 + x) 0 ∧ A.getD (2 + y * 10 + x) 0 ≤ 1000 then (0 : Int) else 2) else 1) = 0 := by rw [if_pos hG, if_pos ⟨hv.1, hv.2⟩]
          have ehs : hasR Y [(x : Int), (y : Int)] = hspR Y [(x : Int), (y : Int)] := by
            unfold hasR hspR
            congr 1
            funext r
            unfold isR
            rw [decide_eq_decide]; exact eq_comm
          cases hh : hspR Y [(x : Int), (y : Int)]
          · have eg1 : grow1 G Y Q [(x : Int), (y : Int)] = Q.set (2 + y * 10 + x) (grown G (A.getD (2 + y * 10 + x) 0)) := by
              rw [grow1, ehs, hh, if_neg (by decide), hgx, hcell]
            rw [eg1] at ihX
            have hsum : gw d + (sumA (Q.set (2 + y * 10 + x) (grown G (A.getD (2 + y * 10 + x) 0))) 10 - sumA A 10) = gw d + (sumA Q 10 - sumA A 10) + (grown G (A.getD (2 + y * 10 + x) 0) - A.getD (2 + y * 10 + x) 0) := by omega
            refine GoesV.tree Γ_ok htb 1000 false false Try.func7 rfl rfl ?_
            ((try simp only [decide_eq_true_eq, decide_eq_false_iff_not, Bool.not_eq_true', Bool.not_eq_false', Bool.not_true, Bool.not_false, Bool.and_eq_true, Bool.or_eq_true, bne_iff_ne, beq_iff_eq, ne_eq]); (try simp only [rng, lo, hi, mnI, mxI, Int.toNat_natCast, Sg.n, Nat.mul_one, Nat.zero_add, Nat.add_zero, Nat.reduceAdd, List.getD_cons_zero, List.getD_cons_succ, hh, c1, c2]))
            ((repeat' (first | (with_reducible apply And.intro) | intro _)); all_goals (first | exact trivial | (with_reducible assumption) | (show (_ : List Blk) = _; rfl) | (first | exact trivial | (with_reducible assumption) | omega | (split <;> omega) | (split <;> split <;> omega)) | skip); all_goals (try (refine ⟨rfl, (by first | exact Nat.le_refl _ | exact Nat.le_of_ble_eq_true rfl), rfl, rfl, ?_, (by repeat' (first | exact trivial | rfl | apply And.intro)), rfl, rfl⟩)))
            all_goals (try first | omega | contradiction | exact rfl)
            all_goals (try exact ⟨ihX [0, 1, 2, 3, 4, 5] _ _ ⟨rfl, rfl, rfl, (by repeat' (first | exact trivial | rfl | exact hsum | apply And.intro)), (by repeat' (first | exact trivial | rfl | apply And.intro)), rfl, rfl, rfl⟩⟩)
          · have eg1 : grow1 G Y Q [(x : Int), (y : Int)] = Q := by rw [grow1, ehs, hh, if_pos rfl]
            rw [eg1] at ihX
            refine GoesV.tree Γ_ok htb 1000 false false Try.func7 rfl rfl ?_
            ((try simp only [decide_eq_true_eq, decide_eq_false_iff_not, Bool.not_eq_true', Bool.not_eq_false', Bool.not_true, Bool.not_false, Bool.and_eq_true, Bool.or_eq_true, bne_iff_ne, beq_iff_eq, ne_eq]); (try simp only [rng, lo, hi, mnI, mxI, Int.toNat_natCast, Sg.n, Nat.mul_one, Nat.zero_add, Nat.add_zero, Nat.reduceAdd, List.getD_cons_zero, List.getD_cons_succ, hh]))
            ((repeat' (first | (with_reducible apply And.intro) | intro _)); all_goals (first | exact trivial | (with_reducible assumption) | (show (_ : List Blk) = _; rfl) | (first | exact trivial | (with_reducible assumption) | omega | (split <;> omega) | (split <;> split <;> omega)) | skip); all_goals (try (refine ⟨rfl, (by first | exact Nat.le_refl _ | exact Nat.le_of_ble_eq_true rfl), rfl, rfl, ?_, (by repeat' (first | exact trivial | rfl | apply And.intro)), rfl, rfl⟩)))
            all_goals (try first | omega | contradiction | exact rfl)
            all_goals (try exact ⟨ihX [0, 1, 2, 3, 4, 5] _ _ ⟨rfl, rfl, rfl, (by repeat' (first | exact trivial | rfl | apply And.intro)), (by repeat' (first | exact trivial | rfl | apply And.intro)), rfl, rfl, rfl⟩⟩)
        · obtain rfl : x = (P.getD 0 0).toNat := by omega
          clear ihX
          refine GoesV.tree Γ_ok htb 1000 false false Try.func7 rfl rfl ?_
          ((try simp only [decide_eq_true_eq, decide_eq_false_iff_not, Bool.not_eq_true', Bool.not_eq_false', Bool.not_true, Bool.not_false, Bool.and_eq_true, Bool.or_eq_true, bne_iff_ne, beq_iff_eq, ne_eq]); (try simp only [rng, lo, hi, mnI, mxI, Int.toNat_natCast, Sg.n, Nat.mul_one, Nat.zero_add, Nat.add_zero, Nat.reduceAdd, List.getD_cons_zero, List.getD_cons_succ]))
          ((repeat' (first | (with_reducible apply And.intro) | intro _)); all_goals (first | exact trivial | (with_reducible assumption) | (show (_ : List Blk) = _; rfl) | (first | exact trivial | (with_reducible assumption) | omega | (split <;> omega) | (split <;> split <;> omega)) | skip); all_goals (try (refine ⟨rfl, (by first | exact Nat.le_refl _ | exact Nat.le_of_ble_eq_true rfl), rfl, rfl, ?_, (by repeat' (first | exact trivial | rfl | apply And.intro)), rfl, rfl⟩)))
          all_goals (try first | omega | contradiction | exact rfl)
          all_goals (try exact ⟨ihY [0, 1, 2, 3, 4, 5] _ _ ⟨rfl, rfl, rfl, (by repeat' (first | exact trivial | rfl | apply And.intro)), (by repeat' (first | exact trivial | rfl | apply And.intro)), rfl, rfl, rfl⟩⟩)
      · obtain rfl : y = (P.getD 1 0).toNat := by omega
        clear ihY
        have hfin : gw (d + 1) = gw d + (sumA (GL G Y A (spotsY (P.getD 0 0).toNat (P.getD 1 0).toNat)) 10 - sumA A 10) := by omega
        refine GoesV.tree Γ_ok htb 1000 false false Try.func7 rfl rfl ?_
        ((try simp only [decide_eq_true_eq, decide_eq_false_iff_not, Bool.not_eq_true', Bool.not_eq_false', Bool.not_true, Bool.not_false, Bool.and_eq_true, Bool.or_eq_true, bne_iff_ne, beq_iff_eq, ne_eq]); (try simp only [rng, lo, hi, mnI, mxI, Int.toNat_natCast, Sg.n, Nat.mul_one, Nat.zero_add, Nat.add_zero, Nat.reduceAdd, List.getD_cons_zero, List.getD_cons_succ]))
        ((repeat' (first | (with_reducible apply And.intro) | intro _)); all_goals (first | exact trivial | (with_reducible assumption) | (show (_ : List Blk) = _; rfl) | (first | exact trivial | (with_reducible assumption) | omega | (split <;> omega) | (split <;> split <;> omega)) | skip); all_goals (try (refine ⟨rfl, (by first | exact Nat.le_refl _ | exact Nat.le_of_ble_eq_true rfl), rfl, rfl, ?_, (by repeat' (first | exact trivial | rfl | apply And.intro)), rfl, rfl⟩)))
        all_goals (try first | omega | contradiction | exact rfl)
        all_goals (try exact ⟨ihD [0, 1, 2, 3] _ _ ⟨rfl, rfl, rfl, (by repeat' (first | exact trivial | rfl | exact hfin | apply And.intro)), (by repeat' (first | exact trivial | rfl | apply And.intro)), rfl, rfl, rfl⟩⟩)
    · obtain rfl : d = T.toNat := by omega
      clear ihD
      have hb0 := hbal (g := gw T.toNat) (e := sumI S T.toNat) ⟨w1, by omega⟩ ⟨w3, by omega⟩
      have hgT := hgw T.toNat
      rw [hPP] at hgT
      rw [hPP]
      refine GoesV.tree Γ_ok htb 1000 false false Try.func7 rfl rfl ?_
      ((try simp only [decide_eq_true_eq, decide_eq_false_iff_not, Bool.not_eq_true', Bool.not_eq_false', Bool.not_true, Bool.not_false, Bool.and_eq_true, Bool.or_eq_true, bne_iff_ne, beq_iff_eq, ne_eq]); (try simp only [rng, lo, hi, mnI, mxI, Int.toNat_natCast, Sg.n, Nat.mul_one, Nat.zero_add, Nat.add_zero, Nat.reduceAdd, List.getD_cons_zero, List.getD_cons_succ, hb0, hcode1, if_true]))
      ((repeat' (first | (with_reducible apply And.intro) | intro _)); all_goals (first | exact trivial | (with_reducible assumption) | (show (_ : List Blk) = _; rfl) | (first | exact trivial | (with_reducible assumption) | omega | (split <;> omega) | (split <;> split <;> omega)) | skip); all_goals (try (refine ⟨rfl, (by first | exact Nat.le_refl _ | exact Nat.le_of_ble_eq_true rfl), rfl, rfl, ?_, (by repeat' (first | exact trivial | rfl | apply And.intro)), rfl, rfl⟩)))
      all_goals (try first | omega | contradiction | exact rfl)
      all_goals (try (show (true : Bool) = _; exact (decide_eq_true hbs2).symm))
theorem l_Rotated (x0 x1 : List (List Int)) : SpecOK Try.prog 7 [.fs .u8 x0, .fs .u8 x1] [] (.d true) [] := l_RotatedB x0 x1
end Go.Proofs.Ytgogccconmlkiaa

namespace Go.Proofs.Ytgogccconmlkiaa.fnRotated
open Go Go.Eng Go.ChangeShapes Go.WideShapes Go.ChangeAt Go.RowKit
theorem own : ownKnob Try.prog.godebug = none := by kernel_rfl
theorem laidOut : laidOutB Try.prog = true := by kernel_rfl
set_option maxRecDepth 100000 in
theorem lifted (os : Os) (started : os.Started) (H : Type) (enc : TypeId × Value → H) :
    ReturnsInHanded {} Try.checked os 7 .any (Rows.fnRotatedSpec.pre6 enc Try.prog Try.f7 Rows.fnRotatedRow.domain false) (Rows.fnRotatedSpec.post enc Try.prog Try.f7 false true false false) := by
  refine returnsInHanded_of_change_sized (C := Try.checked) own started (by kernel_rfl) Try.func7
    (ChangeSpec.witness6 (enc := enc) (C := Try.checked) false ⟨#[], #[.slice none 0 0, .slice none 0 0], []⟩ 8 (by kernel_rfl) (by kernel_rfl) (by kernel_rfl) (by kernel_rfl)) ?_
  intro W base args ds gs before hval0 hW hcnd hsz0 _
  have hval : ∀ (j : Nat) t v, Try.f7.params[j]? = some t → args[j]? = some v → Value.okWide Try.prog W .any base t v := hval0
  have hW' := hW
  obtain ⟨p, q, hA0, hV, rfl, hfz, hnd⟩ := hW
  have hA : DataW.TrodAll enc Try.prog W 0 (fun _ => true) true Try.f7.params.toList args.toList ds p := hA0
  rw [Try.params7] at hA hval
  obtain ⟨v0, vs0, d0, ds0, p0, q0, hargs, rfl, rfl, h0, r0⟩ := trodAll_cons hA
  obtain ⟨v1, vs1, d1, ds1, p1, q1, rfl, rfl, rfl, h1, r1⟩ := trodAll_cons r0
  obtain ⟨rfl, rfl, rfl⟩ := trodAll_nil r1
  obtain rfl : args = #[v0, v1] := by cases args; simp_all
  obtain ⟨rfl, rfl⟩ := trodVars_none hV
  obtain ⟨x0, g0, m0⟩ := open_rows Γ_ok (σ := .u8) Try.underlying59 rfl rfl (by decide) (hval 0 _ v0 rfl rfl) h0
  have z0 := trod_lt' h0
  obtain ⟨x1, g1, m1⟩ := open_rows Γ_ok (σ := .u8) Try.underlying59 rfl rfl (by decide) (hval 1 _ v1 rfl rfl) h1
  have z1 := trod_lt' h1

  clear hA0 hval0 hsz0
  refine (l_Rotated x0 x1 ⟨fun _ => ⟨0, 0, 0, .none, 0⟩, fun k => W.heap[k]?, globW W⟩ [v0, v1] W ⟨den_fs g0 rfl, den_fs g1 rfl, trivial⟩ (mrel_nil fun _ _ h => h) (fun x hx i hi => (by simp at hx; rcases hx with rfl | rfl <;> cases hi))).mono fun e W' ⟨v, ρ', he, hv, hAft, _⟩ => ?_
  subst he
  obtain rfl : v = .bool true := hv
  have bel := hAft.below
  have t0 := Below.trod laidOut (by kernel_rfl) (by decide +kernel) h0 bel z0
  have t1 := Below.trod laidOut (by kernel_rfl) (by decide +kernel) h1 bel z1
  exact ⟨_, rfl, _, _, _, [], _, [], hW', trodAll_mk1 (shut_bool Try.underlying4 _), (trodAll_cons_mk t0 (trodAll_cons_mk t1 trodAll_mk0)), rfl, bel.frame _, fun h => (by cases h)⟩
theorem and_t {a b : Bool} (h : a = true) (h' : b = true) : (a && b) = true := by rw [h, h']; rfl
set_option maxHeartbeats 4000000 in
theorem facts : joinedFacts Try.pinned.checked.prog 7 Try.f7 Rows.fnRotatedSpec Rows.fnRotatedRow = true := by
  unfold joinedFacts
  repeat' (with_reducible apply and_t)
  all_goals (as_aux_lemma => kernel_rfl)
theorem over : Rows.fnRotatedRow.holds Try.pinned (OpenSpec.ofChange Rows.fnRotatedSpec) :=
  OpenClaim.holds_of_wide 7 Try.f7 rfl rfl rfl rfl rfl rfl rfl ⟨rfl, rfl, rfl, rfl, rfl⟩ rfl rfl rfl rfl rfl (by kernel_rfl) Try.func7 facts
    (of_decide_eq_true (by kernel_rfl)) (by unfold Func.isWrapper; first | (rw [if_pos (by decide +kernel)]; kernel_rfl) | (rw [if_neg (by decide +kernel)]; exact ⟨rfl, rfl⟩))
    (fun os started H enc _ => lifted os started H enc)
end Go.Proofs.Ytgogccconmlkiaa.fnRotated
namespace Go.Proofs.Ytgogccconmlkiaa
theorem fnRotated_holds : Rows.FnRotatedSaid := fnRotated.over
#print axioms fnRotated_holds
end Go.Proofs.Ytgogccconmlkiaa

