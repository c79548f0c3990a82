/- How many gates: the spec. -/
import Derived.Test.YtfelemoefhbphaaGateW
namespace Go.Proofs.Ytfelemoefhbphaa
open Go Go.Eng
set_option linter.unusedSimpArgs false
set_option linter.unusedVariables false
set_option maxRecDepth 100000
set_option maxHeartbeats 4000000

noncomputable def gateFS : Fun
  | [.ag .pas p, .ag .spot a, .ag .spot b], [] => some (.t2 (.i .i64 (if codeP p [a, b] = 0 then (gN p a b : Int) else 0)) (.i .i64 (codeP p [a, b])), [], [])
  | _, _ => .none
set_option maxRecDepth 100000 in
theorem s_specGates : Sound Try.prog 52 gateFS := by
  intro args M r M' vs h hvs
  unfold gateFS at h
  split at h
  case h_2 => cases h
  rename_i p a b
  cases h
  refine SpecOK.assume fun hA hM => ?_
  have htb := (TbOk.cons s_l01Asked Try.func54 rfl rfl (TbOk.cons s_l01Is Try.func77 rfl rfl (TbOk.cons s_l01Yard Try.func55 rfl rfl (TbOk.cons s_l01Mask Try.func98 rfl rfl (TbOk.cons s_l01Next Try.func99 rfl rfl (TbOk.cons s_l03Filled Try.func104 rfl rfl (TbOk.nil : TbOk Try.prog tb0)))))))
  refine SpecOK.of_goes [] Try.func52 rfl ?_
  have la : a.length = 2 := hA.2.2.1
  have lb : b.length = 2 := hA.2.2.2.2.1
  have hok := fun h => codeP_pair (p := p) (a := a) (b := b) h
  have heq := codeP_asked p a b
  clear hA hM
  have hyc := fun h => yard_cells (p := p) (s := a) (hok h).1
  have hyl : codeP p [a, b] = 0 → (yardR p a).length ≤ 100 := fun h => by
    obtain ⟨⟨w1, w2, h1, h2⟩, -⟩ := hok h
    have := spotsF_len (inT (m1 (bfsD p [a]))) (p.getD 0 0).toNat (p.getD 1 0).toNat
    have hm : (p.getD 0 0).toNat * (p.getD 1 0).toNat ≤ 10 * 10 := Nat.mul_le_mul (by omega) (by omega)
    unfold yardR; omega
  refine Goes.tree Γ_ok htb 1000 false false Try.func52 rfl ?_
  ((try simp only [decide_eq_true_eq, decide_eq_false_iff_not, Bool.not_eq_true', Bool.not_eq_false', Bool.not_true, Bool.not_false, Bool.and_eq_true, Bool.or_eq_true, bne_iff_ne, beq_iff_eq, ne_eq]); (try simp only [rng, lo, hi, mnI, mxI, Int.toNat_natCast, Sg.n, Nat.mul_one, Nat.zero_add, Nat.add_zero, Nat.reduceAdd, List.getD_cons_zero, List.getD_cons_succ]))
  rw [heq]
  ((repeat' (first | (with_reducible apply And.intro) | intro _)); all_goals (first | exact trivial | (with_reducible assumption) | (show (_ : List Blk) = _; rfl) | (first | exact trivial | (with_reducible assumption) | omega | (split <;> omega) | (split <;> split <;> omega)) | skip); all_goals (try (refine ⟨rfl, (by first | exact Nat.le_refl _ | exact Nat.le_of_ble_eq_true rfl), rfl, rfl, ?_, (by repeat' (first | exact trivial | rfl | apply And.intro)), rfl, rfl⟩)))
  all_goals (try first | exact (hok (by assumption)).1 | exact (hok (by assumption)).2.1 | exact inG_of' (hok (by assumption)).1 (hyc (by assumption) _ (by assumption)).1 | (have := hyl (by assumption); omega))
  · rename_i h
    refine sameA_t2 ?_ rfl
    rw [if_neg h]
  rename_i h
  rw [if_pos h, h]
  obtain ⟨hd, ha, hb⟩ := hok h
  have ca : cellP p a := ⟨ha, la⟩
  have cb : cellP p b := ⟨hb, lb⟩
  have hgb := inG_of' hd hb
  have hgl := fun k => (gT_ok hd ca k).1
  clear hok hyc hyl heq h
  have hgw : ∀ w, (p.getD 0 0).toNat = w → gT p a = gT p a := fun _ _ => rfl
  unfold inG at hgb
  have hd' := hd
  obtain ⟨w1, w2, h1, h2⟩ := hd'
  refine ⟨?_⟩
  refine Goes.loopR (fun k : Nat => 20 - k) (fun k => ∀ i, i < k → (gT p a i).getD (cx b) 0 = 0) (fun k => (.any :: .any :: .any :: .pw 0 .pas :: .pw 1 .spot :: .pw 2 .spot :: .any :: .any :: .any :: .pw 3 .bgrid :: .i .i64 (k : Int) :: .any :: .any :: .any :: .any :: .any :: .any :: .any :: .any :: .any :: .any :: .any :: .any :: .any :: .any :: .any :: .any :: .any :: .any :: .any :: .any :: .any :: .any :: .any :: .any :: .any :: .any :: .any :: .any :: .any :: .any :: .any :: .any :: .any :: .any :: .any :: .any :: .any :: .any :: .any :: .any :: .any :: .any :: .any :: .any :: .any :: .any :: .any :: .any :: .any :: .any :: .any :: .any :: .any :: .any :: .any :: .any :: .any :: .any :: .any :: .any :: .any :: .any :: .any :: .any :: []))
    (fun k => [.c .pas p, .c .spot a, .c .spot b, .c .bgrid (gT p a k)]) 0 [0, 1, 2, 3] (fun i hi => by omega) ⟨rfl, rfl, rfl, (by repeat' (first | exact trivial | rfl | apply And.intro)), (by repeat' (first | exact trivial | rfl | apply And.intro)), rfl, rfl, rfl⟩ fun k hk ihO => ?_
  have hk18 := g_bound hd ca cb hk
  have hcx : cx b = (b.getD 1 0).toNat * 10 + (b.getD 0 0).toNat := rfl
  by_cases hz : (gT p a k).getD (cx b) 0 = 0
  · have ek : gT p a (k + 1) = filT p (nxtT p (gT p a k)) := rfl
    have ihO := ihO (k + 1) (fun i hi => by
      rcases Nat.lt_or_ge i k with h | h
      · exact hk i h
      · rw [show i = k by omega]; exact hz)
    rw [ek] at ihO
    have hIl := hgl k
    unfold nxtT at ihO
    generalize gT p a k = I at *
    generalize hwn : (p.getD 0 0).toNat = w at *
    rw [hcx] at hz
    refine Goes.tree Γ_ok htb 1000 false false Try.func52 rfl ?_
    ((try simp only [decide_eq_true_eq, decide_eq_false_iff_not, Bool.not_eq_true', Bool.not_eq_false', Bool.not_true, Bool.not_false, Bool.and_eq_true, Bool.or_eq_true, bne_iff_ne, beq_iff_eq, ne_eq]); (try simp only [rng, lo, hi, mnI, mxI, Int.toNat_natCast, Sg.n, Nat.mul_one, Nat.zero_add, Nat.add_zero, Nat.reduceAdd, List.getD_cons_zero, List.getD_cons_succ]))
    ((repeat' (first | (with_reducible apply And.intro) | intro _)); all_goals (first | exact trivial | (with_reducible assumption) | (show (_ : List Blk) = _; rfl) | (first | exact trivial | (with_reducible assumption) | omega | (split <;> omega) | (split <;> split <;> omega)) | skip); all_goals (try (refine ⟨rfl, (by first | exact Nat.le_refl _ | exact Nat.le_of_ble_eq_true rfl), rfl, rfl, ?_, (by repeat' (first | exact trivial | rfl | apply And.intro)), rfl, rfl⟩)))
    all_goals (try first | omega | contradiction)
    refine ⟨?_⟩
    refine Goes.loopR (fun y : Nat => (p.getD 1 0).toNat - y) (fun y => y ≤ (p.getD 1 0).toNat) (fun y => (.any :: .any :: .any :: .pw 0 .pas :: .pw 1 .spot :: .pw 2 .spot :: .any :: .any :: .any :: .pw 3 .bgrid :: .i .i64 (k : Int) :: .pw 4 .bgrid :: .i .i8 (y : Int) :: .any :: .any :: .any :: .any :: .any :: .any :: .any :: .any :: .any :: .any :: .any :: .any :: .any :: .any :: .any :: .any :: .any :: .any :: .any :: .any :: .any :: .any :: .any :: .any :: .any :: .any :: .any :: .any :: .any :: .any :: .any :: .any :: .any :: .any :: .any :: .any :: .any :: .any :: .any :: .any :: .any :: .any :: .any :: .any :: .any :: .any :: .any :: .any :: .any :: .any :: .any :: .any :: .any :: .any :: .any :: .any :: .any :: .any :: .any :: .any :: .any :: .any :: []))
      (fun y => [.c .pas p, .c .spot a, .c .spot b, .c .bgrid I, .c .bgrid (nxY p I w y)]) 0 [0, 1, 2, 3, 4] (Nat.zero_le _) ⟨rfl, rfl, rfl, (by repeat' (first | exact trivial | rfl | apply And.intro)), (by repeat' (first | exact trivial | rfl | apply And.intro)), rfl, rfl, rfl⟩ fun y hy ihY => ?_
    have hyl := nxY_len p I w y
    by_cases hlt : y < (p.getD 1 0).toNat
    · have ey : nxY p I w (y + 1) = nxX p I (nxY p I w y) y w := rfl
      have ihY := ihY (y + 1)
      rw [ey] at ihY
      generalize nxY p I w y = N at *
      refine Goes.tree Γ_ok htb 1000 false false Try.func52 rfl ?_
      ((try simp only [decide_eq_true_eq, decide_eq_false_iff_not, Bool.not_eq_true', Bool.not_eq_false', Bool.not_true, Bool.not_false, Bool.and_eq_true, Bool.or_eq_true, bne_iff_ne, beq_iff_eq, ne_eq]); (try simp only [rng, lo, hi, mnI, mxI, Int.toNat_natCast, Sg.n, Nat.mul_one, Nat.zero_add, Nat.add_zero, Nat.reduceAdd, List.getD_cons_zero, List.getD_cons_succ]))
      ((repeat' (first | (with_reducible apply And.intro) | intro _)); all_goals (first | exact trivial | (with_reducible assumption) | (show (_ : List Blk) = _; rfl) | (first | exact trivial | (with_reducible assumption) | omega | (split <;> omega) | (split <;> split <;> omega)) | skip); all_goals (try (refine ⟨rfl, (by first | exact Nat.le_refl _ | exact Nat.le_of_ble_eq_true rfl), rfl, rfl, ?_, (by repeat' (first | exact trivial | rfl | apply And.intro)), rfl, rfl⟩)))
      all_goals (try first | omega | contradiction)
      refine ⟨?_⟩
      refine Goes.loopR (fun x : Nat => w - x) (fun x => x ≤ w) (fun x => (.any :: .any :: .any :: .pw 0 .pas :: .pw 1 .spot :: .pw 2 .spot :: .any :: .any :: .any :: .pw 3 .bgrid :: .i .i64 (k : Int) :: .pw 4 .bgrid :: .i .i8 (y : Int) :: .i .i8 (x : Int) :: .any :: .any :: .any :: .any :: .any :: .any :: .any :: .any :: .any :: .any :: .any :: .any :: .any :: .any :: .any :: .any :: .any :: .any :: .any :: .any :: .any :: .any :: .any :: .any :: .any :: .any :: .any :: .any :: .any :: .any :: .any :: .any :: .any :: .any :: .any :: .any :: .any :: .any :: .any :: .any :: .any :: .any :: .any :: .any :: .any :: .any :: .any :: .any :: .any :: .any :: .any :: .any :: .any :: .any :: .any :: .any :: .any :: .any :: .any :: .any :: .any :: []))
        (fun x => [.c .pas p, .c .spot a, .c .spot b, .c .bgrid I, .c .bgrid (nxX p I N y x)]) 0 [0, 1, 2, 3, 4] (Nat.zero_le _) ⟨rfl, rfl, rfl, (by repeat' (first | exact trivial | rfl | apply And.intro)), (by repeat' (first | exact trivial | rfl | apply And.intro)), rfl, rfl, rfl⟩ fun x hx ihX => ?_
      have hxl := nxX_len p I N y x
      by_cases hltx : x < w
      · have ex : nxX p I N y (x + 1) = if (I.getD (cx [(x : Int), (y : Int)]) 0 != 0) = true then nxD p [(x : Int), (y : Int)] (nxX p I N y x) 4 else nxX p I N y x := rfl
        rw [cx_nat] at ex
        have ihX := ihX (x + 1)
        rw [ex] at ihX
        clear ex
        have hcp : isP p [(x : Int), (y : Int)] = true := by unfold isP; rw [decide_eq_true_eq]; simp only [List.getD_cons_zero, List.getD_cons_succ]; omega
        have hcn := near_of hd hcp
        have hin2 : ∀ d : Int, isP p (ahead [(x : Int), (y : Int)] d) = true → inG (ahead [(x : Int), (y : Int)] d) := fun d h => inG_of' hd h
        unfold inG at hin2
        generalize nxX p I N y x = R at *
        refine Goes.tree Γ_ok htb 1000 false false Try.func52 rfl ?_
        ((try simp only [decide_eq_true_eq, decide_eq_false_iff_not, Bool.not_eq_true', Bool.not_eq_false', Bool.not_true, Bool.not_false, Bool.and_eq_true, Bool.or_eq_true, bne_iff_ne, beq_iff_eq, ne_eq]); (try simp only [rng, lo, hi, mnI, mxI, Int.toNat_natCast, Sg.n, Nat.mul_one, Nat.zero_add, Nat.add_zero, Nat.reduceAdd, List.getD_cons_zero, List.getD_cons_succ]))
        ((repeat' (first | (with_reducible apply And.intro) | intro _)); all_goals (first | exact trivial | (with_reducible assumption) | (show (_ : List Blk) = _; rfl) | (first | exact trivial | (with_reducible assumption) | omega | (split <;> omega) | (split <;> split <;> omega)) | skip); all_goals (try (refine ⟨rfl, (by first | exact Nat.le_refl _ | exact Nat.le_of_ble_eq_true rfl), rfl, rfl, ?_, (by repeat' (first | exact trivial | rfl | apply And.intro)), rfl, rfl⟩)))
        all_goals (try first | omega | contradiction)
        refine ⟨?_⟩
        refine Goes.loopR (fun d : Nat => 4 - d) (fun d => d ≤ 4 ∧ ((I.getD (y * 10 + x) 0 != 0) = false → d = 0)) (fun d => (.any :: .any :: .any :: .pw 0 .pas :: .pw 1 .spot :: .pw 2 .spot :: .any :: .any :: .any :: .pw 3 .bgrid :: .i .i64 (k : Int) :: .pw 4 .bgrid :: .i .i8 (y : Int) :: .i .i8 (x : Int) :: .i .i64 (d : Int) :: .any :: .any :: .any :: .any :: .any :: .any :: .any :: .any :: .any :: .any :: .any :: .any :: .any :: .any :: .any :: .any :: .any :: .any :: .any :: .any :: .any :: .any :: .any :: .any :: .any :: .any :: .any :: .any :: .any :: .any :: .any :: .any :: .any :: .any :: .any :: .any :: .any :: .any :: .any :: .any :: .any :: .any :: .any :: .any :: .any :: .any :: .any :: .any :: .any :: .any :: .any :: .any :: .any :: .any :: .any :: .any :: .any :: .any :: .any :: .any :: []))
          (fun d => [.c .pas p, .c .spot a, .c .spot b, .c .bgrid I, .c .bgrid (nxD p [(x : Int), (y : Int)] R d)]) 0 [0, 1, 2, 3, 4] ⟨by omega, fun _ => rfl⟩ ⟨rfl, rfl, rfl, (by repeat' (first | exact trivial | rfl | apply And.intro)), (by repeat' (first | exact trivial | rfl | apply And.intro)), rfl, rfl, rfl⟩ fun d hd4 ih => ?_
        obtain ⟨hd4, hdz⟩ := hd4
        have hdl := nxD_len p [(x : Int), (y : Int)] R d
        have hyes : isP p (ahead [(x : Int), (y : Int)] d) = true → nxD p [(x : Int), (y : Int)] R (d + 1) = (nxD p [(x : Int), (y : Int)] R d).set (cx (ahead [(x : Int), (y : Int)] d)) 1 := fun h => if_pos h
        have hno : ¬ isP p (ahead [(x : Int), (y : Int)] d) = true → nxD p [(x : Int), (y : Int)] R (d + 1) = nxD p [(x : Int), (y : Int)] R d := fun h => if_neg h
        have hin2 := hin2 d
        unfold cx at hyes
        by_cases hc : (I.getD (y * 10 + x) 0 != 0) = true ∧ d < 4
        · have hne : I.getD (y * 10 + x) 0 ≠ 0 := by simpa using hc.1
          refine Goes.tree Γ_ok htb 1000 false false Try.func52 rfl ?_
          ((try simp only [decide_eq_true_eq, decide_eq_false_iff_not, Bool.not_eq_true', Bool.not_eq_false', Bool.not_true, Bool.not_false, Bool.and_eq_true, Bool.or_eq_true, bne_iff_ne, beq_iff_eq, ne_eq]); (try simp only [rng, lo, hi, mnI, mxI, Int.toNat_natCast, Sg.n, Nat.mul_one, Nat.zero_add, Nat.add_zero, Nat.reduceAdd, List.getD_cons_zero, List.getD_cons_succ, if_true]))
          ((repeat' (first | (with_reducible apply And.intro) | intro _)); all_goals (first | exact trivial | (with_reducible assumption) | (show (_ : List Blk) = _; rfl) | (first | exact trivial | (with_reducible assumption) | omega | (split <;> omega) | (split <;> split <;> omega)) | skip); all_goals (try (refine ⟨rfl, (by first | exact Nat.le_refl _ | exact Nat.le_of_ble_eq_true rfl), rfl, rfl, ?_, (by repeat' (first | exact trivial | rfl | apply And.intro)), rfl, rfl⟩)))
          all_goals (try first | omega | contradiction | exact hcn | exact (hin2 (by assumption)).1 | exact (hin2 (by assumption)).2.1 | exact (hin2 (by assumption)).2.2.1 | exact (hin2 (by assumption)).2.2.2)
          · refine ⟨ih (d + 1) ⟨by omega, fun h => by rw [hc.1] at h; cases h⟩ (by omega) [0, 1, 2, 3, 4] _ _ ?_⟩
            rw [hyes (by assumption)]
            exact ⟨rfl, rfl, rfl, (by repeat' (first | exact trivial | rfl | apply And.intro)), (by repeat' (first | exact trivial | rfl | apply And.intro)), rfl, rfl, rfl⟩
          · rename_i h
            refine ⟨ih (d + 1) ⟨by omega, fun h => by rw [hc.1] at h; cases h⟩ (by omega) [0, 1, 2, 3, 4] _ _ ?_⟩
            rw [hno (by rw [h]; decide)]
            exact ⟨rfl, rfl, rfl, (by repeat' (first | exact trivial | rfl | apply And.intro)), (by repeat' (first | exact trivial | rfl | apply And.intro)), rfl, rfl, rfl⟩
          · rename_i h
            exact absurd (by simpa using h) hne
        · by_cases hI : (I.getD (y * 10 + x) 0 != 0) = true
          · have hd4' : d = 4 := by
              rcases Nat.lt_or_ge d 4 with h | h
              · exact absurd ⟨hI, h⟩ hc
              · omega
            subst hd4'
            rw [if_pos hI] at ihX
            refine Goes.tree Γ_ok htb 1000 false false Try.func52 rfl ?_
            ((try simp only [decide_eq_true_eq, decide_eq_false_iff_not, Bool.not_eq_true', Bool.not_eq_false', Bool.not_true, Bool.not_false, Bool.and_eq_true, Bool.or_eq_true, bne_iff_ne, beq_iff_eq, ne_eq]); (try simp only [rng, lo, hi, mnI, mxI, Int.toNat_natCast, Sg.n, Nat.mul_one, Nat.zero_add, Nat.add_zero, Nat.reduceAdd, List.getD_cons_zero, List.getD_cons_succ]))
            ((repeat' (first | (with_reducible apply And.intro) | intro _)); all_goals (first | exact trivial | (with_reducible assumption) | (show (_ : List Blk) = _; rfl) | (first | exact trivial | (with_reducible assumption) | omega | (split <;> omega) | (split <;> split <;> omega)) | skip); all_goals (try (refine ⟨rfl, (by first | exact Nat.le_refl _ | exact Nat.le_of_ble_eq_true rfl), rfl, rfl, ?_, (by repeat' (first | exact trivial | rfl | apply And.intro)), rfl, rfl⟩)))
            all_goals (try first | omega | contradiction)
            all_goals (first | exact ⟨ihX (by omega) (by omega) [0, 1, 2, 3, 4] _ _ ⟨rfl, rfl, rfl, (by repeat' (first | exact trivial | rfl | apply And.intro)), (by repeat' (first | exact trivial | rfl | apply And.intro)), rfl, rfl, rfl⟩⟩ | trace_state)
          · have hd0 := hdz (by simpa using hI)
            subst hd0
            rw [if_neg hI] at ihX
            have hI0 : I.getD (y * 10 + x) 0 = 0 := by simpa using hI
            refine Goes.tree Γ_ok htb 1000 false false Try.func52 rfl ?_
            ((try simp only [decide_eq_true_eq, decide_eq_false_iff_not, Bool.not_eq_true', Bool.not_eq_false', Bool.not_true, Bool.not_false, Bool.and_eq_true, Bool.or_eq_true, bne_iff_ne, beq_iff_eq, ne_eq]); (try simp only [rng, lo, hi, mnI, mxI, Int.toNat_natCast, Sg.n, Nat.mul_one, Nat.zero_add, Nat.add_zero, Nat.reduceAdd, List.getD_cons_zero, List.getD_cons_succ]))
            ((repeat' (first | (with_reducible apply And.intro) | intro _)); all_goals (first | exact trivial | (with_reducible assumption) | (show (_ : List Blk) = _; rfl) | (first | exact trivial | (with_reducible assumption) | omega | (split <;> omega) | (split <;> split <;> omega)) | skip); all_goals (try (refine ⟨rfl, (by first | exact Nat.le_refl _ | exact Nat.le_of_ble_eq_true rfl), rfl, rfl, ?_, (by repeat' (first | exact trivial | rfl | apply And.intro)), rfl, rfl⟩)))
            all_goals (try first | omega | contradiction)
            all_goals (first | exact ⟨ihX (by omega) (by omega) [0, 1, 2, 3, 4] _ _ ⟨rfl, rfl, rfl, (by repeat' (first | exact trivial | rfl | apply And.intro)), (by repeat' (first | exact trivial | rfl | apply And.intro)), rfl, rfl, rfl⟩⟩ | trace_state)
      · obtain rfl : x = w := by omega
        refine Goes.tree Γ_ok htb 1000 false false Try.func52 rfl ?_
        ((try simp only [decide_eq_true_eq, decide_eq_false_iff_not, Bool.not_eq_true', Bool.not_eq_false', Bool.not_true, Bool.not_false, Bool.and_eq_true, Bool.or_eq_true, bne_iff_ne, beq_iff_eq, ne_eq]); (try simp only [rng, lo, hi, mnI, mxI, Int.toNat_natCast, Sg.n, Nat.mul_one, Nat.zero_add, Nat.add_zero, Nat.reduceAdd, List.getD_cons_zero, List.getD_cons_succ]))
        ((repeat' (first | (with_reducible apply And.intro) | intro _)); all_goals (first | exact trivial | (with_reducible assumption) | (show (_ : List Blk) = _; rfl) | (first | exact trivial | (with_reducible assumption) | omega | (split <;> omega) | (split <;> split <;> omega)) | skip); all_goals (try (refine ⟨rfl, (by first | exact Nat.le_refl _ | exact Nat.le_of_ble_eq_true rfl), rfl, rfl, ?_, (by repeat' (first | exact trivial | rfl | apply And.intro)), rfl, rfl⟩)))
        all_goals (try first | omega | contradiction)
        exact ⟨ihY (by omega) (by omega) [0, 1, 2, 3, 4] _ _ ⟨rfl, rfl, rfl, (by repeat' (first | exact trivial | rfl | apply And.intro)), (by repeat' (first | exact trivial | rfl | apply And.intro)), rfl, rfl, rfl⟩⟩
    · obtain rfl : y = (p.getD 1 0).toNat := by omega
      clear ihY
      refine Goes.tree Γ_ok htb 1000 false false Try.func52 rfl ?_
      ((try simp only [decide_eq_true_eq, decide_eq_false_iff_not, Bool.not_eq_true', Bool.not_eq_false', Bool.not_true, Bool.not_false, Bool.and_eq_true, Bool.or_eq_true, bne_iff_ne, beq_iff_eq, ne_eq]); (try simp only [rng, lo, hi, mnI, mxI, Int.toNat_natCast, Sg.n, Nat.mul_one, Nat.zero_add, Nat.add_zero, Nat.reduceAdd, List.getD_cons_zero, List.getD_cons_succ]))
      ((repeat' (first | (with_reducible apply And.intro) | intro _)); all_goals (first | exact trivial | (with_reducible assumption) | (show (_ : List Blk) = _; rfl) | (first | exact trivial | (with_reducible assumption) | omega | (split <;> omega) | (split <;> split <;> omega)) | skip); all_goals (try (refine ⟨rfl, (by first | exact Nat.le_refl _ | exact Nat.le_of_ble_eq_true rfl), rfl, rfl, ?_, (by repeat' (first | exact trivial | rfl | apply And.intro)), rfl, rfl⟩)))
      all_goals (try first | omega | contradiction | exact hd)
      all_goals (first | exact ⟨ihO (by omega) [0, 1, 2, 3] _ _ ⟨rfl, rfl, rfl, (by repeat' (first | exact trivial | rfl | apply And.intro)), (by repeat' (first | exact trivial | rfl | apply And.intro)), rfl, rfl, rfl⟩⟩ | trace_state)
  · have hN := gN_eq hz (by omega) hk
    clear ihO
    rw [hcx] at hz
    refine Goes.tree Γ_ok htb 1000 false false Try.func52 rfl ?_
    ((try simp only [decide_eq_true_eq, decide_eq_false_iff_not, Bool.not_eq_true', Bool.not_eq_false', Bool.not_true, Bool.not_false, Bool.and_eq_true, Bool.or_eq_true, bne_iff_ne, beq_iff_eq, ne_eq]); (try simp only [rng, lo, hi, mnI, mxI, Int.toNat_natCast, Sg.n, Nat.mul_one, Nat.zero_add, Nat.add_zero, Nat.reduceAdd, List.getD_cons_zero, List.getD_cons_succ]))
    ((repeat' (first | (with_reducible apply And.intro) | intro _)); all_goals (first | exact trivial | (with_reducible assumption) | (show (_ : List Blk) = _; rfl) | (first | exact trivial | (with_reducible assumption) | omega | (split <;> omega) | (split <;> split <;> omega)) | skip); all_goals (try (refine ⟨rfl, (by first | exact Nat.le_refl _ | exact Nat.le_of_ble_eq_true rfl), rfl, rfl, ?_, (by repeat' (first | exact trivial | rfl | apply And.intro)), rfl, rfl⟩)))
    all_goals (try first | omega | contradiction)
    · rename_i h
      exact absurd (by simpa using h) hz
    · rw [hN]; exact sameA_refl _
end Go.Proofs.Ytfelemoefhbphaa
