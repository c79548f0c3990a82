/- The row SidesOf: the spec and the program count the same sides. -/
import Derived.Test.YtfelemoefhbphaaSideL
import Derived.Test.YtfelemoefhbphaaAll
namespace Go.Proofs.Ytfelemoefhbphaa
open Go Go.Eng
set_option linter.unusedSimpArgs false
set_option linter.unusedVariables false
set_option maxRecDepth 100000
set_option maxHeartbeats 4000000

theorem cntN_rng (p : List Int) (xs : List (List Int)) (c : Int) (s : List Int) : ∀ d : Nat, c ≤ cntN p xs c s d ∧ cntN p xs c s d ≤ c + d := by
  intro d
  induction d with
  | zero => exact ⟨Int.le_refl _, by show c ≤ c + ((0 : Nat) : Int); omega⟩
  | succ d ih => unfold cntN; split <;> omega
theorem cntX_rng (p : List Int) (xs : List (List Int)) (c : Int) (y : Nat) : ∀ x : Nat, c ≤ cntX p xs c y x ∧ cntX p xs c y x ≤ c + 4 * x := by
  intro x
  induction x with
  | zero => exact ⟨Int.le_refl _, by show c ≤ c + 4 * ((0 : Nat) : Int); omega⟩
  | succ x ih => have := cntN_rng p xs (cntX p xs c y x) [(x : Int), (y : Int)] 4; unfold cntX; omega
theorem cntY_rng (p : List Int) (xs : List (List Int)) {w : Nat} (hw : w ≤ 10) : ∀ y : Nat, 0 ≤ cntY p xs w y ∧ cntY p xs w y ≤ 40 * y := by
  intro y
  induction y with
  | zero => exact ⟨Int.le_refl _, Int.le_refl _⟩
  | succ y ih => have := cntX_rng p xs (cntY p xs w y) y w; unfold cntY; omega
def sCntS : Fun
  | [.ag .pas p, .fs .spot xs], [] => some (.t2 (.i .i64 (if codeP p xs = 0 then cntY p xs (p.getD 0 0).toNat (p.getD 1 0).toNat else 0)) (.i .i64 (codeP p xs)), [], [xs.length ≤ 1048576])
  | _, _ => .none
set_option maxRecDepth 100000 in
theorem s_specSides : Sound Try.prog 44 sCntS := by
  intro args M r M' vs h hvs
  unfold sCntS at h
  split at h
  case h_2 => cases h
  rename_i p xs
  cases h
  refine SpecOK.assume fun hA hM => ?_
  have htb := (TbOk.cons s_l01All Try.func97 rfl rfl (TbOk.cons s_l01Mask Try.func98 rfl rfl (TbOk.cons s_l01Next Try.func99 rfl rfl (TbOk.cons s_l01Is Try.func77 rfl rfl (TbOk.nil : TbOk Try.prog tb0)))))
  refine SpecOK.of_goes [] Try.func44 rfl ?_
  obtain ⟨hl, -⟩ := hvs
  have hR : RowsOk .spot xs := hA.2.2.2.1
  have hlen : ∀ s ∈ xs, s.length = 2 := fun s hs => (hR s hs).1
  clear hA hM
  have hin : codeP p xs = 0 → ∀ s ∈ xs, inG s := fun h s hs => inG_of (codeP_all h).1 ((codeP_all h).2 s hs)
  refine Goes.tree Γ_ok htb 1000 false false Try.func44 rfl ?_
  ((try simp only [decide_eq_true_eq, decide_eq_false_iff_not, Bool.not_eq_true', Bool.not_eq_false', Bool.not_true, Bool.not_false, Bool.and_eq_true, Bool.or_eq_true, bne_iff_ne, beq_iff_eq, ne_eq]); (try simp only [rng, lo, hi, mnI, mxI, Int.toNat_natCast, Sg.n, Nat.mul_one, Nat.zero_add, Nat.add_zero, Nat.reduceAdd, List.getD_cons_zero, List.getD_cons_succ]))
  ((repeat' (first | (with_reducible apply And.intro) | intro _)); all_goals (first | exact trivial | (with_reducible assumption) | (show (_ : List Blk) = _; rfl) | (first | exact trivial | (with_reducible assumption) | omega | (split <;> omega) | (split <;> split <;> omega)) | skip); all_goals (try (refine ⟨rfl, (by first | exact Nat.le_refl _ | exact Nat.le_of_ble_eq_true rfl), rfl, rfl, ?_, (by repeat' (first | exact trivial | rfl | apply And.intro)), rfl, rfl⟩)))
  all_goals (try first | exact hin (by assumption) _ (by assumption) | exact hin (by assumption) | omega)
  · rename_i hc
    refine sameA_t2 ?_ rfl
    rw [if_neg hc]
  rename_i hc
  rw [if_pos hc, hc]
  have hok := (codeP_all hc).1
  have hd : okD p := hok.1
  obtain ⟨w1, w2, h1, h2⟩ := hd
  have hin := hin hc
  have hcell : cellsR xs := fun s hs => ⟨hin s hs, hlen s hs⟩
  refine ⟨?_⟩
  refine Goes.loopR (fun y : Nat => (p.getD 1 0).toNat - y) (fun y => y ≤ (p.getD 1 0).toNat) (fun y => (.any :: .any :: .pw 0 .pas :: .any :: .any :: .any :: .any :: .pw 1 .bgrid :: .i .i64 (cntY p xs (p.getD 0 0).toNat y) :: .i .i8 (y : Int) :: .any :: .any :: .any :: .any :: .any :: .any :: .any :: .any :: .any :: .any :: .any :: .any :: .any :: .any :: .any :: .any :: .any :: .any :: .any :: .any :: .any :: .any :: .any :: .any :: .any :: .any :: .any :: .any :: .any :: .any :: .any :: .any :: .any :: .any :: .any :: .any :: .any :: .any :: .any :: .any :: .any :: .any :: .any :: .any :: .any :: .any :: .any :: .any :: .any :: .any :: .any :: .any :: .any :: []))
    (fun y => [.c .pas p, .c .bgrid (srcD xs xs.length)]) 0 [0, 1] (Nat.zero_le _) ⟨rfl, rfl, rfl, (by repeat' (first | exact trivial | rfl | apply And.intro)), (by repeat' (first | exact trivial | rfl | apply And.intro)), rfl, rfl, rfl⟩ fun y hy ihO => ?_
  have hyr := cntY_rng p xs (show (p.getD 0 0).toNat ≤ 10 by omega) y
  by_cases hlt : y < (p.getD 1 0).toNat
  · refine Goes.tree Γ_ok htb 1000 false false Try.func44 rfl ?_
    ((try simp only [decide_eq_true_eq, decide_eq_false_iff_not, Bool.not_eq_true', Bool.not_eq_false', Bool.not_true, Bool.not_false, Bool.and_eq_true, Bool.or_eq_true, bne_iff_ne, beq_iff_eq, ne_eq]); (try simp only [rng, lo, hi, mnI, mxI, Int.toNat_natCast, Sg.n, Nat.mul_one, Nat.zero_add, Nat.add_zero, Nat.reduceAdd, List.getD_cons_zero, List.getD_cons_succ]))
    ((repeat' (first | (with_reducible apply And.intro) | intro _)); all_goals (first | exact trivial | (with_reducible assumption) | (show (_ : List Blk) = _; rfl) | (first | exact trivial | (with_reducible assumption) | omega | (split <;> omega) | (split <;> split <;> omega)) | skip); all_goals (try (refine ⟨rfl, (by first | exact Nat.le_refl _ | exact Nat.le_of_ble_eq_true rfl), rfl, rfl, ?_, (by repeat' (first | exact trivial | rfl | apply And.intro)), rfl, rfl⟩)))
    all_goals (try first | omega | contradiction)
    refine ⟨?_⟩
    refine Goes.loopR (fun x : Nat => (p.getD 0 0).toNat - x) (fun x => x ≤ (p.getD 0 0).toNat) (fun x => (.any :: .any :: .pw 0 .pas :: .any :: .any :: .any :: .any :: .pw 1 .bgrid :: .i .i64 (cntX p xs (cntY p xs (p.getD 0 0).toNat y) y x) :: .i .i8 (y : Int) :: .i .i8 (x : Int) :: .any :: .any :: .any :: .any :: .any :: .any :: .any :: .any :: .any :: .any :: .any :: .any :: .any :: .any :: .any :: .any :: .any :: .any :: .any :: .any :: .any :: .any :: .any :: .any :: .any :: .any :: .any :: .any :: .any :: .any :: .any :: .any :: .any :: .any :: .any :: .any :: .any :: .any :: .any :: .any :: .any :: .any :: .any :: .any :: .any :: .any :: .any :: .any :: .any :: .any :: .any :: .any :: []))
      (fun x => [.c .pas p, .c .bgrid (srcD xs xs.length)]) 0 [0, 1] (Nat.zero_le _) ⟨rfl, rfl, rfl, (by repeat' (first | exact trivial | rfl | apply And.intro)), (by repeat' (first | exact trivial | rfl | apply And.intro)), rfl, rfl, rfl⟩ fun x hx ihX => ?_
    have hxr := cntX_rng p xs (cntY p xs (p.getD 0 0).toNat y) y x
    by_cases hltx : x < (p.getD 0 0).toNat
    · refine Goes.tree Γ_ok htb 1000 false false Try.func44 rfl ?_
      ((try simp only [decide_eq_true_eq, decide_eq_false_iff_not, Bool.not_eq_true', Bool.not_eq_false', Bool.not_true, Bool.not_false, Bool.and_eq_true, Bool.or_eq_true, bne_iff_ne, beq_iff_eq, ne_eq]); (try simp only [rng, lo, hi, mnI, mxI, Int.toNat_natCast, Sg.n, Nat.mul_one, Nat.zero_add, Nat.add_zero, Nat.reduceAdd, List.getD_cons_zero, List.getD_cons_succ]))
      ((repeat' (first | (with_reducible apply And.intro) | intro _)); all_goals (first | exact trivial | (with_reducible assumption) | (show (_ : List Blk) = _; rfl) | (first | exact trivial | (with_reducible assumption) | omega | (split <;> omega) | (split <;> split <;> omega)) | skip); all_goals (try (refine ⟨rfl, (by first | exact Nat.le_refl _ | exact Nat.le_of_ble_eq_true rfl), rfl, rfl, ?_, (by repeat' (first | exact trivial | rfl | apply And.intro)), rfl, rfl⟩)))
      all_goals (try first | omega | contradiction)
      refine ⟨?_⟩
      refine Goes.loopR (fun d : Nat => 4 - d) (fun d => d ≤ 4) (fun d => (.any :: .any :: .pw 0 .pas :: .any :: .any :: .any :: .any :: .pw 1 .bgrid :: .i .i64 (cntN p xs (cntX p xs (cntY p xs (p.getD 0 0).toNat y) y x) [(x : Int), (y : Int)] d) :: .i .i8 (y : Int) :: .i .i8 (x : Int) :: .i .i64 (d : Int) :: .any :: .any :: .any :: .any :: .any :: .any :: .any :: .any :: .any :: .any :: .any :: .any :: .any :: .any :: .any :: .any :: .any :: .any :: .any :: .any :: .any :: .any :: .any :: .any :: .any :: .any :: .any :: .any :: .any :: .any :: .any :: .any :: .any :: .any :: .any :: .any :: .any :: .any :: .any :: .any :: .any :: .any :: .any :: .any :: .any :: .any :: .any :: .any :: .any :: .any :: .any :: []))
        (fun d => [.c .pas p, .c .bgrid (srcD xs xs.length)]) 0 [0, 1] (Nat.zero_le _) ⟨rfl, rfl, rfl, (by repeat' (first | exact trivial | rfl | apply And.intro)), (by repeat' (first | exact trivial | rfl | apply And.intro)), rfl, rfl, rfl⟩ fun d hd4 ih => ?_
      have hcr := cntN_rng p xs (cntX p xs (cntY p xs (p.getD 0 0).toNat y) y x) [(x : Int), (y : Int)] d
      have hcp : isP p [(x : Int), (y : Int)] = true := by unfold isP; rw [decide_eq_true_eq]; simp only [List.getD_cons_zero, List.getD_cons_succ]; omega
      have hcn := near_of ⟨w1, w2, h1, h2⟩ hcp
      have hm := mask_has hcell (inG_of hok hcp) (s := [(x : Int), (y : Int)]) rfl
      have hmn : isP p (ahead [(x : Int), (y : Int)] d) = true → _ := fun h => mask_has hcell (inG_of hok h) (ahead_len _ _)
      have hin2 : isP p (ahead [(x : Int), (y : Int)] d) = true → _ := fun h => inG_of hok h
      have hyes : hasR xs [(x : Int), (y : Int)] = true ∧ outC p xs [(x : Int), (y : Int)] d = true → cntN p xs (cntX p xs (cntY p xs (p.getD 0 0).toNat y) y x) [(x : Int), (y : Int)] (d + 1) = cntN p xs (cntX p xs (cntY p xs (p.getD 0 0).toNat y) y x) [(x : Int), (y : Int)] d + 1 := fun h => if_pos h
      have hno : ¬ (hasR xs [(x : Int), (y : Int)] = true ∧ outC p xs [(x : Int), (y : Int)] d = true) → cntN p xs (cntX p xs (cntY p xs (p.getD 0 0).toNat y) y x) [(x : Int), (y : Int)] (d + 1) = cntN p xs (cntX p xs (cntY p xs (p.getD 0 0).toNat y) y x) [(x : Int), (y : Int)] d := fun h => if_neg h
      have hoc : outC p xs [(x : Int), (y : Int)] d = (isP p (ahead [(x : Int), (y : Int)] d) && !hasR xs (ahead [(x : Int), (y : Int)] d)) := rfl
      have e1 : cx [(x : Int), (y : Int)] = y * 10 + x := by simp [cx]
      rw [e1] at hm
      unfold cx at hmn
      unfold inG at hin2
      by_cases hltd : d < 4
      · have hms := (mask_get hin xs.length (Nat.le_refl _) (y * 10 + x)).1
        have hms2 := (mask_get hin xs.length (Nat.le_refl _) (((ahead [(x : Int), (y : Int)] d).getD 1 0).toNat * 10 + ((ahead [(x : Int), (y : Int)] d).getD 0 0).toNat)).1
        refine Goes.tree Γ_ok htb 1000 false false Try.func44 rfl ?_
        ((try simp only [decide_eq_true_eq, decide_eq_false_iff_not, Bool.not_eq_true', Bool.not_eq_false', Bool.not_true, Bool.not_false, Bool.and_eq_true, Bool.or_eq_true, bne_iff_ne, beq_iff_eq, ne_eq]); (try simp only [rng, lo, hi, mnI, mxI, Int.toNat_natCast, Sg.n, Nat.mul_one, Nat.zero_add, Nat.add_zero, Nat.reduceAdd, List.getD_cons_zero, List.getD_cons_succ]))
        ((repeat' (first | (with_reducible apply And.intro) | intro _)); all_goals (first | exact trivial | (with_reducible assumption) | (show (_ : List Blk) = _; rfl) | (first | exact trivial | (with_reducible assumption) | omega | (split <;> omega) | (split <;> split <;> omega)) | skip); all_goals (try (refine ⟨rfl, (by first | exact Nat.le_refl _ | exact Nat.le_of_ble_eq_true rfl), rfl, rfl, ?_, (by repeat' (first | exact trivial | rfl | apply And.intro)), rfl, rfl⟩)))
        all_goals (try first | omega | contradiction | exact hcn | exact (hin2 (by assumption)).1 | exact (hin2 (by assumption)).2.1 | exact (hin2 (by assumption)).2.2.1 | exact (hin2 (by assumption)).2.2.2)
        · rename_i h1 h2 h3
          refine ⟨ih (d + 1) (by omega) (by omega) [0, 1] _ _ ?_⟩
          rw [hyes ⟨hm.1.1 (by omega), by rw [hoc, h2, (hmn h2).2.1 (by simpa using h3)]; rfl⟩]
          exact ⟨rfl, rfl, rfl, (by repeat' (first | exact trivial | rfl | apply And.intro)), (by repeat' (first | exact trivial | rfl | apply And.intro)), rfl, rfl, rfl⟩
        · rename_i h1 h2 h3
          refine ⟨ih (d + 1) (by omega) (by omega) [0, 1] _ _ ?_⟩
          rw [hno (fun g => by rw [hoc, h2, (hmn h2).1.1 (by omega)] at g; exact absurd g.2 (by decide))]
          exact ⟨rfl, rfl, rfl, (by repeat' (first | exact trivial | rfl | apply And.intro)), (by repeat' (first | exact trivial | rfl | apply And.intro)), rfl, rfl, rfl⟩
        · rename_i h1 h2
          refine ⟨ih (d + 1) (by omega) (by omega) [0, 1] _ _ ?_⟩
          rw [hno (fun g => by rw [hoc, h2] at g; exact absurd g.2 (by simp))]
          exact ⟨rfl, rfl, rfl, (by repeat' (first | exact trivial | rfl | apply And.intro)), (by repeat' (first | exact trivial | rfl | apply And.intro)), rfl, rfl, rfl⟩
        · rename_i h1
          refine ⟨ih (d + 1) (by omega) (by omega) [0, 1] _ _ ?_⟩
          rw [hno (fun g => by rw [hm.2.1 (by simpa using h1)] at g; exact absurd g.1 (by decide))]
          exact ⟨rfl, rfl, rfl, (by repeat' (first | exact trivial | rfl | apply And.intro)), (by repeat' (first | exact trivial | rfl | apply And.intro)), rfl, rfl, rfl⟩
      · obtain rfl : d = 4 := by omega
        refine Goes.tree Γ_ok htb 1000 false false Try.func44 rfl ?_
        ((try simp only [decide_eq_true_eq, decide_eq_false_iff_not, Bool.not_eq_true', Bool.not_eq_false', Bool.not_true, Bool.not_false, Bool.and_eq_true, Bool.or_eq_true, bne_iff_ne, beq_iff_eq, ne_eq]); (try simp only [rng, lo, hi, mnI, mxI, Int.toNat_natCast, Sg.n, Nat.mul_one, Nat.zero_add, Nat.add_zero, Nat.reduceAdd, List.getD_cons_zero, List.getD_cons_succ]))
        ((repeat' (first | (with_reducible apply And.intro) | intro _)); all_goals (first | exact trivial | (with_reducible assumption) | (show (_ : List Blk) = _; rfl) | (first | exact trivial | (with_reducible assumption) | omega | (split <;> omega) | (split <;> split <;> omega)) | skip); all_goals (try (refine ⟨rfl, (by first | exact Nat.le_refl _ | exact Nat.le_of_ble_eq_true rfl), rfl, rfl, ?_, (by repeat' (first | exact trivial | rfl | apply And.intro)), rfl, rfl⟩)))
        all_goals (try first | omega | contradiction)
        exact ⟨ihX (x + 1) (by omega) (by omega) [0, 1] _ _ ⟨rfl, rfl, rfl, (by repeat' (first | exact trivial | rfl | apply And.intro)), (by repeat' (first | exact trivial | rfl | apply And.intro)), rfl, rfl, rfl⟩⟩
    · obtain rfl : x = (p.getD 0 0).toNat := by omega
      refine Goes.tree Γ_ok htb 1000 false false Try.func44 rfl ?_
      ((try simp only [decide_eq_true_eq, decide_eq_false_iff_not, Bool.not_eq_true', Bool.not_eq_false', Bool.not_true, Bool.not_false, Bool.and_eq_true, Bool.or_eq_true, bne_iff_ne, beq_iff_eq, ne_eq]); (try simp only [rng, lo, hi, mnI, mxI, Int.toNat_natCast, Sg.n, Nat.mul_one, Nat.zero_add, Nat.add_zero, Nat.reduceAdd, List.getD_cons_zero, List.getD_cons_succ]))
      ((repeat' (first | (with_reducible apply And.intro) | intro _)); all_goals (first | exact trivial | (with_reducible assumption) | (show (_ : List Blk) = _; rfl) | (first | exact trivial | (with_reducible assumption) | omega | (split <;> omega) | (split <;> split <;> omega)) | skip); all_goals (try (refine ⟨rfl, (by first | exact Nat.le_refl _ | exact Nat.le_of_ble_eq_true rfl), rfl, rfl, ?_, (by repeat' (first | exact trivial | rfl | apply And.intro)), rfl, rfl⟩)))
      all_goals (try first | omega | contradiction)
      exact ⟨ihO (y + 1) (by omega) (by omega) [0, 1] _ _ ⟨rfl, rfl, rfl, (by repeat' (first | exact trivial | rfl | apply And.intro)), (by repeat' (first | exact trivial | rfl | apply And.intro)), rfl, rfl, rfl⟩⟩
  · obtain rfl : y = (p.getD 1 0).toNat := by omega
    clear ihO
    refine Goes.tree Γ_ok htb 1000 false false Try.func44 rfl ?_
    ((try simp only [decide_eq_true_eq, decide_eq_false_iff_not, Bool.not_eq_true', Bool.not_eq_false', Bool.not_true, Bool.not_false, Bool.and_eq_true, Bool.or_eq_true, bne_iff_ne, beq_iff_eq, ne_eq]); (try simp only [rng, lo, hi, mnI, mxI, Int.toNat_natCast, Sg.n, Nat.mul_one, Nat.zero_add, Nat.add_zero, Nat.reduceAdd, List.getD_cons_zero, List.getD_cons_succ]))
    ((repeat' (first | (with_reducible apply And.intro) | intro _)); all_goals (first | exact trivial | (with_reducible assumption) | (show (_ : List Blk) = _; rfl) | (first | exact trivial | (with_reducible assumption) | omega | (split <;> omega) | (split <;> split <;> omega)) | skip); all_goals (try (refine ⟨rfl, (by first | exact Nat.le_refl _ | exact Nat.le_of_ble_eq_true rfl), rfl, rfl, ?_, (by repeat' (first | exact trivial | rfl | apply And.intro)), rfl, rfl⟩)))
    all_goals (first | omega | contradiction | exact sameA_refl _ | trace_state)
def sizeSHS : Fun
  | [.fs .hur rows], [] => some (.i .i64 rows.length, [], [])
  | _, _ => .none
set_option maxRecDepth 100000 in
theorem s_sizeSH : Sound Try.prog 86 sizeSHS := by
  intro args M r M' vs h hvs
  unfold sizeSHS at h
  split at h
  case h_2 => cases h
  rename_i rows
  cases h
  refine SpecOK.assume fun hA hM => ?_
  have htb := (TbOk.nil : TbOk Try.prog tb0)
  refine SpecOK.of_goes [] Try.func86 rfl ?_
  refine Goes.tree Γ_ok htb 1000 false false Try.func86 rfl ?_
  ((try simp only [decide_eq_true_eq, decide_eq_false_iff_not, Bool.not_eq_true', Bool.not_eq_false', Bool.not_true, Bool.not_false, Bool.and_eq_true, Bool.or_eq_true, bne_iff_ne, beq_iff_eq, ne_eq]); (try simp only [rng, lo, hi, mnI, mxI, Int.toNat_natCast, Sg.n, Nat.mul_one, Nat.zero_add, Nat.add_zero, Nat.reduceAdd, List.getD_cons_zero, List.getD_cons_succ]))
  ((repeat' (first | (with_reducible apply And.intro) | intro _)); all_goals (first | exact trivial | (with_reducible assumption) | (show (_ : List Blk) = _; rfl) | (first | exact trivial | (with_reducible assumption) | omega | (split <;> omega) | (split <;> split <;> omega)) | skip); all_goals (try (refine ⟨rfl, (by first | exact Nat.le_refl _ | exact Nat.le_of_ble_eq_true rfl), rfl, rfl, ?_, (by repeat' (first | exact trivial | rfl | apply And.intro)), rfl, rfl⟩)))
  all_goals (first | exact sameA_refl _ | trace_state)
theorem sideL_nil (p : List Int) : sideL p [] = [] := by
  have h : ordL [] = [] := List.eq_nil_of_length_eq_zero (Nat.le_zero.1 (ordL_len []))
  unfold sideL
  rw [h]; rfl
theorem s_implSides : Sound Try.prog 46 sCntS := by
  intro args M r M' vs h hvs
  unfold sCntS at h
  split at h
  case h_2 => cases h
  rename_i p xs
  cases h
  obtain ⟨hl, -⟩ := hvs
  refine SpecOK.assume fun hA hM => ?_
  have hR : RowsOk .spot xs := hA.2.2.2.1
  have hlen : ∀ s ∈ xs, s.length = 2 := fun s hs => (hR s hs).1
  clear hA hM
  have hok := fun h : codeP p xs = 0 => (codeP_all h)
  have hcnt : codeP p xs = 0 → _ := fun h => side_count (p := p) (hok h).2 hlen
  by_cases h0 : xs = []
  · subst h0
    have htb := (TbOk.cons s_cellCode Try.func58 rfl rfl (TbOk.cons s_sidesOfE Try.func100 rfl rfl (TbOk.cons s_sizeSH Try.func86 rfl rfl (TbOk.nil : TbOk Try.prog tb0))))
    refine SpecOK.of_goes [] Try.func46 rfl ?_
    refine Goes.tree Γ_ok htb 1000 false false Try.func46 rfl ?_
    ((try simp only [decide_eq_true_eq, decide_eq_false_iff_not, Bool.not_eq_true', Bool.not_eq_false', Bool.not_true, Bool.not_false, Bool.and_eq_true, Bool.or_eq_true, bne_iff_ne, beq_iff_eq, ne_eq]); (try simp only [rng, lo, hi, mnI, mxI, Int.toNat_natCast, Sg.n, Nat.mul_one, Nat.zero_add, Nat.add_zero, Nat.reduceAdd, List.getD_cons_zero, List.getD_cons_succ]))
    ((repeat' (first | (with_reducible apply And.intro) | intro _)); all_goals (first | exact trivial | (with_reducible assumption) | (show (_ : List Blk) = _; rfl) | (first | exact trivial | (with_reducible assumption) | omega | (split <;> omega) | (split <;> split <;> omega)) | skip); all_goals (try (refine ⟨rfl, (by first | exact Nat.le_refl _ | exact Nat.le_of_ble_eq_true rfl), rfl, rfl, ?_, (by repeat' (first | exact trivial | rfl | apply And.intro)), rfl, rfl⟩)))
    · rename_i hc
      refine sameA_t2 ?_ rfl
      rw [if_neg hc]
    · rename_i hc
      refine sameA_t2 ?_ hc
      rw [if_pos hc, ← hcnt hc, sideL_nil]
  · have h0 : 0 < xs.length := List.length_pos_iff.2 h0
    have htb := (TbOk.cons s_cellCode Try.func58 rfl rfl (TbOk.cons s_sidesOf Try.func100 rfl rfl (TbOk.cons s_sizeSH Try.func86 rfl rfl (TbOk.nil : TbOk Try.prog tb0))))
    refine SpecOK.of_goes [] Try.func46 rfl ?_
    refine Goes.tree Γ_ok htb 1000 false false Try.func46 rfl ?_
    ((try simp only [decide_eq_true_eq, decide_eq_false_iff_not, Bool.not_eq_true', Bool.not_eq_false', Bool.not_true, Bool.not_false, Bool.and_eq_true, Bool.or_eq_true, bne_iff_ne, beq_iff_eq, ne_eq]); (try simp only [rng, lo, hi, mnI, mxI, Int.toNat_natCast, Sg.n, Nat.mul_one, Nat.zero_add, Nat.add_zero, Nat.reduceAdd, List.getD_cons_zero, List.getD_cons_succ]))
    ((repeat' (first | (with_reducible apply And.intro) | intro _)); all_goals (first | exact trivial | (with_reducible assumption) | (show (_ : List Blk) = _; rfl) | (first | exact trivial | (with_reducible assumption) | omega | (split <;> omega) | (split <;> split <;> omega)) | skip); all_goals (try (refine ⟨rfl, (by first | exact Nat.le_refl _ | exact Nat.le_of_ble_eq_true rfl), rfl, rfl, ?_, (by repeat' (first | exact trivial | rfl | apply And.intro)), rfl, rfl⟩)))
    all_goals (try first | exact (hok (by assumption)).1.1 | exact (hok (by assumption)).2 _ (by assumption) | omega)
    · rename_i hc
      refine sameA_t2 ?_ rfl
      rw [if_neg hc]
    · rename_i hc
      refine sameA_t2 ?_ hc
      rw [if_pos hc, ← hcnt hc]
set_option maxRecDepth 100000 in
theorem l_ExactSidesOf (x0 : List Int) (x1 : List (List Int)) : SpecOK Try.prog 12 [.ag .pas x0, .fs .spot x1] [] (.d true) [] := by
  have htb := (TbOk.cons s_specSides Try.func44 rfl rfl (TbOk.cons s_implSides Try.func46 rfl rfl (TbOk.cons s_toPasture Try.func16 rfl rfl (TbOk.cons s_szSpotS Try.func43 rfl rfl (TbOk.cons s_toSpotS Try.func45 rfl rfl (TbOk.cons s_eqSpotS Try.func19 rfl rfl (TbOk.nil : TbOk Try.prog tb0)))))))
  refine SpecOK.of_goes [] Try.func12 rfl ?_
  have kz1 := szN_ok (1048576) x1.length
  refine Goes.tree Γ_ok htb 1000 false false Try.func12 rfl ?_
  ((try simp only [decide_eq_true_eq, decide_eq_false_iff_not, Bool.not_eq_true', Bool.not_eq_false', Bool.not_true, Bool.not_false, Bool.and_eq_true, Bool.or_eq_true, bne_iff_ne, beq_iff_eq, ne_eq]); (try simp only [rng, lo, hi, mnI, mxI, Int.toNat_natCast, Sg.n, Nat.mul_one, Nat.zero_add, Nat.add_zero, Nat.reduceAdd, List.getD_cons_zero, List.getD_cons_succ]))
  (repeat' (first | (with_reducible apply And.intro) | intro _))
  all_goals (first | exact trivial | (show (_ : List Blk) = _; rfl) | (first | exact trivial | (with_reducible assumption) | omega | (split <;> omega) | (split <;> split <;> omega)) | ((refine ⟨rfl, (by first | exact Nat.le_refl _ | exact Nat.le_of_ble_eq_true rfl), rfl, rfl, ?_, (by repeat' (first | exact trivial | rfl | apply And.intro)), rfl, rfl⟩); first | exact sameA_refl _ | (exfalso; first | omega | simp_all)) | (omega) | simp_all)
end Go.Proofs.Ytfelemoefhbphaa
namespace Go.Proofs.Ytfelemoefhbphaa.fnExactSidesOf
open Go Go.Eng Go.ChangeShapes Go.WideShapes Go.ChangeAt Go.RowKit
theorem own : ownKnob Try.prog.godebug = none := by kernel_rfl
theorem laidOut : laidOutB Try.prog = true := by kernel_rfl
set_option maxRecDepth 100000 in
theorem lifted (os : Os) (started : os.Started) (H : Type) (enc : TypeId × Value → H) :
    ReturnsInHanded {} Try.checked os 12 .any (Rows.fnExactSidesOfSpec.pre6 enc Try.prog Try.f12 Rows.fnExactSidesOfRow.domain false) (Rows.fnExactSidesOfSpec.post enc Try.prog Try.f12 false true false false) := by
  refine returnsInHanded_of_change_sized (C := Try.checked) own started (by kernel_rfl) Try.func12
    (ChangeSpec.witness6 (enc := enc) (C := Try.checked) false ⟨#[], #[zeroV .pas, .slice none 0 0], []⟩ 8 (by kernel_rfl) (by kernel_rfl) (by kernel_rfl) (by kernel_rfl)) ?_
  intro W base args ds gs before hval0 hW hcnd hsz0 _
  have hval : ∀ (j : Nat) t v, Try.f12.params[j]? = some t → args[j]? = some v → Value.okWide Try.prog W .any base t v := hval0
  have hW' := hW
  obtain ⟨p, q, hA0, hV, rfl, hfz, hnd⟩ := hW
  have hA : DataW.TrodAll enc Try.prog W 0 (fun _ => true) true Try.f12.params.toList args.toList ds p := hA0
  rw [Try.params12] at hA hval
  obtain ⟨v0, vs0, d0, ds0, p0, q0, hargs, rfl, rfl, h0, r0⟩ := trodAll_cons hA
  obtain ⟨v1, vs1, d1, ds1, p1, q1, rfl, rfl, rfl, h1, r1⟩ := trodAll_cons r0
  obtain ⟨rfl, rfl, rfl⟩ := trodAll_nil r1
  obtain rfl : args = #[v0, v1] := by cases args; simp_all
  obtain ⟨rfl, rfl⟩ := trodVars_none hV
  obtain ⟨x0, e0, z0, l0, c0⟩ := open_agg Γ_ok (σ := .pas) rfl rfl (by decide) rfl (hval 0 _ v0 rfl rfl) h0
  obtain ⟨x1, g1, m1⟩ := open_rows Γ_ok (σ := .spot) Try.underlying67 rfl rfl (by decide) (hval 1 _ v1 rfl rfl) h1
  have z1 := trod_lt' h1
  subst z0
  clear hA0 hval0 hsz0
  refine (l_ExactSidesOf x0 x1 ⟨fun _ => ⟨0, 0, 0, .none, 0⟩, fun k => W.heap[k]?⟩ [v0, v1] W ⟨⟨e0, l0, c0, rfl⟩, den_fs g1 rfl, trivial⟩ (mrel_nil fun _ _ h => h) (fun x hx i hi => (by simp at hx; rcases hx with rfl | rfl <;> cases hi))).mono fun e W' ⟨v, ρ', he, hv, hAft, _⟩ => ?_
  subst he
  obtain rfl : v = .bool true := hv
  have bel := hAft.below
  have t0 := Below.trod laidOut (by kernel_rfl) (by decide +kernel) h0 bel (fun x hx => (by cases hx))
  have t1 := Below.trod laidOut (by kernel_rfl) (by decide +kernel) h1 bel z1
  exact ⟨_, rfl, _, _, _, [], _, [], hW', trodAll_mk1 (shut_bool Try.underlying4 _), (trodAll_cons_mk t0 (trodAll_cons_mk t1 trodAll_mk0)), rfl, bel.frame _, fun h => (by cases h)⟩
theorem and_t {a b : Bool} (h : a = true) (h' : b = true) : (a && b) = true := by rw [h, h']; rfl
set_option maxHeartbeats 4000000 in
theorem facts : joinedFacts Try.pinned.checked.prog 12 Try.f12 Rows.fnExactSidesOfSpec Rows.fnExactSidesOfRow = true := by
  unfold joinedFacts
  repeat' (with_reducible apply and_t)
  all_goals (as_aux_lemma => kernel_rfl)
theorem over : Rows.fnExactSidesOfRow.holds Try.pinned (OpenSpec.ofChange Rows.fnExactSidesOfSpec) :=
  OpenClaim.holds_of_wide 12 Try.f12 rfl rfl rfl rfl rfl rfl rfl ⟨rfl, rfl, rfl, rfl, rfl⟩ rfl rfl rfl rfl rfl (by kernel_rfl) Try.func12 facts
    (of_decide_eq_true (by kernel_rfl)) (by unfold Func.isWrapper; first | (rw [if_pos (by decide +kernel)]; kernel_rfl) | (rw [if_neg (by decide +kernel)]; exact ⟨rfl, rfl⟩))
    (fun os started H enc _ => lifted os started H enc)
end Go.Proofs.Ytfelemoefhbphaa.fnExactSidesOf
namespace Go.Proofs.Ytfelemoefhbphaa
theorem fnExactSidesOf_holds : Rows.FnExactSidesOfSaid := fnExactSidesOf.over
#print axioms fnExactSidesOf_holds
end Go.Proofs.Ytfelemoefhbphaa

