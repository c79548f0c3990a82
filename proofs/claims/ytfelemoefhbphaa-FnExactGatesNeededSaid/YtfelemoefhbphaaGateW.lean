/- The cells of whole yards, and how many gates: the spec. -/
import Derived.Test.YtfelemoefhbphaaGate
import Derived.Test.YtfelemoefhbphaaPair
namespace Go.Proofs.Ytfelemoefhbphaa
open Go Go.Eng
set_option linter.unusedSimpArgs false
set_option linter.unusedVariables false
set_option maxRecDepth 100000
set_option maxHeartbeats 4000000

theorem whX_one {Z N : List Int} {W : List (List Int)} (h : ∀ r ∈ W, r.length = 1) (y : Nat) : ∀ x, ∀ r ∈ whX Z N W y x, r.length = 1 := by
  intro x
  induction x with
  | zero => exact h
  | succ x ih =>
    intro r hr
    unfold whX at hr
    split at hr
    · rcases List.mem_or_eq_of_mem_set hr with hr | rfl
      · exact ih r hr
      · rfl
    · exact ih r hr
theorem whY_one {Z N : List Int} {W : List (List Int)} (h : ∀ r ∈ W, r.length = 1) (w : Nat) : ∀ y, ∀ r ∈ whY Z N W w y, r.length = 1 := by
  intro y
  induction y with
  | zero => exact h
  | succ y ih => exact whX_one ih y w
theorem set_one1 {r : List Int} (h : r.length = 1) (v : Int) : r.set 0 v = [v] := by
  match r, h with
  | [a], _ => rfl
noncomputable def filS : Fun
  | [.pw 0 .pas, .pw 1 .bgrid], [.c .pas p, .c .bgrid N] => some (.ag .bgrid (filT p N), [.c .pas p, .c .bgrid N], [okD p])
  | _, _ => .none
set_option maxRecDepth 100000 in
theorem s_l03Filled : Sound Try.prog 104 filS := by
  intro args M r M' vs h hvs
  unfold filS at h
  split at h
  case h_2 => cases h
  rename_i p N
  cases h
  refine SpecOK.assume fun hA hM => ?_
  have htb := (TbOk.cons s_l01Numbers Try.func62 rfl rfl (TbOk.nil : TbOk Try.prog tb0))
  refine SpecOK.of_goes [0, 1] Try.func104 rfl ?_
  obtain ⟨hd, -⟩ := hvs
  have hY := yL_100 hd
  have hZ := yOk hd (spots p)
  have hd' := hd
  obtain ⟨w1, w2, h1, h2⟩ := hd'
  clear hA hM
  have hrg : ∀ j, 0 ≤ (yT p (spots p)).getD j 0 ∧ (yT p (spots p)).getD j 0 ≤ ((yL p (spots p)).length : Int) := hZ.rg
  unfold filT
  clear hZ
  have en : (((yL p (spots p)).length : Int) + 1).toNat = (yL p (spots p)).length + 1 := by omega
  have e1 : List.replicate 1 (0 : Int) = [0] := rfl
  refine Goes.tree Γ_ok htb 1000 false false Try.func104 rfl ?_
  ((try simp only [decide_eq_true_eq, decide_eq_false_iff_not, Bool.not_eq_true', Bool.not_eq_false', Bool.not_true, Bool.not_false, Bool.and_eq_true, Bool.or_eq_true, bne_iff_ne, beq_iff_eq, ne_eq]); (try simp only [rng, lo, hi, mnI, mxI, Int.toNat_natCast, Sg.n, Nat.mul_one, Nat.zero_add, Nat.add_zero, Nat.reduceAdd, List.getD_cons_zero, List.getD_cons_succ, en, e1]))
  ((repeat' (first | (with_reducible apply And.intro) | intro _)); all_goals (first | exact trivial | (with_reducible assumption) | (show (_ : List Blk) = _; rfl) | (first | exact trivial | (with_reducible assumption) | omega | (split <;> omega) | (split <;> split <;> omega)) | skip); all_goals (try (refine ⟨rfl, (by first | exact Nat.le_refl _ | exact Nat.le_of_ble_eq_true rfl), rfl, rfl, ?_, (by repeat' (first | exact trivial | rfl | apply And.intro)), rfl, rfl⟩)))
  all_goals (try first | exact hd | omega)
  generalize yT p (spots p) = Z at *
  generalize hYs : yL p (spots p) = Ys at *
  generalize hwn : (p.getD 0 0).toNat = w at *
  refine ⟨?_⟩
  refine Goes.loopR (fun y : Nat => (p.getD 1 0).toNat - y) (fun y => y ≤ (p.getD 1 0).toNat) (fun y => (.pw 0 .pas :: .pw 1 .bgrid :: .any :: .any :: .pw 2 .bgrid :: .pw 3 .lgrid :: .any :: .ow 4 (Ys.length + 1) .bool 4 :: .i .i8 (y : Int) :: .any :: .any :: .any :: .any :: .any :: .any :: .any :: .any :: .any :: .any :: .any :: .any :: .any :: .any :: .any :: .any :: .any :: .any :: .any :: .any :: .any :: .any :: .any :: .any :: .any :: .any :: .any :: .any :: .any :: .any :: .any :: .any :: .any :: .any :: .any :: .any :: .any :: .any :: .any :: .any :: .any :: .any :: .any :: .any :: .any :: .any :: .any :: .any :: .any :: .any :: .any :: .any :: .any :: .any :: .any :: .any :: .any :: .any :: .any :: .any :: .any :: .any :: .any :: .any :: .any :: .any :: .any :: .any :: .any :: .any :: .any :: .any :: .any :: []))
    (fun y => [.c .pas p, .c .bgrid N, .c .bgrid (List.replicate 100 0), .c .lgrid Z, .l .bool (whY Z N (List.replicate (Ys.length + 1) [0]) w y)]) 0 [0, 1, 2, 3, 4] (Nat.zero_le _) ⟨rfl, rfl, rfl, (by repeat' (first | exact trivial | rfl | apply And.intro)), (by repeat' (first | exact trivial | rfl | apply And.intro)), rfl, rfl, rfl⟩ fun y hy ihO => ?_
  by_cases hlt : y < (p.getD 1 0).toNat
  · refine Goes.tree Γ_ok htb 1000 false false Try.func104 rfl ?_
    ((try simp only [decide_eq_true_eq, decide_eq_false_iff_not, Bool.not_eq_true', Bool.not_eq_false', Bool.not_true, Bool.not_false, Bool.and_eq_true, Bool.or_eq_true, bne_iff_ne, beq_iff_eq, ne_eq]); (try simp only [rng, lo, hi, mnI, mxI, Int.toNat_natCast, Sg.n, Nat.mul_one, Nat.zero_add, Nat.add_zero, Nat.reduceAdd, List.getD_cons_zero, List.getD_cons_succ, en, e1]))
    ((repeat' (first | (with_reducible apply And.intro) | intro _)); all_goals (first | exact trivial | (with_reducible assumption) | (show (_ : List Blk) = _; rfl) | (first | exact trivial | (with_reducible assumption) | omega | (split <;> omega) | (split <;> split <;> omega)) | skip); all_goals (try (refine ⟨rfl, (by first | exact Nat.le_refl _ | exact Nat.le_of_ble_eq_true rfl), rfl, rfl, ?_, (by repeat' (first | exact trivial | rfl | apply And.intro)), rfl, rfl⟩)))
    all_goals (try first | omega | contradiction)
    refine ⟨?_⟩
    refine Goes.loopR (fun x : Nat => w - x) (fun x => x ≤ w) (fun x => (.pw 0 .pas :: .pw 1 .bgrid :: .any :: .any :: .pw 2 .bgrid :: .pw 3 .lgrid :: .any :: .ow 4 (Ys.length + 1) .bool 4 :: .i .i8 (y : Int) :: .i .i8 (x : Int) :: .any :: .any :: .any :: .any :: .any :: .any :: .any :: .any :: .any :: .any :: .any :: .any :: .any :: .any :: .any :: .any :: .any :: .any :: .any :: .any :: .any :: .any :: .any :: .any :: .any :: .any :: .any :: .any :: .any :: .any :: .any :: .any :: .any :: .any :: .any :: .any :: .any :: .any :: .any :: .any :: .any :: .any :: .any :: .any :: .any :: .any :: .any :: .any :: .any :: .any :: .any :: .any :: .any :: .any :: .any :: .any :: .any :: .any :: .any :: .any :: .any :: .any :: .any :: .any :: .any :: .any :: .any :: .any :: .any :: .any :: .any :: .any :: []))
      (fun x => [.c .pas p, .c .bgrid N, .c .bgrid (List.replicate 100 0), .c .lgrid Z, .l .bool (whX Z N (whY Z N (List.replicate (Ys.length + 1) [0]) w y) y x)]) 0 [0, 1, 2, 3, 4] (Nat.zero_le _) ⟨rfl, rfl, rfl, (by repeat' (first | exact trivial | rfl | apply And.intro)), (by repeat' (first | exact trivial | rfl | apply And.intro)), rfl, rfl, rfl⟩ fun x hx ih => ?_
    have hl1 : (whX Z N (whY Z N (List.replicate (Ys.length + 1) [0]) w y) y x).length = Ys.length + 1 := by rw [whX_len, whY_len, List.length_replicate]
    by_cases hltx : x < w
    · have hz := hrg (y * 10 + x)
      have ew : whX Z N (whY Z N (List.replicate (Ys.length + 1) [0]) w y) y (x + 1) = if (N.getD (cx [(x : Int), (y : Int)]) 0 != 0) = true then (whX Z N (whY Z N (List.replicate (Ys.length + 1) [0]) w y) y x).set (Z.getD (cx [(x : Int), (y : Int)]) 0).toNat [1] else whX Z N (whY Z N (List.replicate (Ys.length + 1) [0]) w y) y x := rfl
      rw [cx_nat] at ew
      have h1r := whX_one (Z := Z) (N := N) (whY_one (Z := Z) (N := N) (W := List.replicate (Ys.length + 1) [0]) (fun r hr => by rw [List.eq_of_mem_replicate hr]; rfl) w y) y x
      have ih := ih (x + 1)
      rw [ew] at ih
      have ej := set_one1 (h1r _ (getD_mem (d := []) (show (Z.getD (y * 10 + x) 0).toNat < _ by rw [hl1]; omega))) 1
      generalize whX Z N (whY Z N (List.replicate (Ys.length + 1) [0]) w y) y x = R at *
      clear ew h1r
      refine Goes.tree Γ_ok htb 1000 false false Try.func104 rfl ?_
      ((try simp only [decide_eq_true_eq, decide_eq_false_iff_not, Bool.not_eq_true', Bool.not_eq_false', Bool.not_true, Bool.not_false, Bool.and_eq_true, Bool.or_eq_true, bne_iff_ne, beq_iff_eq, ne_eq]); (try simp only [rng, lo, hi, mnI, mxI, Int.toNat_natCast, Sg.n, Nat.mul_one, Nat.zero_add, Nat.add_zero, Nat.reduceAdd, List.getD_cons_zero, List.getD_cons_succ, en, e1, if_true, ej]))
      ((repeat' (first | (with_reducible apply And.intro) | intro _)); all_goals (first | exact trivial | (with_reducible assumption) | (show (_ : List Blk) = _; rfl) | (first | exact trivial | (with_reducible assumption) | omega | (split <;> omega) | (split <;> split <;> omega)) | skip); all_goals (try (refine ⟨rfl, (by first | exact Nat.le_refl _ | exact Nat.le_of_ble_eq_true rfl), rfl, rfl, ?_, (by repeat' (first | exact trivial | rfl | apply And.intro)), rfl, rfl⟩)))
      all_goals (try first | omega | contradiction)
      · rename_i h
        refine ⟨ih (by omega) (by omega) [0, 1, 2, 3, 4] _ _ ?_⟩
        rw [if_pos (by simpa using h)]
        exact ⟨rfl, rfl, rfl, (by repeat' (first | exact trivial | rfl | apply And.intro)), (by repeat' (first | exact trivial | rfl | apply And.intro)), rfl, rfl, rfl⟩
      · rename_i h
        refine ⟨ih (by omega) (by omega) [0, 1, 2, 3, 4] _ _ ?_⟩
        rw [if_neg (by rw [h]; decide)]
        exact ⟨rfl, rfl, rfl, (by repeat' (first | exact trivial | rfl | apply And.intro)), (by repeat' (first | exact trivial | rfl | apply And.intro)), rfl, rfl, rfl⟩
    · obtain rfl : x = w := by omega
      refine Goes.tree Γ_ok htb 1000 false false Try.func104 rfl ?_
      ((try simp only [decide_eq_true_eq, decide_eq_false_iff_not, Bool.not_eq_true', Bool.not_eq_false', Bool.not_true, Bool.not_false, Bool.and_eq_true, Bool.or_eq_true, bne_iff_ne, beq_iff_eq, ne_eq]); (try simp only [rng, lo, hi, mnI, mxI, Int.toNat_natCast, Sg.n, Nat.mul_one, Nat.zero_add, Nat.add_zero, Nat.reduceAdd, List.getD_cons_zero, List.getD_cons_succ]))
      ((repeat' (first | (with_reducible apply And.intro) | intro _)); all_goals (first | exact trivial | (with_reducible assumption) | (show (_ : List Blk) = _; rfl) | (first | exact trivial | (with_reducible assumption) | omega | (split <;> omega) | (split <;> split <;> omega)) | skip); all_goals (try (refine ⟨rfl, (by first | exact Nat.le_refl _ | exact Nat.le_of_ble_eq_true rfl), rfl, rfl, ?_, (by repeat' (first | exact trivial | rfl | apply And.intro)), rfl, rfl⟩)))
      all_goals (try first | omega | contradiction)
      exact ⟨ihO (y + 1) (by omega) (by omega) [0, 1, 2, 3, 4] _ _ ⟨rfl, rfl, rfl, (by repeat' (first | exact trivial | rfl | apply And.intro)), (by repeat' (first | exact trivial | rfl | apply And.intro)), rfl, rfl, rfl⟩⟩
  · obtain rfl : y = (p.getD 1 0).toNat := by omega
    clear ihO
    have hwl : (whY Z N (List.replicate (Ys.length + 1) [0]) w (p.getD 1 0).toNat).length = Ys.length + 1 := by rw [whY_len, List.length_replicate]
    generalize whY Z N (List.replicate (Ys.length + 1) [0]) w (p.getD 1 0).toNat = W at *
    refine Goes.tree Γ_ok htb 1000 false false Try.func104 rfl ?_
    ((try simp only [decide_eq_true_eq, decide_eq_false_iff_not, Bool.not_eq_true', Bool.not_eq_false', Bool.not_true, Bool.not_false, Bool.and_eq_true, Bool.or_eq_true, bne_iff_ne, beq_iff_eq, ne_eq]); (try simp only [rng, lo, hi, mnI, mxI, Int.toNat_natCast, Sg.n, Nat.mul_one, Nat.zero_add, Nat.add_zero, Nat.reduceAdd, List.getD_cons_zero, List.getD_cons_succ]))
    ((repeat' (first | (with_reducible apply And.intro) | intro _)); all_goals (first | exact trivial | (with_reducible assumption) | (show (_ : List Blk) = _; rfl) | (first | exact trivial | (with_reducible assumption) | omega | (split <;> omega) | (split <;> split <;> omega)) | skip); all_goals (try (refine ⟨rfl, (by first | exact Nat.le_refl _ | exact Nat.le_of_ble_eq_true rfl), rfl, rfl, ?_, (by repeat' (first | exact trivial | rfl | apply And.intro)), rfl, rfl⟩)))
    all_goals (try first | omega | contradiction)
    refine ⟨?_⟩
    refine Goes.loopR (fun y : Nat => (p.getD 1 0).toNat - y) (fun y => y ≤ (p.getD 1 0).toNat) (fun y => (.pw 0 .pas :: .pw 1 .bgrid :: .any :: .any :: .pw 2 .bgrid :: .pw 3 .lgrid :: .any :: .ow 4 (Ys.length + 1) .bool 4 :: .any :: .any :: .pw 5 .bgrid :: .i .i8 (y : Int) :: .any :: .any :: .any :: .any :: .any :: .any :: .any :: .any :: .any :: .any :: .any :: .any :: .any :: .any :: .any :: .any :: .any :: .any :: .any :: .any :: .any :: .any :: .any :: .any :: .any :: .any :: .any :: .any :: .any :: .any :: .any :: .any :: .any :: .any :: .any :: .any :: .any :: .any :: .any :: .any :: .any :: .any :: .any :: .any :: .any :: .any :: .any :: .any :: .any :: .any :: .any :: .any :: .any :: .any :: .any :: .any :: .any :: .any :: .any :: .any :: .any :: .any :: .any :: .any :: .any :: .any :: .any :: .any :: .any :: .any :: []))
      (fun y => [.c .pas p, .c .bgrid N, .c .bgrid (List.replicate 100 0), .c .lgrid Z, .l .bool W, .c .bgrid (ouY Z W w y)]) 0 [0, 1, 2, 3, 4, 5] (Nat.zero_le _) ⟨rfl, rfl, rfl, (by repeat' (first | exact trivial | rfl | apply And.intro)), (by repeat' (first | exact trivial | rfl | apply And.intro)), rfl, rfl, rfl⟩ fun y hy ihO => ?_
    by_cases hlt2 : y < (p.getD 1 0).toNat
    · refine Goes.tree Γ_ok htb 1000 false false Try.func104 rfl ?_
      ((try simp only [decide_eq_true_eq, decide_eq_false_iff_not, Bool.not_eq_true', Bool.not_eq_false', Bool.not_true, Bool.not_false, Bool.and_eq_true, Bool.or_eq_true, bne_iff_ne, beq_iff_eq, ne_eq]); (try simp only [rng, lo, hi, mnI, mxI, Int.toNat_natCast, Sg.n, Nat.mul_one, Nat.zero_add, Nat.add_zero, Nat.reduceAdd, List.getD_cons_zero, List.getD_cons_succ]))
      ((repeat' (first | (with_reducible apply And.intro) | intro _)); all_goals (first | exact trivial | (with_reducible assumption) | (show (_ : List Blk) = _; rfl) | (first | exact trivial | (with_reducible assumption) | omega | (split <;> omega) | (split <;> split <;> omega)) | skip); all_goals (try (refine ⟨rfl, (by first | exact Nat.le_refl _ | exact Nat.le_of_ble_eq_true rfl), rfl, rfl, ?_, (by repeat' (first | exact trivial | rfl | apply And.intro)), rfl, rfl⟩)))
      all_goals (try first | omega | contradiction)
      refine ⟨?_⟩
      refine Goes.loopR (fun x : Nat => w - x) (fun x => x ≤ w) (fun x => (.pw 0 .pas :: .pw 1 .bgrid :: .any :: .any :: .pw 2 .bgrid :: .pw 3 .lgrid :: .any :: .ow 4 (Ys.length + 1) .bool 4 :: .any :: .any :: .pw 5 .bgrid :: .i .i8 (y : Int) :: .i .i8 (x : Int) :: .any :: .any :: .any :: .any :: .any :: .any :: .any :: .any :: .any :: .any :: .any :: .any :: .any :: .any :: .any :: .any :: .any :: .any :: .any :: .any :: .any :: .any :: .any :: .any :: .any :: .any :: .any :: .any :: .any :: .any :: .any :: .any :: .any :: .any :: .any :: .any :: .any :: .any :: .any :: .any :: .any :: .any :: .any :: .any :: .any :: .any :: .any :: .any :: .any :: .any :: .any :: .any :: .any :: .any :: .any :: .any :: .any :: .any :: .any :: .any :: .any :: .any :: .any :: .any :: .any :: .any :: .any :: .any :: .any :: []))
        (fun x => [.c .pas p, .c .bgrid N, .c .bgrid (List.replicate 100 0), .c .lgrid Z, .l .bool W, .c .bgrid (ouX Z W (ouY Z W w y) y x)]) 0 [0, 1, 2, 3, 4, 5] (Nat.zero_le _) ⟨rfl, rfl, rfl, (by repeat' (first | exact trivial | rfl | apply And.intro)), (by repeat' (first | exact trivial | rfl | apply And.intro)), rfl, rfl, rfl⟩ fun x hx ih => ?_
      by_cases hltx : x < w
      · have hz := hrg (y * 10 + x)
        have ew : ouX Z W (ouY Z W w y) y (x + 1) = (ouX Z W (ouY Z W w y) y x).set (cx [(x : Int), (y : Int)]) (if ((W.getD (Z.getD (cx [(x : Int), (y : Int)]) 0).toNat []).getD 0 0 != 0) = true then 1 else 0) := rfl
        have eb : ∀ v : Int, (if (v != 0) = true then (1 : Int) else 0) = if ¬ v = 0 then 1 else 0 := fun v => by simp
        rw [cx_nat, eb] at ew
        have ih := ih (x + 1)
        rw [ew] at ih
        generalize ouX Z W (ouY Z W w y) y x = R at *
        clear ew
        refine Goes.tree Γ_ok htb 1000 false false Try.func104 rfl ?_
        ((try simp only [decide_eq_true_eq, decide_eq_false_iff_not, Bool.not_eq_true', Bool.not_eq_false', Bool.not_true, Bool.not_false, Bool.and_eq_true, Bool.or_eq_true, bne_iff_ne, beq_iff_eq, ne_eq]); (try simp only [rng, lo, hi, mnI, mxI, Int.toNat_natCast, Sg.n, Nat.mul_one, Nat.zero_add, Nat.add_zero, Nat.reduceAdd, List.getD_cons_zero, List.getD_cons_succ]))
        ((repeat' (first | (with_reducible apply And.intro) | intro _)); all_goals (first | exact trivial | (with_reducible assumption) | (show (_ : List Blk) = _; rfl) | (first | exact trivial | (with_reducible assumption) | omega | (split <;> omega) | (split <;> split <;> omega)) | skip); all_goals (try (refine ⟨rfl, (by first | exact Nat.le_refl _ | exact Nat.le_of_ble_eq_true rfl), rfl, rfl, ?_, (by repeat' (first | exact trivial | rfl | apply And.intro)), rfl, rfl⟩)))
        all_goals (try first | omega | contradiction)
        all_goals (first | exact ⟨ih (by omega) (by omega) [0, 1, 2, 3, 4, 5] _ _ ⟨rfl, rfl, rfl, (by repeat' (first | exact trivial | rfl | apply And.intro)), (by repeat' (first | exact trivial | rfl | apply And.intro)), rfl, rfl, rfl⟩⟩ | trace_state)
      · obtain rfl : x = w := by omega
        refine Goes.tree Γ_ok htb 1000 false false Try.func104 rfl ?_
        ((try simp only [decide_eq_true_eq, decide_eq_false_iff_not, Bool.not_eq_true', Bool.not_eq_false', Bool.not_true, Bool.not_false, Bool.and_eq_true, Bool.or_eq_true, bne_iff_ne, beq_iff_eq, ne_eq]); (try simp only [rng, lo, hi, mnI, mxI, Int.toNat_natCast, Sg.n, Nat.mul_one, Nat.zero_add, Nat.add_zero, Nat.reduceAdd, List.getD_cons_zero, List.getD_cons_succ]))
        ((repeat' (first | (with_reducible apply And.intro) | intro _)); all_goals (first | exact trivial | (with_reducible assumption) | (show (_ : List Blk) = _; rfl) | (first | exact trivial | (with_reducible assumption) | omega | (split <;> omega) | (split <;> split <;> omega)) | skip); all_goals (try (refine ⟨rfl, (by first | exact Nat.le_refl _ | exact Nat.le_of_ble_eq_true rfl), rfl, rfl, ?_, (by repeat' (first | exact trivial | rfl | apply And.intro)), rfl, rfl⟩)))
        all_goals (try first | omega | contradiction)
        exact ⟨ihO (y + 1) (by omega) (by omega) [0, 1, 2, 3, 4, 5] _ _ ⟨rfl, rfl, rfl, (by repeat' (first | exact trivial | rfl | apply And.intro)), (by repeat' (first | exact trivial | rfl | apply And.intro)), rfl, rfl, rfl⟩⟩
    · obtain rfl : y = (p.getD 1 0).toNat := by omega
      clear ihO
      refine Goes.tree Γ_ok htb 1000 false false Try.func104 rfl ?_
      ((try simp only [decide_eq_true_eq, decide_eq_false_iff_not, Bool.not_eq_true', Bool.not_eq_false', Bool.not_true, Bool.not_false, Bool.and_eq_true, Bool.or_eq_true, bne_iff_ne, beq_iff_eq, ne_eq]); (try simp only [rng, lo, hi, mnI, mxI, Int.toNat_natCast, Sg.n, Nat.mul_one, Nat.zero_add, Nat.add_zero, Nat.reduceAdd, List.getD_cons_zero, List.getD_cons_succ]))
      ((repeat' (first | (with_reducible apply And.intro) | intro _)); all_goals (first | exact trivial | (with_reducible assumption) | (show (_ : List Blk) = _; rfl) | (first | exact trivial | (with_reducible assumption) | omega | (split <;> omega) | (split <;> split <;> omega)) | skip); all_goals (try (refine ⟨rfl, (by first | exact Nat.le_refl _ | exact Nat.le_of_ble_eq_true rfl), rfl, rfl, ?_, (by repeat' (first | exact trivial | rfl | apply And.intro)), rfl, rfl⟩)))
      all_goals (first | omega | contradiction | exact sameA_refl _ | trace_state)
end Go.Proofs.Ytfelemoefhbphaa
