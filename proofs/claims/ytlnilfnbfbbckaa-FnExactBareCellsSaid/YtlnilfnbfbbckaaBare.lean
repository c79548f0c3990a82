/- The cells that are chosen. -/
import Derived.Test.YtlnilfnbfbbckaaCell
namespace Go.Proofs.Ytlnilfnbfbbckaa
open Go Go.Eng
set_option linter.unusedSimpArgs false
set_option linter.unusedVariables false
set_option maxRecDepth 100000
set_option maxHeartbeats 4000000

/-- The chosen cells of the first x cells of row y, behind others; then of rows. -/
def rowF (f : List Int → Bool) (acc : List (List Int)) (y : Nat) : Nat → List (List Int)
  | 0 => acc
  | x + 1 => if f [(x : Int), (y : Int)] = true then rowF f acc y x ++ [[(x : Int), (y : Int)]] else rowF f acc y x
def spotsF (f : List Int → Bool) (w : Nat) : Nat → List (List Int)
  | 0 => []
  | y + 1 => rowF f (spotsF f w y) y w

theorem rowF_len (f : List Int → Bool) (acc : List (List Int)) (y x : Nat) : (rowF f acc y x).length ≤ acc.length + x := by
  induction x with
  | zero => exact Nat.le_refl _
  | succ x ih => unfold rowF; split <;> (try simp only [List.length_append, List.length_cons, List.length_nil]) <;> omega
theorem spotsF_len (f : List Int → Bool) (w y : Nat) : (spotsF f w y).length ≤ w * y := by
  induction y with
  | zero => exact Nat.le_refl _
  | succ y ih => have := rowF_len f (spotsF f w y) y w; rw [spotsF, Nat.mul_succ]; omega

def bare (p s : List Int) : Bool := decide (gAt p s = 0)

def bareS : Fun
  | [.ag .spot s, .pw 0 .pas], [.c .pas p] => some (.b (bare p s), [.c .pas p], [inG s])
  | _, _ => .none
set_option maxRecDepth 100000 in
theorem s_bare : Sound Try.prog 59 bareS := by
  intro args M r M' vs h hvs
  unfold bareS at h
  split at h
  case h_2 => cases h
  rename_i s p
  cases h
  refine SpecOK.assume fun hA hM => ?_
  have htb := (TbOk.cons s_grass Try.func60 rfl rfl (TbOk.nil : TbOk Try.prog tb0))
  refine SpecOK.of_goes [0] Try.func59 rfl ?_
  obtain ⟨hb, -⟩ := hvs
  refine Goes.tree Γ_ok htb 1000 false false Try.func59 rfl ?_
  ((try simp only [decide_eq_true_eq, decide_eq_false_iff_not, Bool.not_eq_true', Bool.not_eq_false', Bool.not_true, Bool.not_false, Bool.and_eq_true, Bool.or_eq_true, bne_iff_ne, beq_iff_eq, ne_eq]); (try simp only [rng, lo, hi, mnI, mxI, Int.toNat_natCast, Sg.n, Nat.mul_one, Nat.zero_add, Nat.add_zero, Nat.reduceAdd, List.getD_cons_zero, List.getD_cons_succ]))
  ((repeat' (first | (with_reducible apply And.intro) | intro _)); all_goals (first | exact trivial | (with_reducible assumption) | (show (_ : List Blk) = _; rfl) | (first | exact trivial | (with_reducible assumption) | omega | (split <;> omega) | (split <;> split <;> omega)) | skip); all_goals (try (refine ⟨rfl, (by first | exact Nat.le_refl _ | exact Nat.le_of_ble_eq_true rfl), rfl, rfl, ?_, (by repeat' (first | exact trivial | rfl | apply And.intro)), rfl, rfl⟩)))
  exact sameA_refl _

def cellsBareS : Fun
  | [.ag .pas p, .fn 59 [(0, .pas)]], [.c .pas q] => some (.ow 1 (spotsF (bare q) (p.getD 0 0).toNat (p.getD 1 0).toNat).length .spot 37, [.c .pas q, .l .spot (spotsF (bare q) (p.getD 0 0).toNat (p.getD 1 0).toNat)], [okD p])
  | _, _ => .none

set_option maxRecDepth 100000 in
theorem s_cellsBare : Sound Try.prog 58 cellsBareS := by
  intro args M r M' vs h hvs
  unfold cellsBareS at h
  split at h
  case h_2 => cases h
  rename_i p q
  cases h
  refine SpecOK.assume fun hA hM => ?_
  have htb := (TbOk.cons s_bare Try.func59 rfl rfl (TbOk.nil : TbOk Try.prog tb0))
  refine SpecOK.of_goes [0, 2] Try.func58 rfl ?_
  obtain ⟨⟨hw1, hw2, hh1, hh2⟩, -⟩ := hvs
  clear hA hM
  have hb : ∀ y, y ≤ (p.getD 1 0).toNat → (p.getD 0 0).toNat * y ≤ 10 * 10 := fun y hy => Nat.mul_le_mul (by omega) (by omega)
  refine Goes.tree Γ_ok htb 1000 false false Try.func58 rfl ?_
  refine ⟨?_⟩
  refine Goes.loopR (fun y : Nat => (p.getD 1 0).toNat - y) (fun y => y ≤ (p.getD 1 0).toNat) (fun y => (.any :: .fn 59 [(0, .pas)] :: .pw 1 .pas :: .any :: .any :: .ow 2 (spotsF (bare q) (p.getD 0 0).toNat y).length .spot 37 :: .any :: .any :: .any :: .any :: .any :: .i .i8 (p.getD 1 0) :: .i .i8 (y:Int) :: .any :: .any :: .any :: .any :: .any :: .any :: .any :: .any :: .any :: .any :: .any :: .any :: .any :: .any :: .any :: .any :: .any :: .any :: .any :: .any :: []))
    (fun y => [.c .pas q, .c .pas p, .l .spot (spotsF (bare q) (p.getD 0 0).toNat y)]) 0 [0, 1, 2] (by omega) ⟨rfl, rfl, rfl, (by repeat' (first | exact trivial | rfl | apply And.intro)), (by repeat' (first | exact trivial | rfl | apply And.intro)), rfl, rfl, rfl⟩ fun y hy ihO => ?_
  have hb1 := hb y hy
  by_cases hlt : (y : Int) < p.getD 1 0
  · refine Goes.tree Γ_ok htb 1000 false false Try.func58 rfl ?_
    ((try simp only [decide_eq_true_eq, decide_eq_false_iff_not, Bool.not_eq_true', Bool.not_eq_false', Bool.not_true, Bool.not_false, Bool.and_eq_true, Bool.or_eq_true, bne_iff_ne, beq_iff_eq, ne_eq]); (try simp only [rng, lo, hi, mnI, mxI, Int.toNat_natCast, Sg.n, Nat.mul_one, Nat.zero_add, Nat.add_zero, Nat.reduceAdd, List.getD_cons_zero, List.getD_cons_succ]))
    ((repeat' (first | (with_reducible apply And.intro) | intro _)); all_goals (first | exact trivial | (with_reducible assumption) | (show (_ : List Blk) = _; rfl) | (first | exact trivial | (with_reducible assumption) | omega | (split <;> omega) | (split <;> split <;> omega)) | skip); all_goals (try (refine ⟨rfl, (by first | exact Nat.le_refl _ | exact Nat.le_of_ble_eq_true rfl), rfl, rfl, ?_, (by repeat' (first | exact trivial | rfl | apply And.intro)), rfl, rfl⟩)))
    refine ⟨?_⟩
    refine Goes.loopR (fun x : Nat => (p.getD 0 0).toNat - x) (fun x => x ≤ (p.getD 0 0).toNat) (fun x => (.any :: .fn 59 [(0, .pas)] :: .pw 1 .pas :: .any :: .any :: .ow 2 (rowF (bare q) (spotsF (bare q) (p.getD 0 0).toNat y) y x).length .spot 37 :: .i .i8 (y:Int) :: .any :: .any :: .any :: .any :: .i .i8 (p.getD 1 0) :: .i .i8 (y:Int) :: .any :: .any :: .any :: .i .i8 (p.getD 0 0) :: .i .i8 (x:Int) :: .any :: .any :: .any :: .any :: .any :: .any :: .any :: .any :: .any :: .any :: .any :: .any :: .any :: .any :: .any :: []))
      (fun x => [.c .pas q, .c .pas p, .l .spot (rowF (bare q) (spotsF (bare q) (p.getD 0 0).toNat y) y x)]) 0 [0, 1, 2] (by omega) ⟨rfl, rfl, rfl, (by repeat' (first | exact trivial | rfl | apply And.intro)), (by repeat' (first | exact trivial | rfl | apply And.intro)), rfl, rfl, rfl⟩ fun x hx ih => ?_
    have l1 := rowF_len (bare q) (spotsF (bare q) (p.getD 0 0).toNat y) y x
    have l2 := spotsF_len (bare q) (p.getD 0 0).toNat y
    have hyes : bare q [(x:Int), (y:Int)] = true → rowF (bare q) (spotsF (bare q) (p.getD 0 0).toNat y) y (x + 1) = rowF (bare q) (spotsF (bare q) (p.getD 0 0).toNat y) y x ++ [[(x : Int), (y : Int)]] := fun h => by rw [rowF, if_pos h]
    have hno : bare q [(x:Int), (y:Int)] = false → rowF (bare q) (spotsF (bare q) (p.getD 0 0).toNat y) y (x + 1) = rowF (bare q) (spotsF (bare q) (p.getD 0 0).toNat y) y x := fun h => by rw [rowF, if_neg (by rw [h]; decide)]
    refine Goes.tree Γ_ok htb 1000 false false Try.func58 rfl ?_
    ((try simp only [decide_eq_true_eq, decide_eq_false_iff_not, Bool.not_eq_true', Bool.not_eq_false', Bool.not_true, Bool.not_false, Bool.and_eq_true, Bool.or_eq_true, bne_iff_ne, beq_iff_eq, ne_eq]); (try simp only [rng, lo, hi, mnI, mxI, Int.toNat_natCast, Sg.n, Nat.mul_one, Nat.zero_add, Nat.add_zero, Nat.reduceAdd, List.getD_cons_zero, List.getD_cons_succ, one_row]))
    ((repeat' (first | (with_reducible apply And.intro) | intro _)); all_goals (first | exact trivial | (with_reducible assumption) | (show (_ : List Blk) = _; rfl) | (first | exact trivial | (with_reducible assumption) | omega | (split <;> omega) | (split <;> split <;> omega)) | skip); all_goals (try (refine ⟨rfl, (by first | exact Nat.le_refl _ | exact Nat.le_of_ble_eq_true rfl), rfl, rfl, ?_, (by repeat' (first | exact trivial | rfl | apply And.intro)), rfl, rfl⟩)))
    · simp only [inG, List.getD_cons_zero, List.getD_cons_succ]; omega
    · show (rowF (bare q) (spotsF (bare q) (p.getD 0 0).toNat y) y x ++ [[(x:Int), (y:Int)]]).length ≤ _
      simp only [List.length_append, List.length_cons, List.length_nil]; omega
    · refine ⟨ih (x + 1) (by omega) (by omega) [0, 1, 5] _ _ ?_⟩
      rw [hyes (by assumption)]
      exact ⟨rfl, rfl, rfl, (by repeat' (first | exact trivial | rfl | apply And.intro)), (by repeat' (first | exact trivial | rfl | apply And.intro)), rfl, rfl, rfl⟩
    · refine ⟨ih (x + 1) (by omega) (by omega) [0, 1, 2] _ _ ?_⟩
      rw [hno (by assumption)]
      exact ⟨rfl, rfl, rfl, (by repeat' (first | exact trivial | rfl | apply And.intro)), (by repeat' (first | exact trivial | rfl | apply And.intro)), rfl, rfl, rfl⟩
    · obtain rfl : x = (p.getD 0 0).toNat := by omega
      exact ⟨ihO (y + 1) (by omega) (by omega) [0, 1, 2] _ _ ⟨rfl, rfl, rfl, (by repeat' (first | exact trivial | rfl | apply And.intro)), (by repeat' (first | exact trivial | rfl | apply And.intro)), rfl, rfl, rfl⟩⟩
  · obtain rfl : y = (p.getD 1 0).toNat := by omega
    clear ihO
    refine Goes.tree Γ_ok htb 1000 false false Try.func58 rfl ?_
    ((try simp only [decide_eq_true_eq, decide_eq_false_iff_not, Bool.not_eq_true', Bool.not_eq_false', Bool.not_true, Bool.not_false, Bool.and_eq_true, Bool.or_eq_true, bne_iff_ne, beq_iff_eq, ne_eq]); (try simp only [rng, lo, hi, mnI, mxI, Int.toNat_natCast, Sg.n, Nat.mul_one, Nat.zero_add, Nat.add_zero, Nat.reduceAdd, List.getD_cons_zero, List.getD_cons_succ]))
    ((repeat' (first | (with_reducible apply And.intro) | intro _)); all_goals (first | exact trivial | (with_reducible assumption) | (show (_ : List Blk) = _; rfl) | (first | exact trivial | (with_reducible assumption) | omega | (split <;> omega) | (split <;> split <;> omega)) | skip); all_goals (try (refine ⟨rfl, (by first | exact Nat.le_refl _ | exact Nat.le_of_ble_eq_true rfl), rfl, rfl, ?_, (by repeat' (first | exact trivial | rfl | apply And.intro)), rfl, rfl⟩)))
    all_goals (first | contradiction | exact sameA_refl _)

def bareRows (p : List Int) : List (List Int) := spotsF (bare p) (p.getD 0 0).toNat (p.getD 1 0).toNat

def bareOfS : Fun
  | [.ag .pas p], [] => some (.t2 (.fs .spot (if okP p then bareRows p else [])) (.i .i64 (if okP p then 0 else 1)), [], [])
  | _, _ => .none
def bareOkS : Fun
  | [.ag .pas p], [] => some (.t2 (.ow 0 (bareRows p).length .spot 37) (.i .i64 0), [.l .spot (bareRows p)], [okP p])
  | _, _ => .none
def bareErrS : Fun
  | [.ag .pas p], [] => some (.t2 .nsl (.i .i64 1), [], [¬ okP p])
  | _, _ => .none

set_option maxRecDepth 100000 in
theorem s_bareOk : Sound Try.prog 20 bareOkS := by
  intro args M r M' vs h hvs
  unfold bareOkS at h
  split at h
  case h_2 => cases h
  rename_i p
  cases h
  refine SpecOK.assume fun hA hM => ?_
  have htb := (TbOk.cons s_ValidPasture Try.func56 rfl rfl (TbOk.cons s_cellsBare Try.func58 rfl rfl (TbOk.nil : TbOk Try.prog tb0)))
  refine SpecOK.of_goes [1] Try.func20 rfl ?_
  obtain ⟨hc, -⟩ := hvs
  clear hA hM
  refine Goes.tree Γ_ok htb 1000 false false Try.func20 rfl ?_
  ((try simp only [decide_eq_true_eq, decide_eq_false_iff_not, Bool.not_eq_true', Bool.not_eq_false', Bool.not_true, Bool.not_false, Bool.and_eq_true, Bool.or_eq_true, bne_iff_ne, beq_iff_eq, ne_eq]); (try simp only [rng, lo, hi, mnI, mxI, Int.toNat_natCast, Sg.n, Nat.mul_one, Nat.zero_add, Nat.add_zero, Nat.reduceAdd, List.getD_cons_zero, List.getD_cons_succ]))
  (repeat' (first | (with_reducible apply And.intro) | intro _))
  all_goals (first | contradiction | exact trivial | (show (_ : List Blk) = _; rfl) | exact hc.1 | ((refine ⟨rfl, (by first | exact Nat.le_refl _ | exact Nat.le_of_ble_eq_true rfl), rfl, rfl, ?_, (by repeat' (first | exact trivial | rfl | apply And.intro)), rfl, rfl⟩); exact sameA_refl _))
set_option maxRecDepth 100000 in
theorem s_bareErr : Sound Try.prog 20 bareErrS := by
  intro args M r M' vs h hvs
  unfold bareErrS at h
  split at h
  case h_2 => cases h
  rename_i p
  cases h
  refine SpecOK.assume fun hA hM => ?_
  have htb := (TbOk.cons s_ValidPasture Try.func56 rfl rfl (TbOk.cons s_cellsBare Try.func58 rfl rfl (TbOk.nil : TbOk Try.prog tb0)))
  refine SpecOK.of_goes [] Try.func20 rfl ?_
  obtain ⟨hc, -⟩ := hvs
  clear hA hM
  refine Goes.tree Γ_ok htb 1000 false false Try.func20 rfl ?_
  ((try simp only [decide_eq_true_eq, decide_eq_false_iff_not, Bool.not_eq_true', Bool.not_eq_false', Bool.not_true, Bool.not_false, Bool.and_eq_true, Bool.or_eq_true, bne_iff_ne, beq_iff_eq, ne_eq]); (try simp only [rng, lo, hi, mnI, mxI, Int.toNat_natCast, Sg.n, Nat.mul_one, Nat.zero_add, Nat.add_zero, Nat.reduceAdd, List.getD_cons_zero, List.getD_cons_succ]))
  (repeat' (first | (with_reducible apply And.intro) | intro _))
  all_goals (first | contradiction | exact trivial | (show (_ : List Blk) = _; rfl) | ((refine ⟨rfl, (by first | exact Nat.le_refl _ | exact Nat.le_of_ble_eq_true rfl), rfl, rfl, ?_, (by repeat' (first | exact trivial | rfl | apply And.intro)), rfl, rfl⟩); exact sameA_refl _))

set_option maxRecDepth 100000 in
theorem s_specBare : Sound Try.prog 19 bareOfS := by
  intro args M r M' vs h hvs
  unfold bareOfS at h
  split at h
  case h_2 => cases h
  rename_i p
  cases h
  refine SpecOK.assume fun hA hM => ?_
  have htb := (TbOk.cons s_l01Ok Try.func52 rfl rfl (TbOk.nil : TbOk Try.prog tb0))
  refine SpecOK.of_goes [] Try.func19 rfl ?_
  have hp : PasOk p := ⟨hA.1, hA.2.1⟩
  clear hA hM
  refine Goes.tree Γ_ok htb 1000 true false Try.func19 rfl ?_
  ((try simp only [decide_eq_true_eq, decide_eq_false_iff_not, Bool.not_eq_true', Bool.not_eq_false', Bool.not_true, Bool.not_false, Bool.and_eq_true, Bool.or_eq_true, bne_iff_ne, beq_iff_eq, ne_eq]); (try simp only [rng, lo, hi, mnI, mxI, Int.toNat_natCast, Sg.n, Nat.mul_one, Nat.zero_add, Nat.add_zero, Nat.reduceAdd, List.getD_cons_zero, List.getD_cons_succ]))
  ((repeat' (first | (with_reducible apply And.intro) | intro _)); all_goals (first | exact trivial | (with_reducible assumption) | (show (_ : List Blk) = _; rfl) | (first | exact trivial | (with_reducible assumption) | omega | (split <;> omega) | (split <;> split <;> omega)) | skip); all_goals (try (refine ⟨rfl, (by first | exact Nat.le_refl _ | exact Nat.le_of_ble_eq_true rfl), rfl, rfl, ?_, (by repeat' (first | exact trivial | rfl | apply And.intro)), rfl, rfl⟩)))
  · refine sameA_ft ?_ ?_
    · rw [if_neg (by assumption)]; rfl
    · rw [if_neg (by assumption)]
  rename_i hok
  obtain ⟨⟨hw1, hw2, hh1, hh2⟩, hrow⟩ := hok
  have hok : okP p := ⟨⟨hw1, hw2, hh1, hh2⟩, hrow⟩
  refine ⟨?_⟩
  have hb : ∀ y, y ≤ (p.getD 1 0).toNat → (p.getD 0 0).toNat * y ≤ 10 * 10 := fun y hy => Nat.mul_le_mul (by omega) (by omega)
  refine Goes.loopR (fun y : Nat => (p.getD 1 0).toNat - y) (fun y => y ≤ (p.getD 1 0).toNat) (fun y => (.any :: .pw 0 .pas :: .any :: .any :: .ow 1 (spotsF (bare p) (p.getD 0 0).toNat y).length .spot 37 :: .i .i8 (y:Int) :: .any :: .any :: .any :: .any :: .any :: .any :: .any :: .any :: .any :: .any :: .any :: .any :: .any :: .any :: .any :: .any :: .any :: .any :: .any :: .any :: .any :: .any :: .any :: .any :: .any :: .any :: .any :: .any :: .any :: .any :: .any :: []))
    (fun y => [.c .pas p, .l .spot (spotsF (bare p) (p.getD 0 0).toNat y)]) 0 [0, 1] (by omega) ⟨rfl, rfl, rfl, (by repeat' (first | exact trivial | rfl | apply And.intro)), (by repeat' (first | exact trivial | rfl | apply And.intro)), rfl, rfl, rfl⟩ fun y hy ihO => ?_
  have hb1 := hb y hy
  by_cases hlt : (y : Int) < p.getD 1 0
  · refine Goes.tree Γ_ok htb 1000 true false Try.func19 rfl ?_
    ((try simp only [decide_eq_true_eq, decide_eq_false_iff_not, Bool.not_eq_true', Bool.not_eq_false', Bool.not_true, Bool.not_false, Bool.and_eq_true, Bool.or_eq_true, bne_iff_ne, beq_iff_eq, ne_eq]); (try simp only [rng, lo, hi, mnI, mxI, Int.toNat_natCast, Sg.n, Nat.mul_one, Nat.zero_add, Nat.add_zero, Nat.reduceAdd, List.getD_cons_zero, List.getD_cons_succ]))
    ((repeat' (first | (with_reducible apply And.intro) | intro _)); all_goals (first | exact trivial | (with_reducible assumption) | (show (_ : List Blk) = _; rfl) | (first | exact trivial | (with_reducible assumption) | omega | (split <;> omega) | (split <;> split <;> omega)) | skip); all_goals (try (refine ⟨rfl, (by first | exact Nat.le_refl _ | exact Nat.le_of_ble_eq_true rfl), rfl, rfl, ?_, (by repeat' (first | exact trivial | rfl | apply And.intro)), rfl, rfl⟩)))
    refine ⟨?_⟩
    refine Goes.loopR (fun x : Nat => (p.getD 0 0).toNat - x) (fun x => x ≤ (p.getD 0 0).toNat) (fun x => (.any :: .pw 0 .pas :: .any :: .any :: .ow 1 (rowF (bare p) (spotsF (bare p) (p.getD 0 0).toNat y) y x).length .spot 37 :: .i .i8 (y:Int) :: .i .i8 (x:Int) :: .any :: .any :: .any :: .any :: .any :: .any :: .any :: .any :: .any :: .any :: .any :: .any :: .any :: .any :: .any :: .any :: .any :: .any :: .any :: .any :: .any :: .any :: .any :: .any :: .any :: .any :: .any :: .any :: .any :: .any :: []))
      (fun x => [.c .pas p, .l .spot (rowF (bare p) (spotsF (bare p) (p.getD 0 0).toNat y) y x)]) 0 [0, 1] (by omega) ⟨rfl, rfl, rfl, (by repeat' (first | exact trivial | rfl | apply And.intro)), (by repeat' (first | exact trivial | rfl | apply And.intro)), rfl, rfl, rfl⟩ fun x hx ih => ?_
    have l1 := rowF_len (bare p) (spotsF (bare p) (p.getD 0 0).toNat y) y x
    have l2 := spotsF_len (bare p) (p.getD 0 0).toNat y
    have hbv : bare p [(x:Int), (y:Int)] = decide (p.getD (2 + y * 10 + x) 0 = 0) := by unfold bare gAt; simp only [List.getD_cons_zero, List.getD_cons_succ, Int.toNat_natCast, Nat.mul_one]
    have hyes : p.getD (2 + y * 10 + x) 0 = 0 → rowF (bare p) (spotsF (bare p) (p.getD 0 0).toNat y) y (x + 1) = rowF (bare p) (spotsF (bare p) (p.getD 0 0).toNat y) y x ++ [[(x : Int), (y : Int)]] := fun h => by rw [rowF, if_pos (by rw [hbv]; exact decide_eq_true h)]
    have hno : ¬ p.getD (2 + y * 10 + x) 0 = 0 → rowF (bare p) (spotsF (bare p) (p.getD 0 0).toNat y) y (x + 1) = rowF (bare p) (spotsF (bare p) (p.getD 0 0).toNat y) y x := fun h => by rw [rowF, if_neg (by rw [hbv, decide_eq_false h]; decide)]
    refine Goes.tree Γ_ok htb 1000 true false Try.func19 rfl ?_
    ((try simp only [decide_eq_true_eq, decide_eq_false_iff_not, Bool.not_eq_true', Bool.not_eq_false', Bool.not_true, Bool.not_false, Bool.and_eq_true, Bool.or_eq_true, bne_iff_ne, beq_iff_eq, ne_eq]); (try simp only [rng, lo, hi, mnI, mxI, Int.toNat_natCast, Sg.n, Nat.mul_one, Nat.zero_add, Nat.add_zero, Nat.reduceAdd, List.getD_cons_zero, List.getD_cons_succ, one_row]))
    ((repeat' (first | (with_reducible apply And.intro) | intro _)); all_goals (first | exact trivial | (with_reducible assumption) | (show (_ : List Blk) = _; rfl) | (first | exact trivial | (with_reducible assumption) | omega | (split <;> omega) | (split <;> split <;> omega)) | skip); all_goals (try (refine ⟨rfl, (by first | exact Nat.le_refl _ | exact Nat.le_of_ble_eq_true rfl), rfl, rfl, ?_, (by repeat' (first | exact trivial | rfl | apply And.intro)), rfl, rfl⟩)))
    · show (rowF (bare p) (spotsF (bare p) (p.getD 0 0).toNat y) y x ++ [[(x:Int), (y:Int)]]).length ≤ _
      simp only [List.length_append, List.length_cons, List.length_nil]; omega
    · refine ⟨ih (x + 1) (by omega) (by omega) [0, 3] _ _ ?_⟩
      rw [hyes (by assumption)]
      exact ⟨rfl, rfl, rfl, (by repeat' (first | exact trivial | rfl | apply And.intro)), (by repeat' (first | exact trivial | rfl | apply And.intro)), rfl, rfl, rfl⟩
    · refine ⟨ih (x + 1) (by omega) (by omega) [0, 1] _ _ ?_⟩
      rw [hno (by assumption)]
      exact ⟨rfl, rfl, rfl, (by repeat' (first | exact trivial | rfl | apply And.intro)), (by repeat' (first | exact trivial | rfl | apply And.intro)), rfl, rfl, rfl⟩
    · obtain rfl : x = (p.getD 0 0).toNat := by omega
      exact ⟨ihO (y + 1) (by omega) (by omega) [0, 1] _ _ ⟨rfl, rfl, rfl, (by repeat' (first | exact trivial | rfl | apply And.intro)), (by repeat' (first | exact trivial | rfl | apply And.intro)), rfl, rfl, rfl⟩⟩
  · obtain rfl : y = (p.getD 1 0).toNat := by omega
    clear ihO
    refine Goes.tree Γ_ok htb 1000 true false Try.func19 rfl ?_
    ((try simp only [decide_eq_true_eq, decide_eq_false_iff_not, Bool.not_eq_true', Bool.not_eq_false', Bool.not_true, Bool.not_false, Bool.and_eq_true, Bool.or_eq_true, bne_iff_ne, beq_iff_eq, ne_eq]); (try simp only [rng, lo, hi, mnI, mxI, Int.toNat_natCast, Sg.n, Nat.mul_one, Nat.zero_add, Nat.add_zero, Nat.reduceAdd, List.getD_cons_zero, List.getD_cons_succ]))
    ((repeat' (first | (with_reducible apply And.intro) | intro _)); all_goals (first | exact trivial | (with_reducible assumption) | (show (_ : List Blk) = _; rfl) | (first | exact trivial | (with_reducible assumption) | omega | (split <;> omega) | (split <;> split <;> omega)) | skip); all_goals (try (refine ⟨rfl, (by first | exact Nat.le_refl _ | exact Nat.le_of_ble_eq_true rfl), rfl, rfl, ?_, (by repeat' (first | exact trivial | rfl | apply And.intro)), rfl, rfl⟩)))
    all_goals (first | contradiction | (refine sameA_ft ?_ ?_ <;> rw [if_pos hok] <;> rfl))
end Go.Proofs.Ytlnilfnbfbbckaa
