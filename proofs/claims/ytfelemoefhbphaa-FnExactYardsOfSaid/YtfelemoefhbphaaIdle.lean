/- The idle hurdles of a pasture. -/
import Derived.Test.YtfelemoefhbphaaDel
namespace Go.Proofs.Ytfelemoefhbphaa
open Go Go.Eng
set_option linter.unusedSimpArgs false
set_option linter.unusedVariables false
set_option maxRecDepth 100000
set_option maxHeartbeats 4000000

/-- The cells of a yard are named. -/
def putV (es : List (List Int × Int)) (v : Int) (rows : List (List Int)) : Nat → List (List Int × Int)
  | 0 => es
  | i + 1 => upM (putV es v rows i) (rows.getD i []) v
def nmK (Ys : List (List (List Int))) : Nat → List (List Int × Int)
  | 0 => []
  | i + 1 => putV (nmK Ys i) i (Ys.getD i []) (Ys.getD i []).length
noncomputable def namesP (p : List Int) : List (List Int × Int) := nmK (yL p (spots p)) (yL p (spots p)).length
noncomputable def idleL (p : List Int) : List (List Int) := leftH (namesP p) (hurRows p)

noncomputable def idleS : Fun
  | [.ag .pas p], [] => some (.fs .hur (idleL p), [], [okD p])
  | _, _ => .none
theorem hurRows_near {p : List Int} (hd : okD p) : ∀ r ∈ hurRows p, near r := by
  intro r hr
  have h1 := (sidK_mem _ r hr).1
  unfold stF hurP at h1
  simp only [Bool.and_eq_true] at h1
  have h2 := near_of hd h1.1.1
  unfold near at *
  simpa using h2
theorem s_idle : Sound Try.prog 87 idleS := by
  intro args M r M' vs h hvs
  unfold idleS at h
  split at h
  case h_2 => cases h
  rename_i p
  cases h
  obtain ⟨hd, -⟩ := hvs
  have hY := yL_100 hd
  have hYc := fun Y => yL_cells (l := spots p) (Y := Y) hd
  have hn := hurRows_near hd
  have hl := hurRows_len hd
  unfold idleL namesP
  generalize hYs : yL p (spots p) = Ys at *
  by_cases ha : (hurRows p).any (delH (nmK Ys Ys.length)) = true
  · skip
    have htb := (TbOk.cons s_yards Try.func64 rfl rfl (TbOk.cons s_hurdles Try.func133 rfl rfl (TbOk.cons s_delOk Try.func132 rfl rfl (TbOk.nil : TbOk Try.prog tb0))))
    refine SpecOK.of_goes [] Try.func87 rfl ?_
    refine Goes.tree Γ_ok htb 1000 true false Try.func87 rfl ?_
    ((try simp only [decide_eq_true_eq, decide_eq_false_iff_not, Bool.not_eq_true', Bool.not_eq_false', Bool.not_true, Bool.not_false, Bool.and_eq_true, Bool.or_eq_true, bne_iff_ne, beq_iff_eq, ne_eq]); (try simp only [rng, lo, hi, mnI, mxI, Int.toNat_natCast, Sg.n, Nat.mul_one, Nat.zero_add, Nat.add_zero, Nat.reduceAdd, List.getD_cons_zero, List.getD_cons_succ, hYs]))
    ((repeat' (first | (with_reducible apply And.intro) | intro _)); all_goals (first | exact trivial | (with_reducible assumption) | (show (_ : List Blk) = _; rfl) | (first | exact trivial | (with_reducible assumption) | omega | (split <;> omega) | (split <;> split <;> omega)) | skip); all_goals (try (refine ⟨rfl, (by first | exact Nat.le_refl _ | exact Nat.le_of_ble_eq_true rfl), rfl, rfl, ?_, (by repeat' (first | exact trivial | rfl | apply And.intro)), rfl, rfl⟩)))
    refine ⟨?_⟩
    refine Goes.loopR (fun i : Nat => Ys.length - i) (fun i => i ≤ Ys.length) (fun i => (.any :: .pw 0 .pas :: .any :: .pw 2 .ref :: .any :: .any :: .any :: .any :: .any :: .any :: .fz .spot Ys :: .i .i64 (Ys.length : Int) :: .i .i64 (i:Int) :: .any :: .any :: .any :: .any :: .any :: .any :: .any :: .any :: .any :: .any :: .any :: .any :: .any :: .any :: .any :: .any :: .any :: .any :: .any :: []))
      (fun i => [.c .pas p, .m .spot (.int .i64) (nmK Ys i), .r [.mp 1]]) 0 [0, 1, 2] (Nat.zero_le _) ⟨rfl, rfl, rfl, (by repeat' (first | exact trivial | rfl | apply And.intro)), (by repeat' (first | exact trivial | rfl | apply And.intro)), rfl, rfl, rfl⟩ fun i hi' ihO => ?_
    by_cases hlt : i < Ys.length
    · obtain ⟨y1, y2⟩ := hYc _ (getD_mem (d := []) hlt)
      refine Goes.tree Γ_ok htb 1000 true false Try.func87 rfl ?_
      ((try simp only [decide_eq_true_eq, decide_eq_false_iff_not, Bool.not_eq_true', Bool.not_eq_false', Bool.not_true, Bool.not_false, Bool.and_eq_true, Bool.or_eq_true, bne_iff_ne, beq_iff_eq, ne_eq]); (try simp only [rng, lo, hi, mnI, mxI, Int.toNat_natCast, Sg.n, Nat.mul_one, Nat.zero_add, Nat.add_zero, Nat.reduceAdd, List.getD_cons_zero, List.getD_cons_succ]))
      ((repeat' (first | (with_reducible apply And.intro) | intro _)); all_goals (first | exact trivial | (with_reducible assumption) | (show (_ : List Blk) = _; rfl) | (first | exact trivial | (with_reducible assumption) | omega | (split <;> omega) | (split <;> split <;> omega)) | skip); all_goals (try (refine ⟨rfl, (by first | exact Nat.le_refl _ | exact Nat.le_of_ble_eq_true rfl), rfl, rfl, ?_, (by repeat' (first | exact trivial | rfl | apply And.intro)), rfl, rfl⟩)))
      refine ⟨?_⟩
      refine Goes.loopR (fun j : Nat => (Ys.getD i []).length - j) (fun j => j ≤ (Ys.getD i []).length) (fun j => (.any :: .pw 0 .pas :: .any :: .pw 2 .ref :: .i .i64 (i : Int) :: .any :: .any :: .any :: .any :: .any :: .fz .spot Ys :: .i .i64 (Ys.length : Int) :: .i .i64 (i:Int) :: .any :: .any :: .any :: .any :: .fs .spot (Ys.getD i []) :: .i .i64 ((Ys.getD i []).length : Int) :: .i .i64 (j : Int) :: .any :: .any :: .any :: .any :: .any :: .any :: .any :: .any :: .any :: .any :: .any :: .any :: []))
        (fun j => [.c .pas p, .m .spot (.int .i64) (putV (nmK Ys i) i (Ys.getD i []) j), .r [.mp 1]]) 0 [0, 1, 2] (Nat.zero_le _) ⟨rfl, rfl, rfl, (by repeat' (first | exact trivial | rfl | apply And.intro)), (by repeat' (first | exact trivial | rfl | apply And.intro)), rfl, rfl, rfl⟩ fun j hj ih => ?_
      by_cases hlj : j < (Ys.getD i []).length
      · refine Goes.tree Γ_ok htb 1000 true false Try.func87 rfl ?_
        ((try simp only [decide_eq_true_eq, decide_eq_false_iff_not, Bool.not_eq_true', Bool.not_eq_false', Bool.not_true, Bool.not_false, Bool.and_eq_true, Bool.or_eq_true, bne_iff_ne, beq_iff_eq, ne_eq]); (try simp only [rng, lo, hi, mnI, mxI, Int.toNat_natCast, Sg.n, Nat.mul_one, Nat.zero_add, Nat.add_zero, Nat.reduceAdd, List.getD_cons_zero, List.getD_cons_succ]))
        ((repeat' (first | (with_reducible apply And.intro) | intro _)); all_goals (first | exact trivial | (with_reducible assumption) | (show (_ : List Blk) = _; rfl) | (first | exact trivial | (with_reducible assumption) | omega | (split <;> omega) | (split <;> split <;> omega)) | skip); all_goals (try (refine ⟨rfl, (by first | exact Nat.le_refl _ | exact Nat.le_of_ble_eq_true rfl), rfl, rfl, ?_, (by repeat' (first | exact trivial | rfl | apply And.intro)), rfl, rfl⟩)))
        all_goals (first | exact ⟨ih (j + 1) (by omega) (by omega) [0, 1, 2] _ _ ⟨rfl, rfl, rfl, (by repeat' (first | exact trivial | rfl | apply And.intro)), (by repeat' (first | exact trivial | rfl | apply And.intro)), rfl, rfl, rfl⟩⟩ | trace_state)
      · obtain rfl : j = (Ys.getD i []).length := by omega
        clear ih
        refine Goes.tree Γ_ok htb 1000 true false Try.func87 rfl ?_
        ((try simp only [decide_eq_true_eq, decide_eq_false_iff_not, Bool.not_eq_true', Bool.not_eq_false', Bool.not_true, Bool.not_false, Bool.and_eq_true, Bool.or_eq_true, bne_iff_ne, beq_iff_eq, ne_eq]); (try simp only [rng, lo, hi, mnI, mxI, Int.toNat_natCast, Sg.n, Nat.mul_one, Nat.zero_add, Nat.add_zero, Nat.reduceAdd, List.getD_cons_zero, List.getD_cons_succ]))
        ((repeat' (first | (with_reducible apply And.intro) | intro _)); all_goals (first | exact trivial | (with_reducible assumption) | (show (_ : List Blk) = _; rfl) | (first | exact trivial | (with_reducible assumption) | omega | (split <;> omega) | (split <;> split <;> omega)) | skip); all_goals (try (refine ⟨rfl, (by first | exact Nat.le_refl _ | exact Nat.le_of_ble_eq_true rfl), rfl, rfl, ?_, (by repeat' (first | exact trivial | rfl | apply And.intro)), rfl, rfl⟩)))
        all_goals (first | exact ⟨ihO (i + 1) (by omega) (by omega) [0, 1, 2] _ _ ⟨rfl, rfl, rfl, (by repeat' (first | exact trivial | rfl | apply And.intro)), (by repeat' (first | exact trivial | rfl | apply And.intro)), rfl, rfl, rfl⟩⟩ | trace_state)
    · obtain rfl : i = Ys.length := by omega
      clear ihO
      refine Goes.tree Γ_ok htb 1000 true false Try.func87 rfl ?_
      ((try simp only [decide_eq_true_eq, decide_eq_false_iff_not, Bool.not_eq_true', Bool.not_eq_false', Bool.not_true, Bool.not_false, Bool.and_eq_true, Bool.or_eq_true, bne_iff_ne, beq_iff_eq, ne_eq]); (try simp only [rng, lo, hi, mnI, mxI, Int.toNat_natCast, Sg.n, Nat.mul_one, Nat.zero_add, Nat.add_zero, Nat.reduceAdd, List.getD_cons_zero, List.getD_cons_succ]))
      ((repeat' (first | (with_reducible apply And.intro) | intro _)); all_goals (first | exact trivial | (with_reducible assumption) | (show (_ : List Blk) = _; rfl) | (first | exact trivial | (with_reducible assumption) | omega | (split <;> omega) | (split <;> split <;> omega)) | skip); all_goals (try (refine ⟨rfl, (by first | exact Nat.le_refl _ | exact Nat.le_of_ble_eq_true rfl), rfl, rfl, ?_, (by repeat' (first | exact trivial | rfl | apply And.intro)), rfl, rfl⟩)))
      all_goals (first | exact hn _ (by assumption) | exact sameA_refl _ | exact ha | exact ha (by assumption) | trace_state)
  · skip
    have e : leftH (nmK Ys Ys.length) (hurRows p) = hurRows p := by
      unfold leftH
      refine List.filter_eq_self.2 fun r hr => ?_
      cases hh : delH (nmK Ys Ys.length) r with
      | false => rfl
      | true => exact absurd (List.any_eq_true.2 ⟨r, hr, hh⟩) ha
    rw [e]
    have htb := (TbOk.cons s_yards Try.func64 rfl rfl (TbOk.cons s_hurdles Try.func133 rfl rfl (TbOk.cons s_delNo Try.func132 rfl rfl (TbOk.nil : TbOk Try.prog tb0))))
    refine SpecOK.of_goes [] Try.func87 rfl ?_
    refine Goes.tree Γ_ok htb 1000 true false Try.func87 rfl ?_
    ((try simp only [decide_eq_true_eq, decide_eq_false_iff_not, Bool.not_eq_true', Bool.not_eq_false', Bool.not_true, Bool.not_false, Bool.and_eq_true, Bool.or_eq_true, bne_iff_ne, beq_iff_eq, ne_eq]); (try simp only [rng, lo, hi, mnI, mxI, Int.toNat_natCast, Sg.n, Nat.mul_one, Nat.zero_add, Nat.add_zero, Nat.reduceAdd, List.getD_cons_zero, List.getD_cons_succ, hYs]))
    ((repeat' (first | (with_reducible apply And.intro) | intro _)); all_goals (first | exact trivial | (with_reducible assumption) | (show (_ : List Blk) = _; rfl) | (first | exact trivial | (with_reducible assumption) | omega | (split <;> omega) | (split <;> split <;> omega)) | skip); all_goals (try (refine ⟨rfl, (by first | exact Nat.le_refl _ | exact Nat.le_of_ble_eq_true rfl), rfl, rfl, ?_, (by repeat' (first | exact trivial | rfl | apply And.intro)), rfl, rfl⟩)))
    refine ⟨?_⟩
    refine Goes.loopR (fun i : Nat => Ys.length - i) (fun i => i ≤ Ys.length) (fun i => (.any :: .pw 0 .pas :: .any :: .pw 2 .ref :: .any :: .any :: .any :: .any :: .any :: .any :: .fz .spot Ys :: .i .i64 (Ys.length : Int) :: .i .i64 (i:Int) :: .any :: .any :: .any :: .any :: .any :: .any :: .any :: .any :: .any :: .any :: .any :: .any :: .any :: .any :: .any :: .any :: .any :: .any :: .any :: []))
      (fun i => [.c .pas p, .m .spot (.int .i64) (nmK Ys i), .r [.mp 1]]) 0 [0, 1, 2] (Nat.zero_le _) ⟨rfl, rfl, rfl, (by repeat' (first | exact trivial | rfl | apply And.intro)), (by repeat' (first | exact trivial | rfl | apply And.intro)), rfl, rfl, rfl⟩ fun i hi' ihO => ?_
    by_cases hlt : i < Ys.length
    · obtain ⟨y1, y2⟩ := hYc _ (getD_mem (d := []) hlt)
      refine Goes.tree Γ_ok htb 1000 true false Try.func87 rfl ?_
      ((try simp only [decide_eq_true_eq, decide_eq_false_iff_not, Bool.not_eq_true', Bool.not_eq_false', Bool.not_true, Bool.not_false, Bool.and_eq_true, Bool.or_eq_true, bne_iff_ne, beq_iff_eq, ne_eq]); (try simp only [rng, lo, hi, mnI, mxI, Int.toNat_natCast, Sg.n, Nat.mul_one, Nat.zero_add, Nat.add_zero, Nat.reduceAdd, List.getD_cons_zero, List.getD_cons_succ]))
      ((repeat' (first | (with_reducible apply And.intro) | intro _)); all_goals (first | exact trivial | (with_reducible assumption) | (show (_ : List Blk) = _; rfl) | (first | exact trivial | (with_reducible assumption) | omega | (split <;> omega) | (split <;> split <;> omega)) | skip); all_goals (try (refine ⟨rfl, (by first | exact Nat.le_refl _ | exact Nat.le_of_ble_eq_true rfl), rfl, rfl, ?_, (by repeat' (first | exact trivial | rfl | apply And.intro)), rfl, rfl⟩)))
      refine ⟨?_⟩
      refine Goes.loopR (fun j : Nat => (Ys.getD i []).length - j) (fun j => j ≤ (Ys.getD i []).length) (fun j => (.any :: .pw 0 .pas :: .any :: .pw 2 .ref :: .i .i64 (i : Int) :: .any :: .any :: .any :: .any :: .any :: .fz .spot Ys :: .i .i64 (Ys.length : Int) :: .i .i64 (i:Int) :: .any :: .any :: .any :: .any :: .fs .spot (Ys.getD i []) :: .i .i64 ((Ys.getD i []).length : Int) :: .i .i64 (j : Int) :: .any :: .any :: .any :: .any :: .any :: .any :: .any :: .any :: .any :: .any :: .any :: .any :: []))
        (fun j => [.c .pas p, .m .spot (.int .i64) (putV (nmK Ys i) i (Ys.getD i []) j), .r [.mp 1]]) 0 [0, 1, 2] (Nat.zero_le _) ⟨rfl, rfl, rfl, (by repeat' (first | exact trivial | rfl | apply And.intro)), (by repeat' (first | exact trivial | rfl | apply And.intro)), rfl, rfl, rfl⟩ fun j hj ih => ?_
      by_cases hlj : j < (Ys.getD i []).length
      · refine Goes.tree Γ_ok htb 1000 true false Try.func87 rfl ?_
        ((try simp only [decide_eq_true_eq, decide_eq_false_iff_not, Bool.not_eq_true', Bool.not_eq_false', Bool.not_true, Bool.not_false, Bool.and_eq_true, Bool.or_eq_true, bne_iff_ne, beq_iff_eq, ne_eq]); (try simp only [rng, lo, hi, mnI, mxI, Int.toNat_natCast, Sg.n, Nat.mul_one, Nat.zero_add, Nat.add_zero, Nat.reduceAdd, List.getD_cons_zero, List.getD_cons_succ]))
        ((repeat' (first | (with_reducible apply And.intro) | intro _)); all_goals (first | exact trivial | (with_reducible assumption) | (show (_ : List Blk) = _; rfl) | (first | exact trivial | (with_reducible assumption) | omega | (split <;> omega) | (split <;> split <;> omega)) | skip); all_goals (try (refine ⟨rfl, (by first | exact Nat.le_refl _ | exact Nat.le_of_ble_eq_true rfl), rfl, rfl, ?_, (by repeat' (first | exact trivial | rfl | apply And.intro)), rfl, rfl⟩)))
        all_goals (first | exact ⟨ih (j + 1) (by omega) (by omega) [0, 1, 2] _ _ ⟨rfl, rfl, rfl, (by repeat' (first | exact trivial | rfl | apply And.intro)), (by repeat' (first | exact trivial | rfl | apply And.intro)), rfl, rfl, rfl⟩⟩ | trace_state)
      · obtain rfl : j = (Ys.getD i []).length := by omega
        clear ih
        refine Goes.tree Γ_ok htb 1000 true false Try.func87 rfl ?_
        ((try simp only [decide_eq_true_eq, decide_eq_false_iff_not, Bool.not_eq_true', Bool.not_eq_false', Bool.not_true, Bool.not_false, Bool.and_eq_true, Bool.or_eq_true, bne_iff_ne, beq_iff_eq, ne_eq]); (try simp only [rng, lo, hi, mnI, mxI, Int.toNat_natCast, Sg.n, Nat.mul_one, Nat.zero_add, Nat.add_zero, Nat.reduceAdd, List.getD_cons_zero, List.getD_cons_succ]))
        ((repeat' (first | (with_reducible apply And.intro) | intro _)); all_goals (first | exact trivial | (with_reducible assumption) | (show (_ : List Blk) = _; rfl) | (first | exact trivial | (with_reducible assumption) | omega | (split <;> omega) | (split <;> split <;> omega)) | skip); all_goals (try (refine ⟨rfl, (by first | exact Nat.le_refl _ | exact Nat.le_of_ble_eq_true rfl), rfl, rfl, ?_, (by repeat' (first | exact trivial | rfl | apply And.intro)), rfl, rfl⟩)))
        all_goals (first | exact ⟨ihO (i + 1) (by omega) (by omega) [0, 1, 2] _ _ ⟨rfl, rfl, rfl, (by repeat' (first | exact trivial | rfl | apply And.intro)), (by repeat' (first | exact trivial | rfl | apply And.intro)), rfl, rfl, rfl⟩⟩ | trace_state)
    · obtain rfl : i = Ys.length := by omega
      clear ihO
      refine Goes.tree Γ_ok htb 1000 true false Try.func87 rfl ?_
      ((try simp only [decide_eq_true_eq, decide_eq_false_iff_not, Bool.not_eq_true', Bool.not_eq_false', Bool.not_true, Bool.not_false, Bool.and_eq_true, Bool.or_eq_true, bne_iff_ne, beq_iff_eq, ne_eq]); (try simp only [rng, lo, hi, mnI, mxI, Int.toNat_natCast, Sg.n, Nat.mul_one, Nat.zero_add, Nat.add_zero, Nat.reduceAdd, List.getD_cons_zero, List.getD_cons_succ]))
      ((repeat' (first | (with_reducible apply And.intro) | intro _)); all_goals (first | exact trivial | (with_reducible assumption) | (show (_ : List Blk) = _; rfl) | (first | exact trivial | (with_reducible assumption) | omega | (split <;> omega) | (split <;> split <;> omega)) | skip); all_goals (try (refine ⟨rfl, (by first | exact Nat.le_refl _ | exact Nat.le_of_ble_eq_true rfl), rfl, rfl, ?_, (by repeat' (first | exact trivial | rfl | apply And.intro)), rfl, rfl⟩)))
      all_goals (first | exact hn _ (by assumption) | exact sameA_refl _ | exact ha | exact ha (by assumption) | trace_state)

def sizeIHS : Fun
  | [.fs .hur rows], [] => some (.i .i64 rows.length, [], [])
  | _, _ => .none
set_option maxRecDepth 100000 in
theorem s_sizeIH : Sound Try.prog 86 sizeIHS := by
  intro args M r M' vs h hvs
  unfold sizeIHS at h
  split at h
  case h_2 => cases h
  rename_i rows
  cases h
  refine SpecOK.assume fun hA hM => ?_
  have htb := (TbOk.nil : TbOk Try.prog tb0)
  refine SpecOK.of_goes [] Try.func86 rfl ?_
  refine Goes.tree Γ_ok htb 1000 false false Try.func86 rfl ?_
  ((try simp only [decide_eq_true_eq, decide_eq_false_iff_not, Bool.not_eq_true', Bool.not_eq_false', Bool.not_true, Bool.not_false, Bool.and_eq_true, Bool.or_eq_true, bne_iff_ne, beq_iff_eq, ne_eq]); (try simp only [rng, lo, hi, mnI, mxI, Int.toNat_natCast, Sg.n, Nat.mul_one, Nat.zero_add, Nat.add_zero, Nat.reduceAdd, List.getD_cons_zero, List.getD_cons_succ]))
  ((repeat' (first | (with_reducible apply And.intro) | intro _)); all_goals (first | exact trivial | (with_reducible assumption) | (show (_ : List Blk) = _; rfl) | (first | exact trivial | (with_reducible assumption) | omega | (split <;> omega) | (split <;> split <;> omega)) | skip); all_goals (try (refine ⟨rfl, (by first | exact Nat.le_refl _ | exact Nat.le_of_ble_eq_true rfl), rfl, rfl, ?_, (by repeat' (first | exact trivial | rfl | apply And.intro)), rfl, rfl⟩)))
  all_goals (first | exact sameA_refl _ | trace_state)
noncomputable def idlS : Fun
  | [.ag .pas p], [] => some (.t2 (.i .i64 (if okP p then ((idleL p).length : Nat) else 0)) (.i .i64 (if okP p then 0 else 1)), [], [])
  | _, _ => .none
set_option maxRecDepth 100000 in
theorem s_implIdle : Sound Try.prog 35 idlS := by
  intro args M r M' vs h hvs
  unfold idlS at h
  split at h
  case h_2 => cases h
  rename_i p
  cases h
  refine SpecOK.assume fun hA hM => ?_
  have htb := (TbOk.cons s_ValidPasture Try.func63 rfl rfl (TbOk.cons s_idle Try.func87 rfl rfl (TbOk.cons s_sizeIH Try.func86 rfl rfl (TbOk.nil : TbOk Try.prog tb0))))
  refine SpecOK.of_goes [] Try.func35 rfl ?_
  clear hA hM
  refine Goes.tree Γ_ok htb 1000 false false Try.func35 rfl ?_
  ((try simp only [decide_eq_true_eq, decide_eq_false_iff_not, Bool.not_eq_true', Bool.not_eq_false', Bool.not_true, Bool.not_false, Bool.and_eq_true, Bool.or_eq_true, bne_iff_ne, beq_iff_eq, ne_eq]); (try simp only [rng, lo, hi, mnI, mxI, Int.toNat_natCast, Sg.n, Nat.mul_one, Nat.zero_add, Nat.add_zero, Nat.reduceAdd, List.getD_cons_zero, List.getD_cons_succ]))
  ((repeat' (first | (with_reducible apply And.intro) | intro _)); all_goals (first | exact trivial | (with_reducible assumption) | (show (_ : List Blk) = _; rfl) | (first | exact trivial | (with_reducible assumption) | omega | (split <;> omega) | (split <;> split <;> omega)) | skip); all_goals (try (refine ⟨rfl, (by first | exact Nat.le_refl _ | exact Nat.le_of_ble_eq_true rfl), rfl, rfl, ?_, (by repeat' (first | exact trivial | rfl | apply And.intro)), rfl, rfl⟩)))
  · rename_i h
    refine sameA_t2 ?_ ?_ <;> rw [if_neg h]
  · rename_i h
    exact h.1
  · rename_i h
    refine sameA_t2 ?_ ?_ <;> rw [if_pos h]
end Go.Proofs.Ytfelemoefhbphaa
