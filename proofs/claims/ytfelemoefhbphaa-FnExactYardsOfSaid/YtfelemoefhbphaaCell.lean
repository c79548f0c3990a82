/- The code of a pasture and cells. -/
import Derived.Test.YtfelemoefhbphaaSpots
namespace Go.Proofs.Ytfelemoefhbphaa
open Go Go.Eng
set_option linter.unusedSimpArgs false
set_option linter.unusedVariables false
set_option maxRecDepth 100000
set_option maxHeartbeats 4000000

def notP (p s : List Int) : Bool := !isP p s

def outS : Fun
  | [.ag .spot s, .pw 0 .pas], [.c .pas p] => some (.b (notP p s), [.c .pas p], [p.getD 0 0 ≤ 10 ∧ p.getD 1 0 ≤ 10])
  | _, _ => .none

set_option maxRecDepth 100000 in
theorem s_out : Sound Try.prog 113 outS := by
  intro args M r M' vs h hvs
  unfold outS at h
  split at h
  case h_2 => cases h
  rename_i s p
  cases h
  refine SpecOK.assume fun hA hM => ?_
  have htb := (TbOk.cons s_isCell Try.func114 rfl rfl (TbOk.nil : TbOk Try.prog tb0))
  refine SpecOK.of_goes [0] Try.func113 rfl ?_
  obtain ⟨hb, -⟩ := hvs
  refine Goes.tree Γ_ok htb 1000 false false Try.func113 rfl ?_
  ((try simp only [decide_eq_true_eq, decide_eq_false_iff_not, Bool.not_eq_true', Bool.not_eq_false', Bool.not_true, Bool.not_false, Bool.and_eq_true, Bool.or_eq_true, bne_iff_ne, beq_iff_eq, ne_eq]); (try simp only [rng, lo, hi, mnI, mxI, Int.toNat_natCast, Sg.n, Nat.mul_one, Nat.zero_add, Nat.add_zero, Nat.reduceAdd, List.getD_cons_zero, List.getD_cons_succ]))
  ((repeat' (first | (with_reducible apply And.intro) | intro _)); all_goals (first | exact trivial | (with_reducible assumption) | (show (_ : List Blk) = _; rfl) | (first | exact trivial | (with_reducible assumption) | omega | (split <;> omega) | (split <;> split <;> omega)) | skip); all_goals (try (refine ⟨rfl, (by first | exact Nat.le_refl _ | exact Nat.le_of_ble_eq_true rfl), rfl, rfl, ?_, (by repeat' (first | exact trivial | rfl | apply And.intro)), rfl, rfl⟩)))
  exact sameA_refl _

def idxOutS : Fun
  | [.fs .spot rows, .fn 113 [(0, .pas)]], [.c .pas p] => some (.i .i64 (findI (notP p) rows), [.c .pas p], [p.getD 0 0 ≤ 10 ∧ p.getD 1 0 ≤ 10])
  | _, _ => .none
set_option maxRecDepth 100000 in
theorem s_idxOut : Sound Try.prog 150 idxOutS := by
  intro args M r M' vs h hvs
  unfold idxOutS at h
  split at h
  case h_2 => cases h
  rename_i rows p
  cases h
  refine SpecOK.assume fun hA hM => ?_
  have htb := (TbOk.cons s_out Try.func113 rfl rfl (TbOk.nil : TbOk Try.prog tb0))
  refine SpecOK.of_goes [0] Try.func150 rfl ?_
  have hl : rows.length ≤ maxLen := hA.1
  have hm : maxLen = 9223372036854775807 := rfl
  obtain ⟨hc, -⟩ := hvs
  
  clear hA hM
  refine Goes.tree Γ_ok htb 1000 false false Try.func150 rfl ?_
  refine ⟨?_⟩
  refine Goes.loopR (fun i : Nat => rows.length - i) (fun i => i ≤ rows.length ∧ ∀ j, j < i → (notP p) (rows.getD j []) = false) (fun i => (.fs .spot rows :: .fn 113 [(0, .pas)] :: .any :: .any :: .any :: .any :: .any :: .i .i64 (rows.length:Int) :: .i .i64 (i:Int) :: .any :: .any :: .any :: .any :: .any :: .any :: .any :: .any :: .any :: .any :: [])) (fun _ => [.c .pas p]) 0 [0] ⟨by omega, fun j hj => by omega⟩ ⟨rfl, rfl, rfl, (by repeat' (first | exact trivial | rfl | apply And.intro)), (by repeat' (first | exact trivial | rfl | apply And.intro)), rfl, rfl, rfl⟩ fun i ⟨hle, hno⟩ ih => ?_
  refine Goes.tree Γ_ok htb 1000 false false Try.func150 rfl ?_
  ((try simp only [decide_eq_true_eq, decide_eq_false_iff_not, Bool.not_eq_true', Bool.not_eq_false', Bool.not_true, Bool.not_false, Bool.and_eq_true, Bool.or_eq_true, bne_iff_ne, beq_iff_eq, ne_eq]); (try simp only [rng, lo, hi, mnI, mxI, Int.toNat_natCast, Sg.n, Nat.mul_one, Nat.zero_add, Nat.add_zero, Nat.reduceAdd, List.getD_cons_zero, List.getD_cons_succ]))
  ((repeat' (first | (with_reducible apply And.intro) | intro _)); all_goals (first | exact trivial | (with_reducible assumption) | (show (_ : List Blk) = _; rfl) | (first | exact trivial | (with_reducible assumption) | omega | (split <;> omega) | (split <;> split <;> omega)) | skip); all_goals (try (refine ⟨rfl, (by first | exact Nat.le_refl _ | exact Nat.le_of_ble_eq_true rfl), rfl, rfl, ?_, (by repeat' (first | exact trivial | rfl | apply And.intro)), rfl, rfl⟩)))
  · rename_i h1 h2
    rw [findI_some (by omega) h2 hno]
    exact sameA_refl _
  · rename_i h1 h2
    refine ⟨ih (i + 1) ⟨by omega, fun j hj => ?_⟩ (by omega) [0] _ _ ⟨rfl, rfl, rfl, (by repeat' (first | exact trivial | rfl | apply And.intro)), (by repeat' (first | exact trivial | rfl | apply And.intro)), rfl, rfl, rfl⟩⟩
    by_cases hji : j = i
    · subst hji; exact h2
    · exact hno j (by omega)
  · obtain rfl : i = rows.length := by omega
    rw [findI_none hno]
    exact sameA_refl _

def hasOutS : Fun
  | [.fs .spot rows, .fn 113 [(0, .pas)]], [.c .pas p] => some (.b (rows.any (notP p)), [.c .pas p], [p.getD 0 0 ≤ 10 ∧ p.getD 1 0 ≤ 10])
  | _, _ => .none
set_option maxRecDepth 100000 in
theorem s_hasOut : Sound Try.prog 112 hasOutS := by
  intro args M r M' vs h hvs
  unfold hasOutS at h
  split at h
  case h_2 => cases h
  rename_i rows p
  cases h
  refine SpecOK.assume fun hA hM => ?_
  have htb := (TbOk.cons s_idxOut Try.func150 rfl rfl (TbOk.nil : TbOk Try.prog tb0))
  refine SpecOK.of_goes [0] Try.func112 rfl ?_
  obtain ⟨hc, -⟩ := hvs
  refine Goes.tree Γ_ok htb 1000 false false Try.func112 rfl ?_
  ((try simp only [decide_eq_true_eq, decide_eq_false_iff_not, Bool.not_eq_true', Bool.not_eq_false', Bool.not_true, Bool.not_false, Bool.and_eq_true, Bool.or_eq_true, bne_iff_ne, beq_iff_eq, ne_eq]); (try simp only [rng, lo, hi, mnI, mxI, Int.toNat_natCast, Sg.n, Nat.mul_one, Nat.zero_add, Nat.add_zero, Nat.reduceAdd, List.getD_cons_zero, List.getD_cons_succ]))
  ((repeat' (first | (with_reducible apply And.intro) | intro _)); all_goals (first | exact trivial | (with_reducible assumption) | (show (_ : List Blk) = _; rfl) | (first | exact trivial | (with_reducible assumption) | omega | (split <;> omega) | (split <;> split <;> omega)) | skip); all_goals (try (refine ⟨rfl, (by first | exact Nat.le_refl _ | exact Nat.le_of_ble_eq_true rfl), rfl, rfl, ?_, (by repeat' (first | exact trivial | rfl | apply And.intro)), rfl, rfl⟩)))
  rw [← findI_any]
  exact sameA_refl _


/-- The code of a pasture and cells. -/
def codeP (p : List Int) (rows : List (List Int)) : Int := if okP p then (if rows.any (notP p) then 2 else 0) else 1

def codeS : Fun
  | [.ag .pas p, .fs .spot rows], [] => some (.i .i64 (codeP p rows), [], [])
  | _, _ => .none

set_option maxRecDepth 100000 in
theorem s_cellCode : Sound Try.prog 58 codeS := by
  intro args M r M' vs h hvs
  unfold codeS at h
  split at h
  case h_2 => cases h
  rename_i p rows
  cases h
  refine SpecOK.assume fun hA hM => ?_
  have htb := (TbOk.cons s_ValidPasture Try.func63 rfl rfl (TbOk.cons s_hasOut Try.func112 rfl rfl (TbOk.cons s_unless Try.func74 rfl rfl (TbOk.nil : TbOk Try.prog tb0))))
  refine SpecOK.of_goes [] Try.func58 rfl ?_
  refine Goes.tree Γ_ok htb 1000 false false Try.func58 rfl ?_
  ((try simp only [decide_eq_true_eq, decide_eq_false_iff_not, Bool.not_eq_true', Bool.not_eq_false', Bool.not_true, Bool.not_false, Bool.and_eq_true, Bool.or_eq_true, bne_iff_ne, beq_iff_eq, ne_eq]); (try simp only [rng, lo, hi, mnI, mxI, Int.toNat_natCast, Sg.n, Nat.mul_one, Nat.zero_add, Nat.add_zero, Nat.reduceAdd, List.getD_cons_zero, List.getD_cons_succ]))
  ((repeat' (first | (with_reducible apply And.intro) | intro _)); all_goals (first | exact trivial | (with_reducible assumption) | (show (_ : List Blk) = _; rfl) | (first | exact trivial | (with_reducible assumption) | omega | (split <;> omega) | (split <;> split <;> omega)) | skip); all_goals (try (refine ⟨rfl, (by first | exact Nat.le_refl _ | exact Nat.le_of_ble_eq_true rfl), rfl, rfl, ?_, (by repeat' (first | exact trivial | rfl | apply And.intro)), rfl, rfl⟩)))
  · rename_i h
    unfold codeP; rw [if_neg h]; exact sameA_refl _
  · rename_i h
    exact h.1.2.1
  · rename_i h
    exact h.1.2.2.2
  · rename_i h
    unfold codeP; rw [if_pos h]
    cases rows.any (notP p) <;> exact sameA_refl _

theorem one_row {α : Type} (a s : α) : (List.replicate 1 a).set 0 s = [s] := rfl
theorem two_rows {α : Type} (a s t : α) : ((List.replicate 2 a).set 0 s).set 1 t = [s, t] := rfl

theorem inG_of {p s : List Int} (h : okP p) (hs : isP p s = true) : inG s := by
  obtain ⟨h1, h2, h3, h4⟩ := h.1
  unfold isP at hs
  rw [decide_eq_true_eq] at hs
  unfold inG; omega

theorem codeP_one (p s : List Int) : codeP p [s] = if okP p then (if isP p s = true then 0 else 2) else 1 := by
  unfold codeP notP
  cases h : isP p s <;> simp [h]
theorem codeP_two (p s t : List Int) : codeP p [s, t] = if okP p then (if isP p s = true ∧ isP p t = true then 0 else 2) else 1 := by
  unfold codeP notP
  cases h : isP p s <;> cases h' : isP p t <;> simp [h, h']
theorem codeP_all {p : List Int} {rows : List (List Int)} (h : codeP p rows = 0) : okP p ∧ ∀ s ∈ rows, isP p s = true := by
  unfold codeP at h
  split at h
  · rename_i hp
    refine ⟨hp, fun s hs => ?_⟩
    split at h
    · cases h
    · rename_i ha
      cases hc : isP p s with
      | true => rfl
      | false => exact absurd (List.any_eq_true.2 ⟨s, hs, by unfold notP; rw [hc]; rfl⟩) ha
  · cases h

def askedS : Fun
  | [.pw 0 .pas, .ag .spot s, .b q], [.c .pas p] => some (.i .i64 (if q = true then codeP p [s] else if okP p then 2 else 1), [.c .pas p], [])
  | [.pw 0 .pas, .ag .spot s, .d true], [.c .pas p] => some (.i .i64 (codeP p [s]), [.c .pas p], [])
  | _, _ => .none

theorem s_l01Asked : Sound Try.prog 54 askedS := by
  intro args M r M' vs h hvs
  have htb := (TbOk.cons s_l01Ok Try.func61 rfl rfl (TbOk.cons s_l01Is Try.func77 rfl rfl (TbOk.nil : TbOk Try.prog tb0)))
  unfold askedS at h
  split at h
  case h_3 => cases h
  · rename_i s q p
    cases h
    refine SpecOK.of_goes [0] Try.func54 rfl ?_
    refine Goes.tree Γ_ok htb 1000 false false Try.func54 rfl ?_
    rw [codeP_one]
    ((try simp only [decide_eq_true_eq, decide_eq_false_iff_not, Bool.not_eq_true', Bool.not_eq_false', Bool.not_true, Bool.not_false, Bool.and_eq_true, Bool.or_eq_true, bne_iff_ne, beq_iff_eq, ne_eq]); (try simp only [rng, lo, hi, mnI, mxI, Int.toNat_natCast, Sg.n, Nat.mul_one, Nat.zero_add, Nat.add_zero, Nat.reduceAdd, List.getD_cons_zero, List.getD_cons_succ]))
    ((repeat' (first | (with_reducible apply And.intro) | intro _)); all_goals (first | exact trivial | (with_reducible assumption) | (show (_ : List Blk) = _; rfl) | (first | exact trivial | (with_reducible assumption) | omega | (split <;> omega) | (split <;> split <;> omega)) | skip); all_goals (try (refine ⟨rfl, (by first | exact Nat.le_refl _ | exact Nat.le_of_ble_eq_true rfl), rfl, rfl, ?_, (by repeat' (first | exact trivial | rfl | apply And.intro)), rfl, rfl⟩)))
    all_goals (refine sameA_i ?_; simp [*])
  · rename_i s p
    cases h
    refine SpecOK.of_goes [0] Try.func54 rfl ?_
    refine Goes.tree Γ_ok htb 1000 false false Try.func54 rfl ?_
    rw [codeP_one]
    ((try simp only [decide_eq_true_eq, decide_eq_false_iff_not, Bool.not_eq_true', Bool.not_eq_false', Bool.not_true, Bool.not_false, Bool.and_eq_true, Bool.or_eq_true, bne_iff_ne, beq_iff_eq, ne_eq]); (try simp only [rng, lo, hi, mnI, mxI, Int.toNat_natCast, Sg.n, Nat.mul_one, Nat.zero_add, Nat.add_zero, Nat.reduceAdd, List.getD_cons_zero, List.getD_cons_succ]))
    ((repeat' (first | (with_reducible apply And.intro) | intro _)); all_goals (first | exact trivial | (with_reducible assumption) | (show (_ : List Blk) = _; rfl) | (first | exact trivial | (with_reducible assumption) | omega | (split <;> omega) | (split <;> split <;> omega)) | skip); all_goals (try (refine ⟨rfl, (by first | exact Nat.le_refl _ | exact Nat.le_of_ble_eq_true rfl), rfl, rfl, ?_, (by repeat' (first | exact trivial | rfl | apply And.intro)), rfl, rfl⟩)))
    all_goals (refine sameA_i ?_; simp [*])
end Go.Proofs.Ytfelemoefhbphaa
