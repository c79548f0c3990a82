/- Days of growth: the codes. -/
import Derived.Test.YtgogccconmlkiaaGrow4
namespace Go.Proofs.Ytgogccconmlkiaa
open Go Go.Eng
set_option linter.unusedSimpArgs false
set_option linter.unusedVariables false
set_option maxRecDepth 100000
set_option maxHeartbeats 4000000

def dayOkS : Fun
  | [.i .i64 d], [] => some (.b (decide (0 ≤ d ∧ d ≤ 365)), [], [])
  | _, _ => .none
set_option maxRecDepth 100000 in
theorem s_l04Day : Sound Try.prog 107 dayOkS := by
  intro args M r M' vs h hvs
  unfold dayOkS at h
  split at h
  case h_2 => cases h
  rename_i d
  cases h
  refine SpecOK.assume fun hA hM => ?_
  have htb := (TbOk.cons s_l00In Try.func110 rfl rfl (TbOk.nil : TbOk Try.prog tb0))
  refine SpecOK.of_goes [] Try.func107 rfl ?_
  refine Goes.tree Γ_ok htb 1000 false false Try.func107 rfl ?_
  ((try simp only [decide_eq_true_eq, decide_eq_false_iff_not, Bool.not_eq_true', Bool.not_eq_false', Bool.not_true, Bool.not_false, Bool.and_eq_true, Bool.or_eq_true, bne_iff_ne, beq_iff_eq, ne_eq]); (try simp only [rng, lo, hi, mnI, mxI, Int.toNat_natCast, Sg.n, Nat.mul_one, Nat.zero_add, Nat.add_zero, Nat.reduceAdd, List.getD_cons_zero, List.getD_cons_succ]))
  ((repeat' (first | (with_reducible apply And.intro) | intro _)); all_goals (first | exact trivial | (with_reducible assumption) | (show (_ : List Blk) = _; rfl) | (first | exact trivial | (with_reducible assumption) | omega | (split <;> omega) | (split <;> split <;> omega)) | skip); all_goals (try (refine ⟨rfl, (by first | exact Nat.le_refl _ | exact Nat.le_of_ble_eq_true rfl), rfl, rfl, ?_, (by repeat' (first | exact trivial | rfl | apply And.intro)), rfl, rfl⟩)))
  exact sameA_refl _
def isDaysS : Fun
  | [.i .i64 d], [] => some (.i .i64 (if 0 ≤ d ∧ d ≤ 365 then 0 else 2), [], [])
  | _, _ => .none
set_option maxRecDepth 100000 in
theorem s_isDays : Sound Try.prog 125 isDaysS := by
  intro args M r M' vs h hvs
  unfold isDaysS at h
  split at h
  case h_2 => cases h
  rename_i d
  cases h
  refine SpecOK.assume fun hA hM => ?_
  have htb := (TbOk.cons s_within Try.func83 rfl rfl (TbOk.cons s_unless Try.func82 rfl rfl (TbOk.nil : TbOk Try.prog tb0)))
  refine SpecOK.of_goes [] Try.func125 rfl ?_
  refine Goes.tree Γ_ok htb 1000 false false Try.func125 rfl ?_
  ((try simp only [decide_eq_true_eq, decide_eq_false_iff_not, Bool.not_eq_true', Bool.not_eq_false', Bool.not_true, Bool.not_false, Bool.and_eq_true, Bool.or_eq_true, bne_iff_ne, beq_iff_eq, ne_eq]); (try simp only [rng, lo, hi, mnI, mxI, Int.toNat_natCast, Sg.n, Nat.mul_one, Nat.zero_add, Nat.add_zero, Nat.reduceAdd, List.getD_cons_zero, List.getD_cons_succ]))
  ((repeat' (first | (with_reducible apply And.intro) | intro _)); all_goals (first | exact trivial | (with_reducible assumption) | (show (_ : List Blk) = _; rfl) | (first | exact trivial | (with_reducible assumption) | omega | (split <;> omega) | (split <;> split <;> omega)) | skip); all_goals (try (refine ⟨rfl, (by first | exact Nat.le_refl _ | exact Nat.le_of_ble_eq_true rfl), rfl, rfl, ?_, (by repeat' (first | exact trivial | rfl | apply And.intro)), rfl, rfl⟩)))
  refine sameA_i ?_
  simp

def askedGS : Fun
  | [.pw 0 .pas, .pw 1 .gro], [.c .pas p, .c .gro g] => some (.i .i64 (if okP p ∧ okG g then 0 else 1), [.c .pas p, .c .gro g], [])
  | _, _ => .none
set_option maxRecDepth 100000 in
theorem s_l04Asked : Sound Try.prog 106 askedGS := by
  intro args M r M' vs h hvs
  unfold askedGS at h
  split at h
  case h_2 => cases h
  rename_i p g
  cases h
  refine SpecOK.assume fun hA hM => ?_
  have htb := (TbOk.cons s_l01Ok Try.func97 rfl rfl (TbOk.cons s_l04Ok Try.func86 rfl rfl (TbOk.nil : TbOk Try.prog tb0)))
  refine SpecOK.of_goes [0, 1] Try.func106 rfl ?_
  clear hA hM
  refine Goes.tree Γ_ok htb 1000 false false Try.func106 rfl ?_
  ((try simp only [decide_eq_true_eq, decide_eq_false_iff_not, Bool.not_eq_true', Bool.not_eq_false', Bool.not_true, Bool.not_false, Bool.and_eq_true, Bool.or_eq_true, bne_iff_ne, beq_iff_eq, ne_eq]); (try simp only [rng, lo, hi, mnI, mxI, Int.toNat_natCast, Sg.n, Nat.mul_one, Nat.zero_add, Nat.add_zero, Nat.reduceAdd, List.getD_cons_zero, List.getD_cons_succ]))
  ((repeat' (first | (with_reducible apply And.intro) | intro _)); all_goals (first | exact trivial | (with_reducible assumption) | (show (_ : List Blk) = _; rfl) | (first | exact trivial | (with_reducible assumption) | omega | (split <;> omega) | (split <;> split <;> omega)) | skip); all_goals (try (refine ⟨rfl, (by first | exact Nat.le_refl _ | exact Nat.le_of_ble_eq_true rfl), rfl, rfl, ?_, (by repeat' (first | exact trivial | rfl | apply And.intro)), rfl, rfl⟩)))
  all_goals (refine sameA_i ?_; simp [*])

def growC (p g : List Int) (rows : List (List Int)) : Int := if okP p ∧ okG g then codeP p rows else 1
def growCS : Fun
  | [.ag .pas p, .ag .gro g, .fs .spot rows], [] => some (.i .i64 (growC p g rows), [], [])
  | _, _ => .none
set_option maxRecDepth 100000 in
theorem s_growthCode : Sound Try.prog 124 growCS := by
  intro args M r M' vs h hvs
  unfold growCS at h
  split at h
  case h_2 => cases h
  rename_i p g rows
  cases h
  refine SpecOK.assume fun hA hM => ?_
  have htb := (TbOk.cons s_ValidPasture Try.func75 rfl rfl (TbOk.cons s_implValidGrowth Try.func156 rfl rfl (TbOk.cons s_cellCode Try.func81 rfl rfl (TbOk.nil : TbOk Try.prog tb0))))
  refine SpecOK.of_goes [] Try.func124 rfl ?_
  clear hA hM
  refine Goes.tree Γ_ok htb 1000 false false Try.func124 rfl ?_
  ((try simp only [decide_eq_true_eq, decide_eq_false_iff_not, Bool.not_eq_true', Bool.not_eq_false', Bool.not_true, Bool.not_false, Bool.and_eq_true, Bool.or_eq_true, bne_iff_ne, beq_iff_eq, ne_eq]); (try simp only [rng, lo, hi, mnI, mxI, Int.toNat_natCast, Sg.n, Nat.mul_one, Nat.zero_add, Nat.add_zero, Nat.reduceAdd, List.getD_cons_zero, List.getD_cons_succ]))
  ((repeat' (first | (with_reducible apply And.intro) | intro _)); all_goals (first | exact trivial | (with_reducible assumption) | (show (_ : List Blk) = _; rfl) | (first | exact trivial | (with_reducible assumption) | omega | (split <;> omega) | (split <;> split <;> omega)) | skip); all_goals (try (refine ⟨rfl, (by first | exact Nat.le_refl _ | exact Nat.le_of_ble_eq_true rfl), rfl, rfl, ?_, (by repeat' (first | exact trivial | rfl | apply And.intro)), rfl, rfl⟩)))
  all_goals (refine sameA_i ?_; simp [growC, *])
theorem s_growthCodeN : Sound Try.prog 124 (nilS .spot growCS) := nil_sound rfl (by decide) s_growthCode
theorem codeP_nil {p : List Int} (h : okP p) : codeP p [] = 0 := by
  unfold codeP
  rw [if_pos h]; rfl
theorem growC_nil (p g : List Int) : growC p g [] = if okP p ∧ okG g then 0 else 1 := by
  unfold growC
  split
  · rename_i h; exact codeP_nil h.1
  · rfl

def daysC (p g : List Int) (d : Int) : Int := if okP p ∧ okG g then (if 0 ≤ d ∧ d ≤ 365 then 0 else 2) else 1
theorem daysC_ok {p g : List Int} {d : Int} (h : daysC p g d = 0) : okP p ∧ okG g ∧ 0 ≤ d ∧ d ≤ 365 := by
  unfold daysC at h
  split at h
  · rename_i h1
    split at h
    · rename_i h2; exact ⟨h1.1, h1.2, h2⟩
    · cases h
  · cases h
theorem daysC_fst (p g : List Int) (d : Int) : fstI [[growC p g []], [if 0 ≤ d ∧ d ≤ 365 then 0 else 2]] = daysC p g d := by
  rw [growC_nil]
  unfold daysC
  simp only [fstI, List.getD_cons_zero]
  split <;> (try split) <;> simp_all

def daysS : Fun
  | [.ag .pas p, .ag .gro g, .i .i64 d], [] => some (.t3 (.ag .pas (if daysC p g d = 0 then growN g p d.toNat else List.replicate 122 0)) (.i .i64 (if daysC p g d = 0 then sumA (growN g p d.toNat) 10 - sumA p 10 else 0)) (.i .i64 (daysC p g d)), [], [])
  | _, _ => .none

set_option maxRecDepth 100000 in
theorem s_specGrowDays : Sound Try.prog 52 daysS := by
  intro args M r M' vs h hvs
  unfold daysS at h
  split at h
  case h_2 => cases h
  rename_i p g d
  cases h
  refine SpecOK.assume fun hA hM => ?_
  have htb := (TbOk.cons s_l04Asked Try.func106 rfl rfl (TbOk.cons s_l04Day Try.func107 rfl rfl (TbOk.cons s_l04Days Try.func108 rfl rfl (TbOk.cons s_l01Sum Try.func98 rfl rfl (TbOk.nil : TbOk Try.prog tb0)))))
  refine SpecOK.of_goes [] Try.func52 rfl ?_
  have hlen : p.length = 122 := hA.1
  clear hA hM
  by_cases h1 : okP p ∧ okG g
  · by_cases h2 : 0 ≤ d ∧ d ≤ 365
    · have hc : daysC p g d = 0 := by unfold daysC; rw [if_pos h1, if_pos h2]
      have hgr := GR.of hlen h1.1
      have hN := growN_ok h1.2 hgr h1.1.1 d.toNat
      have hs1 := sumA_GR hN.1
      have hs0 := sumA_GR hgr
      rw [if_pos hc, if_pos hc, hc]
      refine Goes.tree Γ_ok htb 1000 false false Try.func52 rfl ?_
      ((try simp only [decide_eq_true_eq, decide_eq_false_iff_not, Bool.not_eq_true', Bool.not_eq_false', Bool.not_true, Bool.not_false, Bool.and_eq_true, Bool.or_eq_true, bne_iff_ne, beq_iff_eq, ne_eq]); (try simp only [rng, lo, hi, mnI, mxI, Int.toNat_natCast, Sg.n, Nat.mul_one, Nat.zero_add, Nat.add_zero, Nat.reduceAdd, List.getD_cons_zero, List.getD_cons_succ, if_pos h1]))
      ((repeat' (first | (with_reducible apply And.intro) | intro _)); all_goals (first | exact trivial | (with_reducible assumption) | (show (_ : List Blk) = _; rfl) | (first | exact trivial | (with_reducible assumption) | omega | (split <;> omega) | (split <;> split <;> omega)) | skip); all_goals (try (refine ⟨rfl, (by first | exact Nat.le_refl _ | exact Nat.le_of_ble_eq_true rfl), rfl, rfl, ?_, (by repeat' (first | exact trivial | rfl | apply And.intro)), rfl, rfl⟩)))
      all_goals (first | exact absurd rfl (by assumption) | contradiction | exact h1.1.1 | exact h1.2 | exact hgr | omega | exact sameA_refl _ | trace_state)
    · have hc : daysC p g d = 2 := by unfold daysC; rw [if_pos h1, if_neg h2]
      rw [hc, if_neg (by decide), if_neg (by decide)]
      refine Goes.tree Γ_ok htb 1000 false false Try.func52 rfl ?_
      ((try simp only [decide_eq_true_eq, decide_eq_false_iff_not, Bool.not_eq_true', Bool.not_eq_false', Bool.not_true, Bool.not_false, Bool.and_eq_true, Bool.or_eq_true, bne_iff_ne, beq_iff_eq, ne_eq]); (try simp only [rng, lo, hi, mnI, mxI, Int.toNat_natCast, Sg.n, Nat.mul_one, Nat.zero_add, Nat.add_zero, Nat.reduceAdd, List.getD_cons_zero, List.getD_cons_succ, if_pos h1]))
      ((repeat' (first | (with_reducible apply And.intro) | intro _)); all_goals (first | exact trivial | (with_reducible assumption) | (show (_ : List Blk) = _; rfl) | (first | exact trivial | (with_reducible assumption) | omega | (split <;> omega) | (split <;> split <;> omega)) | skip); all_goals (try (refine ⟨rfl, (by first | exact Nat.le_refl _ | exact Nat.le_of_ble_eq_true rfl), rfl, rfl, ?_, (by repeat' (first | exact trivial | rfl | apply And.intro)), rfl, rfl⟩)))
      all_goals (first | exact absurd rfl (by assumption) | contradiction | omega | exact sameA_refl _ | trace_state)
  · have hc : daysC p g d = 1 := by unfold daysC; rw [if_neg h1]
    rw [hc, if_neg (by decide), if_neg (by decide)]
    refine Goes.tree Γ_ok htb 1000 false false Try.func52 rfl ?_
    ((try simp only [decide_eq_true_eq, decide_eq_false_iff_not, Bool.not_eq_true', Bool.not_eq_false', Bool.not_true, Bool.not_false, Bool.and_eq_true, Bool.or_eq_true, bne_iff_ne, beq_iff_eq, ne_eq]); (try simp only [rng, lo, hi, mnI, mxI, Int.toNat_natCast, Sg.n, Nat.mul_one, Nat.zero_add, Nat.add_zero, Nat.reduceAdd, List.getD_cons_zero, List.getD_cons_succ, if_neg h1]))
    ((repeat' (first | (with_reducible apply And.intro) | intro _)); all_goals (first | exact trivial | (with_reducible assumption) | (show (_ : List Blk) = _; rfl) | (first | exact trivial | (with_reducible assumption) | omega | (split <;> omega) | (split <;> split <;> omega)) | skip); all_goals (try (refine ⟨rfl, (by first | exact Nat.le_refl _ | exact Nat.le_of_ble_eq_true rfl), rfl, rfl, ?_, (by repeat' (first | exact trivial | rfl | apply And.intro)), rfl, rfl⟩)))
    all_goals (first | exact absurd rfl (by assumption) | contradiction | omega | exact sameA_refl _ | trace_state)
end Go.Proofs.Ytgogccconmlkiaa
