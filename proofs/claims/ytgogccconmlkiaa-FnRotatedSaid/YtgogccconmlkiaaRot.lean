/- Days of rotation over the yards. -/
import Derived.Test.YtgogccconmlkiaaYards
import Derived.Test.YtgogccconmlkiaaDays
import Derived.Test.YtgogccconmlkiaaGraze
namespace Go.Proofs.Ytgogccconmlkiaa
open Go Go.Eng
set_option linter.unusedSimpArgs false
set_option linter.unusedVariables false
set_option maxRecDepth 100000
set_option maxHeartbeats 4000000

theorem four_rows {α : Type} (a s t u v : α) : ((((List.replicate 4 a).set 0 s).set 1 t).set 2 u).set 3 v = [s, t, u, v] := rfl

/-- Is a number of the order out of the yards? -/
def outO (n : Int) (r : List Int) : Bool := !decide (0 ≤ r.getD 0 0 ∧ r.getD 0 0 ≤ n)
def outRS : Fun
  | [.i .i64 v, .pw 0 .i64], [.c .i64 [n]] => some (.b (outO n [v]), [.c .i64 [n]], [])
  | _, _ => .none
set_option maxRecDepth 100000 in
theorem s_outO : Sound Try.prog 129 outRS := by
  intro args M r M' vs h hvs
  unfold outRS at h
  split at h
  case h_2 => cases h
  rename_i v n
  cases h
  refine SpecOK.assume fun hA hM => ?_
  have htb := (TbOk.cons s_within Try.func83 rfl rfl (TbOk.nil : TbOk Try.prog tb0))
  refine SpecOK.of_goes [0] Try.func129 rfl ?_
  clear hA hM
  refine Goes.tree Γ_ok htb 1000 false false Try.func129 rfl ?_
  ((try simp only [decide_eq_true_eq, decide_eq_false_iff_not, Bool.not_eq_true', Bool.not_eq_false', Bool.not_true, Bool.not_false, Bool.and_eq_true, Bool.or_eq_true, bne_iff_ne, beq_iff_eq, ne_eq]); (try simp only [rng, lo, hi, mnI, mxI, Int.toNat_natCast, Sg.n, Nat.mul_one, Nat.zero_add, Nat.add_zero, Nat.reduceAdd, List.getD_cons_zero, List.getD_cons_succ]))
  ((repeat' (first | (with_reducible apply And.intro) | intro _)); all_goals (first | exact trivial | (with_reducible assumption) | (show (_ : List Blk) = _; rfl) | (first | exact trivial | (with_reducible assumption) | omega | (split <;> omega) | (split <;> split <;> omega)) | skip); all_goals (try (refine ⟨rfl, (by first | exact Nat.le_refl _ | exact Nat.le_of_ble_eq_true rfl), rfl, rfl, ?_, (by repeat' (first | exact trivial | rfl | apply And.intro)), rfl, rfl⟩)))
  exact sameA_refl _
def idxOutOS : Fun
  | [.fs .i64 rows, .fn 129 [(0, .i64)]], [.c .i64 [n]] => some (.i .i64 (findI (fun r => outO n [r.getD 0 0]) rows), [.c .i64 [n]], [True])
  | _, _ => .none
set_option maxRecDepth 100000 in
theorem s_idxOutO : Sound Try.prog 157 idxOutOS := by
  intro args M r M' vs h hvs
  unfold idxOutOS at h
  split at h
  case h_2 => cases h
  rename_i rows n
  cases h
  refine SpecOK.assume fun hA hM => ?_
  have htb := (TbOk.cons s_outO Try.func129 rfl rfl (TbOk.nil : TbOk Try.prog tb0))
  refine SpecOK.of_goes [0] Try.func157 rfl ?_
  have hl : rows.length ≤ maxLen := hA.1
  have hm : maxLen = 9223372036854775807 := rfl
  obtain ⟨hc, -⟩ := hvs
  
  clear hA hM
  refine Goes.tree Γ_ok htb 1000 false false Try.func157 rfl ?_
  refine ⟨?_⟩
  refine Goes.loopR (fun i : Nat => rows.length - i) (fun i => i ≤ rows.length ∧ ∀ j, j < i → (fun r => outO n [r.getD 0 0]) (rows.getD j []) = false) (fun i => (.fs .i64 rows :: .fn 129 [(0, .i64)] :: .any :: .any :: .any :: .any :: .any :: .i .i64 (rows.length:Int) :: .i .i64 (i:Int) :: .any :: .any :: .any :: .any :: .any :: .any :: .any :: .any :: .any :: .any :: [])) (fun _ => [.c .i64 [n]]) 0 [0] ⟨by omega, fun j hj => by omega⟩ ⟨rfl, rfl, rfl, (by repeat' (first | exact trivial | rfl | apply And.intro)), (by repeat' (first | exact trivial | rfl | apply And.intro)), rfl, rfl, rfl⟩ fun i ⟨hle, hno⟩ ih => ?_
  refine Goes.tree Γ_ok htb 1000 false false Try.func157 rfl ?_
  ((try simp only [decide_eq_true_eq, decide_eq_false_iff_not, Bool.not_eq_true', Bool.not_eq_false', Bool.not_true, Bool.not_false, Bool.and_eq_true, Bool.or_eq_true, bne_iff_ne, beq_iff_eq, ne_eq]); (try simp only [rng, lo, hi, mnI, mxI, Int.toNat_natCast, Sg.n, Nat.mul_one, Nat.zero_add, Nat.add_zero, Nat.reduceAdd, List.getD_cons_zero, List.getD_cons_succ]))
  ((repeat' (first | (with_reducible apply And.intro) | intro _)); all_goals (first | exact trivial | (with_reducible assumption) | (show (_ : List Blk) = _; rfl) | (first | exact trivial | (with_reducible assumption) | omega | (split <;> omega) | (split <;> split <;> omega)) | skip); all_goals (try (refine ⟨rfl, (by first | exact Nat.le_refl _ | exact Nat.le_of_ble_eq_true rfl), rfl, rfl, ?_, (by repeat' (first | exact trivial | rfl | apply And.intro)), rfl, rfl⟩)))
  · rename_i h1 h2
    rw [findI_some (by omega) h2 hno]
    exact sameA_refl _
  · rename_i h1 h2
    refine ⟨ih (i + 1) ⟨by omega, fun j hj => ?_⟩ (by omega) [0] _ _ ⟨rfl, rfl, rfl, (by repeat' (first | exact trivial | rfl | apply And.intro)), (by repeat' (first | exact trivial | rfl | apply And.intro)), rfl, rfl, rfl⟩⟩
    by_cases hji : j = i
    · subst hji; exact h2
    · exact hno j (by omega)
  · obtain rfl : i = rows.length := by omega
    rw [findI_none hno]
    exact sameA_refl _

def hasOutOS : Fun
  | [.fs .i64 rows, .fn 129 [(0, .i64)]], [.c .i64 [n]] => some (.b (rows.any (fun r => outO n [r.getD 0 0])), [.c .i64 [n]], [True])
  | _, _ => .none
set_option maxRecDepth 100000 in
theorem s_hasOutO : Sound Try.prog 128 hasOutOS := by
  intro args M r M' vs h hvs
  unfold hasOutOS at h
  split at h
  case h_2 => cases h
  rename_i rows n
  cases h
  refine SpecOK.assume fun hA hM => ?_
  have htb := (TbOk.cons s_idxOutO Try.func157 rfl rfl (TbOk.nil : TbOk Try.prog tb0))
  refine SpecOK.of_goes [0] Try.func128 rfl ?_
  obtain ⟨hc, -⟩ := hvs
  refine Goes.tree Γ_ok htb 1000 false false Try.func128 rfl ?_
  ((try simp only [decide_eq_true_eq, decide_eq_false_iff_not, Bool.not_eq_true', Bool.not_eq_false', Bool.not_true, Bool.not_false, Bool.and_eq_true, Bool.or_eq_true, bne_iff_ne, beq_iff_eq, ne_eq]); (try simp only [rng, lo, hi, mnI, mxI, Int.toNat_natCast, Sg.n, Nat.mul_one, Nat.zero_add, Nat.add_zero, Nat.reduceAdd, List.getD_cons_zero, List.getD_cons_succ]))
  ((repeat' (first | (with_reducible apply And.intro) | intro _)); all_goals (first | exact trivial | (with_reducible assumption) | (show (_ : List Blk) = _; rfl) | (first | exact trivial | (with_reducible assumption) | omega | (split <;> omega) | (split <;> split <;> omega)) | skip); all_goals (try (refine ⟨rfl, (by first | exact Nat.le_refl _ | exact Nat.le_of_ble_eq_true rfl), rfl, rfl, ?_, (by repeat' (first | exact trivial | rfl | apply And.intro)), rfl, rfl⟩)))
  rw [← findI_any]
  exact sameA_refl _

def sizeIS : Fun
  | [.fs .i64 rows], [] => some (.i .i64 rows.length, [], [])
  | _, _ => .none
set_option maxRecDepth 100000 in
theorem s_sizeI : Sound Try.prog 126 sizeIS := by
  intro args M r M' vs h hvs
  unfold sizeIS at h
  split at h
  case h_2 => cases h
  rename_i rows
  cases h
  refine SpecOK.assume fun hA hM => ?_
  have htb := (TbOk.nil : TbOk Try.prog tb0)
  refine SpecOK.of_goes [] Try.func126 rfl ?_
  refine Goes.tree Γ_ok htb 1000 false false Try.func126 rfl ?_
  ((try simp only [decide_eq_true_eq, decide_eq_false_iff_not, Bool.not_eq_true', Bool.not_eq_false', Bool.not_true, Bool.not_false, Bool.and_eq_true, Bool.or_eq_true, bne_iff_ne, beq_iff_eq, ne_eq]); (try simp only [rng, lo, hi, mnI, mxI, Int.toNat_natCast, Sg.n, Nat.mul_one, Nat.zero_add, Nat.add_zero, Nat.reduceAdd, List.getD_cons_zero, List.getD_cons_succ]))
  ((repeat' (first | (with_reducible apply And.intro) | intro _)); all_goals (first | exact trivial | (with_reducible assumption) | (show (_ : List Blk) = _; rfl) | (first | exact trivial | (with_reducible assumption) | omega | (split <;> omega) | (split <;> split <;> omega)) | skip); all_goals (try (refine ⟨rfl, (by first | exact Nat.le_refl _ | exact Nat.le_of_ble_eq_true rfl), rfl, rfl, ?_, (by repeat' (first | exact trivial | rfl | apply And.intro)), rfl, rfl⟩)))
  exact sameA_refl _
def sizeYS : Fun
  | [.fz .spot rows], [] => some (.i .i64 rows.length, [], [])
  | _, _ => .none
set_option maxRecDepth 100000 in
theorem s_sizeY : Sound Try.prog 127 sizeYS := by
  intro args M r M' vs h hvs
  unfold sizeYS at h
  split at h
  case h_2 => cases h
  rename_i rows
  cases h
  refine SpecOK.assume fun hA hM => ?_
  have htb := (TbOk.nil : TbOk Try.prog tb0)
  refine SpecOK.of_goes [] Try.func127 rfl ?_
  refine Goes.tree Γ_ok htb 1000 false false Try.func127 rfl ?_
  ((try simp only [decide_eq_true_eq, decide_eq_false_iff_not, Bool.not_eq_true', Bool.not_eq_false', Bool.not_true, Bool.not_false, Bool.and_eq_true, Bool.or_eq_true, bne_iff_ne, beq_iff_eq, ne_eq]); (try simp only [rng, lo, hi, mnI, mxI, Int.toNat_natCast, Sg.n, Nat.mul_one, Nat.zero_add, Nat.add_zero, Nat.reduceAdd, List.getD_cons_zero, List.getD_cons_succ]))
  ((repeat' (first | (with_reducible apply And.intro) | intro _)); all_goals (first | exact trivial | (with_reducible assumption) | (show (_ : List Blk) = _; rfl) | (first | exact trivial | (with_reducible assumption) | omega | (split <;> omega) | (split <;> split <;> omega)) | skip); all_goals (try (refine ⟨rfl, (by first | exact Nat.le_refl _ | exact Nat.le_of_ble_eq_true rfl), rfl, rfl, ?_, (by repeat' (first | exact trivial | rfl | apply And.intro)), rfl, rfl⟩)))
  exact sameA_refl _

noncomputable def yardsP (p : List Int) : List (List (List Int)) := yL p (spots p)
def rotC0 (p g : List Int) (n : Int) (stay eats d : Int) : Int :=
  if okP p ∧ okG g then (if 0 ≤ d ∧ d ≤ 365 then (if (1 ≤ stay ∧ stay ≤ 365) ∧ 0 ≤ eats ∧ eats ≤ 100000 then (if 1 ≤ n ∧ n ≤ 40 then 0 else 3) else 2) else 2) else 1
theorem rotC0_ok {p g : List Int} {n : Int} {stay eats d : Int} (h : rotC0 p g n stay eats d = 0) : okP p ∧ okG g ∧ (0 ≤ d ∧ d ≤ 365) ∧ (1 ≤ stay ∧ stay ≤ 365) ∧ (0 ≤ eats ∧ eats ≤ 100000) ∧ (1 ≤ n ∧ n ≤ 40) := by
  unfold rotC0 at h
  split at h
  · rename_i h1
    split at h
    · rename_i h2
      split at h
      · rename_i h3
        split at h
        · rename_i h4
          exact ⟨h1.1, h1.2, h2, h3.1, h3.2, h4⟩
        · cases h
      · cases h
    · cases h
  · cases h
theorem rotC0_fst (p g : List Int) (n : Int) (stay eats d : Int) : fstI [[if okP p ∧ okG g then 0 else 1], [if 0 ≤ d ∧ d ≤ 365 then 0 else 2], [if (1 ≤ stay ∧ stay ≤ 365) ∧ 0 ≤ eats ∧ eats ≤ 100000 then 0 else 2], [if 1 ≤ n ∧ n ≤ 40 then 0 else 3]] = rotC0 p g n stay eats d := by
  unfold rotC0
  simp only [fstI, List.getD_cons_zero]
  by_cases h1 : okP p ∧ okG g
  · rw [if_pos h1, if_pos rfl, if_pos h1]
    by_cases h2 : 0 ≤ d ∧ d ≤ 365
    · rw [if_pos h2, if_pos rfl, if_pos h2]
      by_cases h3 : (1 ≤ stay ∧ stay ≤ 365) ∧ 0 ≤ eats ∧ eats ≤ 100000
      · rw [if_pos h3, if_pos rfl, if_pos h3]
        by_cases h4 : 1 ≤ n ∧ n ≤ 40
        · rw [if_pos h4, if_pos rfl]
        · rw [if_neg h4, if_neg (by decide)]
      · rw [if_neg h3, if_neg (by decide), if_neg h3]
    · rw [if_neg h2, if_neg (by decide), if_neg h2]
  · rw [if_neg h1, if_neg (by decide), if_neg h1]

/-- Does the order name a yard that is not there? -/
noncomputable def badO (p : List Int) (rows : List (List Int)) : Bool := rows.any (fun r => outO ((yL p (spots p)).length - 1) [r.getD 0 0])
noncomputable def rotC (p g : List Int) (rows : List (List Int)) (stay eats d : Int) : Int :=
  if rotC0 p g rows.length stay eats d = 0 then (if badO p rows = true then 4 else 0) else rotC0 p g rows.length stay eats d
theorem badO_ok {p : List Int} {rows : List (List Int)} (h : ¬ badO p rows = true) : ∀ r ∈ rows, 0 ≤ r.getD 0 0 ∧ r.getD 0 0 < (yL p (spots p)).length := by
  intro r hr
  unfold badO at h
  rw [List.any_eq_true] at h
  have h6 : ¬ outO ((yL p (spots p)).length - 1) [r.getD 0 0] = true := fun e => h ⟨r, hr, e⟩
  unfold outO at h6
  simp only [List.getD_cons_zero, Bool.not_eq_true', decide_eq_false_iff_not, Classical.not_not] at h6
  omega
theorem rotC_ok {p g : List Int} {rows : List (List Int)} {stay eats d : Int} (h : rotC p g rows stay eats d = 0) :
    okP p ∧ okG g ∧ (0 ≤ d ∧ d ≤ 365) ∧ (1 ≤ stay ∧ stay ≤ 365) ∧ (0 ≤ eats ∧ eats ≤ 100000) ∧ (1 ≤ (rows.length : Int) ∧ (rows.length : Int) ≤ 40) ∧ ∀ r ∈ rows, 0 ≤ r.getD 0 0 ∧ r.getD 0 0 < (yL p (spots p)).length := by
  unfold rotC at h
  split at h
  · rename_i h1
    split at h
    · cases h
    · rename_i h2
      obtain ⟨a, b, c, d', e, f⟩ := rotC0_ok h1
      exact ⟨a, b, c, d', e, f, badO_ok h2⟩
  · contradiction
noncomputable def rotCS : Fun
  | [.ag .pas p, .ag .gro g, .fs .i64 rows, .i .i64 stay, .i .i64 eats, .i .i64 d], [] => some (.i .i64 (rotC p g rows stay eats d), [], [])
  | _, _ => .none
set_option maxRecDepth 100000 in
theorem s_rotateCode : Sound Try.prog 67 rotCS := by
  intro args M r M' vs h hvs
  unfold rotCS at h
  split at h
  case h_2 => cases h
  rename_i p g rows stay eats d
  cases h
  refine SpecOK.assume fun hA hM => ?_
  have htb := (TbOk.cons s_within Try.func83 rfl rfl (TbOk.cons s_growthCodeN Try.func124 rfl rfl (TbOk.cons s_isDays Try.func125 rfl rfl (TbOk.cons s_unless Try.func82 rfl rfl (TbOk.cons s_sizeI Try.func126 rfl rfl (TbOk.cons s_firstOf Try.func80 rfl rfl (TbOk.cons s_yards Try.func76 rfl rfl (TbOk.cons s_sizeY Try.func127 rfl rfl (TbOk.cons s_hasOutO Try.func128 rfl rfl (TbOk.nil : TbOk Try.prog tb0))))))))))
  refine SpecOK.of_goes [] Try.func67 rfl ?_
  have hl : rows.length ≤ maxLen := hA.2.2.2.2.1
  have hm : maxLen = 9223372036854775807 := rfl
  have h100 := fun h : rotC0 p g rows.length stay eats d = 0 => yL_100 (rotC0_ok h).1.1
  clear hA hM
  have hg := growC_nil p g
  have hf := rotC0_fst p g rows.length stay eats d
  by_cases hs : 1 ≤ stay ∧ stay ≤ 365
  · simp only [hs, true_and] at hf
    refine Goes.tree Γ_ok htb 1000 false false Try.func67 rfl ?_
    ((try simp only [decide_eq_true_eq, decide_eq_false_iff_not, Bool.not_eq_true', Bool.not_eq_false', Bool.not_true, Bool.not_false, Bool.and_eq_true, Bool.or_eq_true, bne_iff_ne, beq_iff_eq, ne_eq]); (try simp only [rng, lo, hi, mnI, mxI, Int.toNat_natCast, Sg.n, Nat.mul_one, Nat.zero_add, Nat.add_zero, Nat.reduceAdd, List.getD_cons_zero, List.getD_cons_succ, one_row, four_rows, hg, hf]))
    ((repeat' (first | (with_reducible apply And.intro) | intro _)); all_goals (first | exact trivial | (with_reducible assumption) | (show (_ : List Blk) = _; rfl) | (first | exact trivial | (with_reducible assumption) | omega | (split <;> omega) | (split <;> split <;> omega)) | skip); all_goals (try (refine ⟨rfl, (by first | exact Nat.le_refl _ | exact Nat.le_of_ble_eq_true rfl), rfl, rfl, ?_, (by repeat' (first | exact trivial | rfl | apply And.intro)), rfl, rfl⟩)))
    all_goals (try exact absurd hs ‹¬ (1 ≤ stay ∧ stay ≤ 365)›)
    · rename_i h
      refine sameA_i ?_
      unfold rotC; rw [if_neg h]
    · rename_i h; exact (rotC0_ok h).1.1
    · rename_i h
      refine sameA_i ?_
      unfold rotC badO
      rw [if_pos h]
      cases (rows.any fun r => outO ((yL p (spots p)).length - 1) [r.getD 0 0]) <;> rfl
  · simp only [hs, false_and, if_false] at hf
    refine Goes.tree Γ_ok htb 1000 false false Try.func67 rfl ?_
    ((try simp only [decide_eq_true_eq, decide_eq_false_iff_not, Bool.not_eq_true', Bool.not_eq_false', Bool.not_true, Bool.not_false, Bool.and_eq_true, Bool.or_eq_true, bne_iff_ne, beq_iff_eq, ne_eq]); (try simp only [rng, lo, hi, mnI, mxI, Int.toNat_natCast, Sg.n, Nat.mul_one, Nat.zero_add, Nat.add_zero, Nat.reduceAdd, List.getD_cons_zero, List.getD_cons_succ, one_row, four_rows, hg, hf]))
    ((repeat' (first | (with_reducible apply And.intro) | intro _)); all_goals (first | exact trivial | (with_reducible assumption) | (show (_ : List Blk) = _; rfl) | (first | exact trivial | (with_reducible assumption) | omega | (split <;> omega) | (split <;> split <;> omega)) | skip); all_goals (try (refine ⟨rfl, (by first | exact Nat.le_refl _ | exact Nat.le_of_ble_eq_true rfl), rfl, rfl, ?_, (by repeat' (first | exact trivial | rfl | apply And.intro)), rfl, rfl⟩)))
    all_goals (try exact absurd ‹1 ≤ stay ∧ stay ≤ 365› hs)
    · rename_i h
      refine sameA_i ?_
      unfold rotC; rw [if_neg h]
    · rename_i h; exact (rotC0_ok h).1.1
    · rename_i h
      refine sameA_i ?_
      unfold rotC badO
      rw [if_pos h]
      cases (rows.any fun r => outO ((yL p (spots p)).length - 1) [r.getD 0 0]) <;> rfl

noncomputable def rotdS : Fun
  | [.pw 0 .pas, .pw 1 .gro, .fs .i64 rows, .i .i64 stay, .i .i64 eats, .i .i64 d], [.c .pas p, .c .gro g] => some (.i .i64 (rotC p g rows stay eats d), [.c .pas p, .c .gro g], [])
  | _, _ => .none
set_option maxRecDepth 100000 in
theorem s_l04Rotated : Sound Try.prog 64 rotdS := by
  intro args M r M' vs h hvs
  unfold rotdS at h
  split at h
  case h_2 => cases h
  rename_i rows stay eats d p g
  cases h
  refine SpecOK.assume fun hA hM => ?_
  have htb := (TbOk.cons s_l04Asked Try.func106 rfl rfl (TbOk.cons s_l04Day Try.func107 rfl rfl (TbOk.cons s_l04Eats Try.func111 rfl rfl (TbOk.cons s_l00In Try.func110 rfl rfl (TbOk.cons s_l01Numbers Try.func122 rfl rfl (TbOk.nil : TbOk Try.prog tb0))))))
  refine SpecOK.of_goes [0, 1] Try.func64 rfl ?_
  have hl : rows.length ≤ maxLen := hA.2.2.1
  have hm : maxLen = 9223372036854775807 := rfl
  have h100 := fun h : okD p => yL_100 h
  clear hA hM
  by_cases h1 : okP p ∧ okG g
  · have hN : rotC0 p g rows.length stay eats d = if 0 ≤ d ∧ d ≤ 365 then (if (1 ≤ stay ∧ stay ≤ 365) ∧ 0 ≤ eats ∧ eats ≤ 100000 then (if 1 ≤ (rows.length : Int) ∧ (rows.length : Int) ≤ 40 then 0 else 3) else 2) else 2 := if_pos h1
    refine Goes.tree Γ_ok htb 1000 false false Try.func64 rfl ?_
    ((try simp only [decide_eq_true_eq, decide_eq_false_iff_not, Bool.not_eq_true', Bool.not_eq_false', Bool.not_true, Bool.not_false, Bool.and_eq_true, Bool.or_eq_true, bne_iff_ne, beq_iff_eq, ne_eq]); (try simp only [rng, lo, hi, mnI, mxI, Int.toNat_natCast, Sg.n, Nat.mul_one, Nat.zero_add, Nat.add_zero, Nat.reduceAdd, List.getD_cons_zero, List.getD_cons_succ, if_pos h1]))
    ((repeat' (first | (with_reducible apply And.intro) | intro _)); all_goals (first | exact trivial | (with_reducible assumption) | (show (_ : List Blk) = _; rfl) | (first | exact trivial | (with_reducible assumption) | omega | (split <;> omega) | (split <;> split <;> omega)) | skip); all_goals (try (refine ⟨rfl, (by first | exact Nat.le_refl _ | exact Nat.le_of_ble_eq_true rfl), rfl, rfl, ?_, (by repeat' (first | exact trivial | rfl | apply And.intro)), rfl, rfl⟩)))
    all_goals (first | exact absurd rfl (by assumption) | contradiction | exact h1.1.1 | (refine sameA_i ?_; unfold rotC; rw [hN]; simp [*]; done) | skip)
    have hz : rotC0 p g rows.length stay eats d = 0 := by rw [hN]; simp [*]
    have hC : rotC p g rows stay eats d = if badO p rows = true then 4 else 0 := if_pos hz
    have hy := h100 h1.1.1
    rw [hC]
    refine ⟨?_⟩
    refine Goes.loopR (fun i : Nat => rows.length - i) (fun i => i ≤ rows.length ∧ ∀ j, j < i → outO ((yL p (spots p)).length - 1) [(rows.getD j []).getD 0 0] = false) (fun i => (.any :: .any :: .fs .i64 rows :: .any :: .any :: .any :: .any :: .any :: .any :: .any :: .any :: .any :: .any :: .any :: .any :: .fz .spot (yL p (spots p)) :: .i .i64 (i:Int) :: .any :: .any :: .any :: .any :: .any :: .any :: .any :: .any :: .any :: .any :: .any :: .any :: .any :: .any :: .any :: .any :: .any :: .any :: .any :: .any :: .any :: .any :: .any :: .any :: .any :: .any :: .any :: .any :: .any :: .any :: .any :: .any :: .any :: .any :: .any :: .any :: .any :: .any :: .any :: .any :: .any :: .any :: .any :: .any :: .any :: .any :: .any :: .any :: .any :: .any :: .any :: [])) (fun _ => [.c .pas p, .c .gro g]) 0 [0, 1] ⟨Nat.zero_le _, fun j hj => by omega⟩ ⟨rfl, rfl, rfl, (by repeat' (first | exact trivial | rfl | apply And.intro)), (by repeat' (first | exact trivial | rfl | apply And.intro)), rfl, rfl, rfl⟩ fun i ⟨hle, hno⟩ ih => ?_
    have hout : outO ((yL p (spots p)).length - 1) [(rows.getD i []).getD 0 0] = !decide (0 ≤ (rows.getD i []).getD 0 0 ∧ (rows.getD i []).getD 0 0 ≤ (yL p (spots p)).length - 1) := rfl
    by_cases hlt : i < rows.length
    · refine Goes.tree Γ_ok htb 1000 false false Try.func64 rfl ?_
      ((try simp only [decide_eq_true_eq, decide_eq_false_iff_not, Bool.not_eq_true', Bool.not_eq_false', Bool.not_true, Bool.not_false, Bool.and_eq_true, Bool.or_eq_true, bne_iff_ne, beq_iff_eq, ne_eq]); (try simp only [rng, lo, hi, mnI, mxI, Int.toNat_natCast, Sg.n, Nat.mul_one, Nat.zero_add, Nat.add_zero, Nat.reduceAdd, List.getD_cons_zero, List.getD_cons_succ]))
      ((repeat' (first | (with_reducible apply And.intro) | intro _)); all_goals (first | exact trivial | (with_reducible assumption) | (show (_ : List Blk) = _; rfl) | (first | exact trivial | (with_reducible assumption) | omega | (split <;> omega) | (split <;> split <;> omega)) | skip); all_goals (try (refine ⟨rfl, (by first | exact Nat.le_refl _ | exact Nat.le_of_ble_eq_true rfl), rfl, rfl, ?_, (by repeat' (first | exact trivial | rfl | apply And.intro)), rfl, rfl⟩)))
      · rename_i hb
        have hb2 : badO p rows = true := by
          unfold badO
          rw [List.any_eq_true]
          refine ⟨_, getD_mem (d := []) hlt, ?_⟩
          show outO _ _ = true
          rw [hout, decide_eq_false hb]; rfl
        rw [hb2]
        exact sameA_refl _
      · rename_i hb
        refine ⟨ih (i + 1) ⟨by omega, fun j hj => ?_⟩ (by omega) [0, 1] _ _ ⟨rfl, rfl, rfl, (by repeat' (first | exact trivial | rfl | apply And.intro)), (by repeat' (first | exact trivial | rfl | apply And.intro)), rfl, rfl, rfl⟩⟩
        by_cases hji : j = i
        · subst hji; rw [hout, decide_eq_true hb]; rfl
        · exact hno j (by omega)
    · obtain rfl : i = rows.length := by omega
      clear ih
      have hb : badO p rows = false := by
        cases hh : badO p rows with
        | false => rfl
        | true =>
          unfold badO at hh
          rw [List.any_eq_true] at hh
          obtain ⟨r, hm, e⟩ := hh
          obtain ⟨k, hk, rfl⟩ := List.mem_iff_getElem.1 hm
          have h3 := hno k hk
          have h4 : rows.getD k [] = rows[k] := by rw [List.getD_eq_getElem?_getD, List.getElem?_eq_getElem hk]; rfl
          rw [h4] at h3
          exact absurd (h3.symm.trans e) (by decide)
      rw [hb]
      refine Goes.tree Γ_ok htb 1000 false false Try.func64 rfl ?_
      ((try simp only [decide_eq_true_eq, decide_eq_false_iff_not, Bool.not_eq_true', Bool.not_eq_false', Bool.not_true, Bool.not_false, Bool.and_eq_true, Bool.or_eq_true, bne_iff_ne, beq_iff_eq, ne_eq]); (try simp only [rng, lo, hi, mnI, mxI, Int.toNat_natCast, Sg.n, Nat.mul_one, Nat.zero_add, Nat.add_zero, Nat.reduceAdd, List.getD_cons_zero, List.getD_cons_succ]))
      ((repeat' (first | (with_reducible apply And.intro) | intro _)); all_goals (first | exact trivial | (with_reducible assumption) | (show (_ : List Blk) = _; rfl) | (first | exact trivial | (with_reducible assumption) | omega | (split <;> omega) | (split <;> split <;> omega)) | skip); all_goals (try (refine ⟨rfl, (by first | exact Nat.le_refl _ | exact Nat.le_of_ble_eq_true rfl), rfl, rfl, ?_, (by repeat' (first | exact trivial | rfl | apply And.intro)), rfl, rfl⟩)))
      all_goals (first | contradiction | exact sameA_refl _ | trace_state)
  · have hN : rotC0 p g rows.length stay eats d = 1 := if_neg h1
    refine Goes.tree Γ_ok htb 1000 false false Try.func64 rfl ?_
    ((try simp only [decide_eq_true_eq, decide_eq_false_iff_not, Bool.not_eq_true', Bool.not_eq_false', Bool.not_true, Bool.not_false, Bool.and_eq_true, Bool.or_eq_true, bne_iff_ne, beq_iff_eq, ne_eq]); (try simp only [rng, lo, hi, mnI, mxI, Int.toNat_natCast, Sg.n, Nat.mul_one, Nat.zero_add, Nat.add_zero, Nat.reduceAdd, List.getD_cons_zero, List.getD_cons_succ, if_neg h1]))
    ((repeat' (first | (with_reducible apply And.intro) | intro _)); all_goals (first | exact trivial | (with_reducible assumption) | (show (_ : List Blk) = _; rfl) | (first | exact trivial | (with_reducible assumption) | omega | (split <;> omega) | (split <;> split <;> omega)) | skip); all_goals (try (refine ⟨rfl, (by first | exact Nat.le_refl _ | exact Nat.le_of_ble_eq_true rfl), rfl, rfl, ?_, (by repeat' (first | exact trivial | rfl | apply And.intro)), rfl, rfl⟩)))
    all_goals (first | exact absurd rfl (by assumption) | contradiction | (refine sameA_i ?_; unfold rotC; rw [hN]; rfl) | trace_state)
end Go.Proofs.Ytgogccconmlkiaa
