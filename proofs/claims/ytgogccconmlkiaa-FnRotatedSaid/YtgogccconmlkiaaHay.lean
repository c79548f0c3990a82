/- The hay behind each number of days. -/
import Derived.Test.YtgogccconmlkiaaDays
import Derived.Test.YtgogccconmlkiaaMow
import Derived.Test.YtgogccconmlkiaaYard2
import Derived.Test.YtgogccconmlkiaaMarks
namespace Go.Proofs.Ytgogccconmlkiaa
open Go Go.Eng
set_option linter.unusedSimpArgs false
set_option linter.unusedVariables false
set_option maxRecDepth 100000
set_option maxHeartbeats 4000000

def hayAt (p g : List Int) (Y : List (List Int)) (leave : Int) (d : Nat) : Int := (mowK (growN g p d) Y leave Y.length).2.tdiv 4
def haysL (p g : List Int) (Y : List (List Int)) (leave : Int) : Nat → List (List Int)
  | 0 => []
  | n + 1 => haysL p g Y leave n ++ [[hayAt p g Y leave n]]
theorem haysL_len (p g : List Int) (Y : List (List Int)) (leave : Int) : ∀ n, (haysL p g Y leave n).length = n
  | 0 => rfl
  | n + 1 => by simp [haysL, haysL_len p g Y leave n]
theorem haysL_get (p g : List Int) (Y : List (List Int)) (leave : Int) : ∀ n d, d < n → (haysL p g Y leave n).getD d [] = [hayAt p g Y leave d] := by
  intro n
  induction n with
  | zero => intro d h; omega
  | succ n ih =>
    intro d h
    unfold haysL
    rw [List.getD_eq_getElem?_getD]
    by_cases hd : d < n
    · rw [List.getElem?_append_left (by rw [haysL_len]; exact hd), ← List.getD_eq_getElem?_getD]; exact ih d hd
    · obtain rfl : d = n := by omega
      rw [List.getElem?_append_right (by rw [haysL_len]; exact Nat.le_refl _), haysL_len, Nat.sub_self]; rfl

def hayOk (p g : List Int) (Y : List (List Int)) (days leave : Int) : Prop := GR p ∧ okD p ∧ okG g ∧ cellsR Y ∧ Y.length ≤ 100 ∧ 0 ≤ days ∧ days ≤ 365 ∧ 0 ≤ leave ∧ leave ≤ 1000

theorem hayAt_rng {p g : List Int} {Y : List (List Int)} {leave : Int} (hp : GR p) (hd : okD p) (hg : okG g) (hY : cellsR Y) (hl : Y.length ≤ 100) (h0 : 0 ≤ leave) (h1 : leave ≤ 1000) (d : Nat) : 0 ≤ hayAt p g Y leave d ∧ hayAt p g Y leave d ≤ 100000 := by
  have hN := growN_ok hg hp hd d
  obtain ⟨-, m1, m2, -⟩ := mowK_ok hN.1 (fun s hs => (hY s hs).1) h0 h1 Y.length (Nat.le_refl _)
  have := quo4 m1 m2
  unfold hayAt; omega

def haysS : Fun
  | [.ag .pas p, .ag .gro g, .fs .spot Y, .i .i64 days, .i .i64 leave], [] => some (.fs .i64 (haysL p g Y leave (days + 1).toNat), [], [hayOk p g Y days leave])
  | _, _ => .none
set_option maxRecDepth 100000 in
theorem s_hays : Sound Try.prog 100 haysS := by
  intro args M r M' vs h hvs
  unfold haysS at h
  split at h
  case h_2 => cases h
  rename_i p g Y days leave
  cases h
  refine SpecOK.assume fun hA hM => ?_
  have htb := (TbOk.cons s_mow Try.func93 rfl rfl (TbOk.cons s_growN Try.func105 rfl rfl (TbOk.nil : TbOk Try.prog tb0)))
  refine SpecOK.of_goes [] Try.func100 rfl ?_
  obtain ⟨⟨hp, hd, hg, hY, hYl, h0, h1, h2, h3⟩, -⟩ := hvs
  clear hA hM
  refine Goes.tree Γ_ok htb 1000 true false Try.func100 rfl ?_
  ((try simp only [decide_eq_true_eq, decide_eq_false_iff_not, Bool.not_eq_true', Bool.not_eq_false', Bool.not_true, Bool.not_false, Bool.and_eq_true, Bool.or_eq_true, bne_iff_ne, beq_iff_eq, ne_eq]); (try simp only [rng, lo, hi, mnI, mxI, Int.toNat_natCast, Sg.n, Nat.mul_one, Nat.zero_add, Nat.add_zero, Nat.reduceAdd, List.getD_cons_zero, List.getD_cons_succ]))
  ((repeat' (first | (with_reducible apply And.intro) | intro _)); all_goals (first | exact trivial | (with_reducible assumption) | (show (_ : List Blk) = _; rfl) | (first | exact trivial | (with_reducible assumption) | omega | (split <;> omega) | (split <;> split <;> omega)) | skip); all_goals (try (refine ⟨rfl, (by first | exact Nat.le_refl _ | exact Nat.le_of_ble_eq_true rfl), rfl, rfl, ?_, (by repeat' (first | exact trivial | rfl | apply And.intro)), rfl, rfl⟩)))
  refine ⟨?_⟩
  refine Goes.loopR (fun i : Nat => (days + 1).toNat - i) (fun i => i ≤ (days + 1).toNat) (fun i => (.any :: .any :: .fs .spot Y :: .any :: .i .i64 leave :: .pw 0 .pas :: .pw 1 .gro :: .any :: .any :: .any :: .any :: .ow 2 (haysL p g Y leave i).length .i64 2 :: .any :: .any :: .any :: .i .i64 (days + 1) :: .i .i64 (i:Int) :: .any :: .any :: .any :: .any :: .any :: .any :: .any :: .any :: .any :: .any :: .any :: .any :: []))
    (fun i => [.c .pas (growN g p i), .c .gro g, .l .i64 (haysL p g Y leave i)]) 0 [0, 1, 2] (Nat.zero_le _) ⟨rfl, rfl, rfl, (by repeat' (first | exact trivial | rfl | apply And.intro)), (by repeat' (first | exact trivial | rfl | apply And.intro)), rfl, rfl, rfl⟩ fun i hle ih => ?_
  obtain ⟨q1, q2⟩ := growN_ok hg hp hd i
  have hhl := haysL_len p g Y leave i
  by_cases hlt : (i : Int) < days + 1
  · refine Goes.tree Γ_ok htb 1000 true false Try.func100 rfl ?_
    ((try simp only [decide_eq_true_eq, decide_eq_false_iff_not, Bool.not_eq_true', Bool.not_eq_false', Bool.not_true, Bool.not_false, Bool.and_eq_true, Bool.or_eq_true, bne_iff_ne, beq_iff_eq, ne_eq]); (try simp only [rng, lo, hi, mnI, mxI, Int.toNat_natCast, Sg.n, Nat.mul_one, Nat.zero_add, Nat.add_zero, Nat.reduceAdd, List.getD_cons_zero, List.getD_cons_succ, one_row]))
    ((repeat' (first | (with_reducible apply And.intro) | intro _)); all_goals (first | exact trivial | (with_reducible assumption) | (show (_ : List Blk) = _; rfl) | (first | exact trivial | (with_reducible assumption) | omega | (split <;> omega) | (split <;> split <;> omega)) | skip); all_goals (try (refine ⟨rfl, (by first | exact Nat.le_refl _ | exact Nat.le_of_ble_eq_true rfl), rfl, rfl, ?_, (by repeat' (first | exact trivial | rfl | apply And.intro)), rfl, rfl⟩)))
    all_goals (try first | exact ⟨q1, fun s hs => (hY s hs).1, h2, h3, by omega⟩ | exact ⟨q1, q2, hg, cellsR_nil, by simp⟩)
    · show (haysL p g Y leave i ++ [_]).length ≤ _
      simp only [List.length_append, List.length_cons, List.length_nil]; omega
    · exact ⟨ih (i + 1) (by omega) (by omega) [0, 1, 5] _ _ ⟨rfl, rfl, rfl, (by repeat' (first | exact trivial | rfl | apply And.intro)), (by repeat' (first | exact trivial | rfl | apply And.intro)), rfl, rfl, rfl⟩⟩
  · obtain rfl : i = (days + 1).toNat := by omega
    clear ih
    refine Goes.tree Γ_ok htb 1000 true false Try.func100 rfl ?_
    ((try simp only [decide_eq_true_eq, decide_eq_false_iff_not, Bool.not_eq_true', Bool.not_eq_false', Bool.not_true, Bool.not_false, Bool.and_eq_true, Bool.or_eq_true, bne_iff_ne, beq_iff_eq, ne_eq]); (try simp only [rng, lo, hi, mnI, mxI, Int.toNat_natCast, Sg.n, Nat.mul_one, Nat.zero_add, Nat.add_zero, Nat.reduceAdd, List.getD_cons_zero, List.getD_cons_succ]))
    ((repeat' (first | (with_reducible apply And.intro) | intro _)); all_goals (first | exact trivial | (with_reducible assumption) | (show (_ : List Blk) = _; rfl) | (first | exact trivial | (with_reducible assumption) | omega | (split <;> omega) | (split <;> split <;> omega)) | skip); all_goals (try (refine ⟨rfl, (by first | exact Nat.le_refl _ | exact Nat.le_of_ble_eq_true rfl), rfl, rfl, ?_, (by repeat' (first | exact trivial | rfl | apply And.intro)), rfl, rfl⟩)))
    all_goals (first | contradiction | exact sameA_refl _ | trace_state)

theorem three_rows {α : Type} (a s t u : α) : (((List.replicate 3 a).set 0 s).set 1 t).set 2 u = [s, t, u] := rfl

def hayC (p g s : List Int) (d l : Int) : Int := if okP p ∧ okG g then (if codeP p [s] = 0 then (if (0 ≤ d ∧ d ≤ 365) ∧ (0 ≤ l ∧ l ≤ 1000) then 0 else 2) else codeP p [s]) else 1
theorem hayC_ok {p g s : List Int} {d l : Int} (h : hayC p g s d l = 0) : okP p ∧ okG g ∧ isP p s = true ∧ (0 ≤ d ∧ d ≤ 365) ∧ (0 ≤ l ∧ l ≤ 1000) := by
  unfold hayC at h
  split at h
  · rename_i h1
    split at h
    · rename_i h2
      split at h
      · rename_i h3; exact ⟨h1.1, h1.2, (codeP_all h2).2 s (List.mem_singleton.2 rfl), h3.1, h3.2⟩
      · cases h
    · contradiction
  · cases h
theorem hay_facts {p g s : List Int} {d l : Int} (hlen : p.length = 122) (h : hayC p g s d l = 0) : okD p ∧ isP p s = true ∧ hayOk p g (yardR p s) d l := by
  obtain ⟨h1, h2, h3, h4, h5⟩ := hayC_ok h
  exact ⟨h1.1, h3, GR.of hlen h1, h1.1, h2, yardR_cells h1.1, yardR_100 h1.1, h4.1, h4.2, h5.1, h5.2⟩

def hayCS : Fun
  | [.ag .pas p, .ag .gro g, .ag .spot s, .i .i64 d, .i .i64 l], [] => some (.i .i64 (hayC p g s d l), [], [])
  | _, _ => .none
set_option maxRecDepth 100000 in
theorem s_hayCode : Sound Try.prog 99 hayCS := by
  intro args M r M' vs h hvs
  unfold hayCS at h
  split at h
  case h_2 => cases h
  rename_i p g s d l
  cases h
  refine SpecOK.assume fun hA hM => ?_
  have htb := (TbOk.cons s_growthCode Try.func124 rfl rfl (TbOk.cons s_isDays Try.func125 rfl rfl (TbOk.cons s_isLeave Try.func92 rfl rfl (TbOk.cons s_firstOf Try.func80 rfl rfl (TbOk.nil : TbOk Try.prog tb0)))))
  refine SpecOK.of_goes [] Try.func99 rfl ?_
  clear hA hM
  refine Goes.tree Γ_ok htb 1000 false false Try.func99 rfl ?_
  ((try simp only [decide_eq_true_eq, decide_eq_false_iff_not, Bool.not_eq_true', Bool.not_eq_false', Bool.not_true, Bool.not_false, Bool.and_eq_true, Bool.or_eq_true, bne_iff_ne, beq_iff_eq, ne_eq]); (try simp only [rng, lo, hi, mnI, mxI, Int.toNat_natCast, Sg.n, Nat.mul_one, Nat.zero_add, Nat.add_zero, Nat.reduceAdd, List.getD_cons_zero, List.getD_cons_succ, one_row, three_rows]))
  ((repeat' (first | (with_reducible apply And.intro) | intro _)); all_goals (first | exact trivial | (with_reducible assumption) | (show (_ : List Blk) = _; rfl) | (first | exact trivial | (with_reducible assumption) | omega | (split <;> omega) | (split <;> split <;> omega)) | skip); all_goals (try (refine ⟨rfl, (by first | exact Nat.le_refl _ | exact Nat.le_of_ble_eq_true rfl), rfl, rfl, ?_, (by repeat' (first | exact trivial | rfl | apply And.intro)), rfl, rfl⟩)))
  refine sameA_i ?_
  unfold hayC growC
  simp only [fstI, List.getD_cons_zero]
  split
  · split <;> (try split) <;> (try split) <;> (try split) <;> simp_all
  · simp

def mowedS : Fun
  | [.pw 0 .pas, .pw 1 .gro, .ag .spot s, .i .i64 d, .i .i64 l], [.c .pas p, .c .gro g] => some (.i .i64 (hayC p g s d l), [.c .pas p, .c .gro g], [])
  | _, _ => .none
def askedFS : Fun
  | [.pw 0 .pas, .ag .spot s, .d false], [.c .pas p] => some (.i .i64 (if okP p then 2 else 1), [.c .pas p], [])
  | _, _ => .none
set_option maxRecDepth 100000 in
theorem s_l01AskedF : Sound Try.prog 94 askedFS := by
  intro args M r M' vs h hvs
  unfold askedFS at h
  split at h
  case h_2 => cases h
  rename_i s p
  cases h
  refine SpecOK.assume fun hA hM => ?_
  have htb := (TbOk.cons s_l01Ok Try.func97 rfl rfl (TbOk.cons s_l01Is Try.func78 rfl rfl (TbOk.nil : TbOk Try.prog tb0)))
  refine SpecOK.of_goes [0] Try.func94 rfl ?_
  clear hA hM
  refine Goes.tree Γ_ok htb 1000 false false Try.func94 rfl ?_
  ((try simp only [decide_eq_true_eq, decide_eq_false_iff_not, Bool.not_eq_true', Bool.not_eq_false', Bool.not_true, Bool.not_false, Bool.and_eq_true, Bool.or_eq_true, bne_iff_ne, beq_iff_eq, ne_eq]); (try simp only [rng, lo, hi, mnI, mxI, Int.toNat_natCast, Sg.n, Nat.mul_one, Nat.zero_add, Nat.add_zero, Nat.reduceAdd, List.getD_cons_zero, List.getD_cons_succ]))
  ((repeat' (first | (with_reducible apply And.intro) | intro _)); all_goals (first | exact trivial | (with_reducible assumption) | (show (_ : List Blk) = _; rfl) | (first | exact trivial | (with_reducible assumption) | omega | (split <;> omega) | (split <;> split <;> omega)) | skip); all_goals (try (refine ⟨rfl, (by first | exact Nat.le_refl _ | exact Nat.le_of_ble_eq_true rfl), rfl, rfl, ?_, (by repeat' (first | exact trivial | rfl | apply And.intro)), rfl, rfl⟩)))
  all_goals (refine sameA_i ?_; simp [*])
theorem s_l01AskedO : Sound Try.prog 94 (orS askedS askedFS) := or_sound s_l01Asked s_l01AskedF
set_option maxRecDepth 100000 in
theorem s_l04Mowed : Sound Try.prog 103 mowedS := by
  intro args M r M' vs h hvs
  unfold mowedS at h
  split at h
  case h_2 => cases h
  rename_i s d l p g
  cases h
  refine SpecOK.assume fun hA hM => ?_
  have htb := (TbOk.cons s_l04Asked Try.func106 rfl rfl (TbOk.cons s_l04Day Try.func107 rfl rfl (TbOk.cons s_l01Grass Try.func87 rfl rfl (TbOk.cons s_l01AskedO Try.func94 rfl rfl (TbOk.nil : TbOk Try.prog tb0)))))
  refine SpecOK.of_goes [0, 1] Try.func103 rfl ?_
  clear hA hM
  have he := codeP_one p s
  by_cases h1 : okP p ∧ okG g
  · have hN : hayC p g s d l = if codeP p [s] = 0 then (if (0 ≤ d ∧ d ≤ 365) ∧ (0 ≤ l ∧ l ≤ 1000) then 0 else 2) else codeP p [s] := if_pos h1
    rw [if_pos h1.1] at he
    refine Goes.tree Γ_ok htb 1000 false false Try.func103 rfl ?_
    ((try simp only [decide_eq_true_eq, decide_eq_false_iff_not, Bool.not_eq_true', Bool.not_eq_false', Bool.not_true, Bool.not_false, Bool.and_eq_true, Bool.or_eq_true, bne_iff_ne, beq_iff_eq, ne_eq]); (try simp only [rng, lo, hi, mnI, mxI, Int.toNat_natCast, Sg.n, Nat.mul_one, Nat.zero_add, Nat.add_zero, Nat.reduceAdd, List.getD_cons_zero, List.getD_cons_succ, if_pos h1, if_pos h1.1]))
    ((repeat' (first | (with_reducible apply And.intro) | intro _)); all_goals (first | exact trivial | (with_reducible assumption) | (show (_ : List Blk) = _; rfl) | (first | exact trivial | (with_reducible assumption) | omega | (split <;> omega) | (split <;> split <;> omega)) | skip); all_goals (try (refine ⟨rfl, (by first | exact Nat.le_refl _ | exact Nat.le_of_ble_eq_true rfl), rfl, rfl, ?_, (by repeat' (first | exact trivial | rfl | apply And.intro)), rfl, rfl⟩)))
    all_goals (first | exact absurd rfl (by assumption) | contradiction | skip)
    all_goals (refine sameA_i ?_; rw [hN, he]; by_cases hs' : isP p s = true <;> by_cases hl' : 0 ≤ l ∧ l ≤ 1000 <;> simp [*])
  · have hN : hayC p g s d l = 1 := if_neg h1
    refine Goes.tree Γ_ok htb 1000 false false Try.func103 rfl ?_
    ((try simp only [decide_eq_true_eq, decide_eq_false_iff_not, Bool.not_eq_true', Bool.not_eq_false', Bool.not_true, Bool.not_false, Bool.and_eq_true, Bool.or_eq_true, bne_iff_ne, beq_iff_eq, ne_eq]); (try simp only [rng, lo, hi, mnI, mxI, Int.toNat_natCast, Sg.n, Nat.mul_one, Nat.zero_add, Nat.add_zero, Nat.reduceAdd, List.getD_cons_zero, List.getD_cons_succ, if_neg h1]))
    ((repeat' (first | (with_reducible apply And.intro) | intro _)); all_goals (first | exact trivial | (with_reducible assumption) | (show (_ : List Blk) = _; rfl) | (first | exact trivial | (with_reducible assumption) | omega | (split <;> omega) | (split <;> split <;> omega)) | skip); all_goals (try (refine ⟨rfl, (by first | exact Nat.le_refl _ | exact Nat.le_of_ble_eq_true rfl), rfl, rfl, ?_, (by repeat' (first | exact trivial | rfl | apply And.intro)), rfl, rfl⟩)))
    all_goals (first | exact absurd rfl (by assumption) | contradiction | (refine sameA_i ?_; rw [hN]) | trace_state)
end Go.Proofs.Ytgogccconmlkiaa
