/- The row BestMowing: the spec and the program choose the same day. -/
import Derived.Test.YtgogccconmlkiaaMax
import Derived.Test.YtgogccconmlkiaaEqs
namespace Go.Proofs.Ytgogccconmlkiaa
open Go Go.Eng
set_option linter.unusedSimpArgs false
set_option linter.unusedVariables false
set_option maxRecDepth 100000
set_option maxHeartbeats 4000000

noncomputable def bmD (p g s : List Int) (d l : Int) : Int := if hayC p g s d l = 0 then ((bestK (hayAt p g (yardR p s) l) d.toNat).1 : Nat) else 0
noncomputable def bmV (p g s : List Int) (d l : Int) : Int := if hayC p g s d l = 0 then (bestK (hayAt p g (yardR p s) l) d.toNat).2 else 0
noncomputable def bmS : Fun
  | [.ag .pas p, .ag .gro g, .ag .spot s, .i .i64 d, .i .i64 l], [] => some (.t3 (.i .i64 (bmD p g s d l)) (.i .i64 (bmV p g s d l)) (.i .i64 (hayC p g s d l)), [], [])
  | _, _ => .none
theorem sameA_i3 {k k' k'' : IntKind} {a b c d e f : Int} (h : a = b) (h' : c = d) (h'' : e = f) : sameA (.t3 (.i k'' a) (.i k c) (.i k' e)) (.t3 (.i k'' b) (.i k d) (.i k' f)) := by subst h; subst h'; subst h''; exact sameA_refl _

set_option maxRecDepth 100000 in
theorem s_implBestMowing : Sound Try.prog 47 bmS := by
  intro args M r M' vs h hvs
  unfold bmS at h
  split at h
  case h_2 => cases h
  rename_i p g s d l
  cases h
  refine SpecOK.assume fun hA hM => ?_
  have htb := (TbOk.cons s_hayCode Try.func99 rfl rfl (TbOk.cons s_yardZ Try.func85 rfl rfl (TbOk.cons s_hays Try.func100 rfl rfl (TbOk.cons s_maxR Try.func101 rfl rfl (TbOk.cons s_idxI Try.func102 rfl rfl (TbOk.nil : TbOk Try.prog tb0))))))
  refine SpecOK.of_goes [] Try.func47 rfl ?_
  have hlen : p.length = 122 := hA.1
  have hok := fun h => hay_facts (p := p) (g := g) (s := s) (d := d) (l := l) hlen h
  clear hA hM
  have hp := fun h : hayC p g s d l = 0 => (hok h).2.2
  have hg := fun h : hayC p g s d l = 0 => by
    obtain ⟨-, -, a1, a2, a3, a4, a5, a6, a7, a8, a9⟩ := hok h
    have e1 : (haysL p g (yardR p s) l (d + 1).toNat).length = d.toNat + 1 := by rw [haysL_len]; omega
    have e2 : ∀ i, i < d.toNat + 1 → (haysL p g (yardR p s) l (d + 1).toNat).getD i [] = [hayAt p g (yardR p s) l i] := fun i hi => haysL_get _ _ _ _ _ _ (by omega)
    have e3 := maxK_best (hayAt p g (yardR p s) l) _ e2 d.toNat (by omega)
    have e4 := findI_best (hayAt p g (yardR p s) l) _ e1 e2
    exact (show (haysL p g (yardR p s) l (d + 1).toNat).length = d.toNat + 1 ∧ maxK (haysL p g (yardR p s) l (d + 1).toNat) ((haysL p g (yardR p s) l (d + 1).toNat).length - 1) = (bestK (hayAt p g (yardR p s) l) d.toNat).2 ∧ findI (isI (maxK (haysL p g (yardR p s) l (d + 1).toNat) ((haysL p g (yardR p s) l (d + 1).toNat).length - 1))) (haysL p g (yardR p s) l (d + 1).toNat) = ((bestK (hayAt p g (yardR p s) l) d.toNat).1 : Nat) by
      rw [e1, Nat.add_sub_cancel, e3]
      exact ⟨rfl, rfl, e4⟩)
  refine Goes.tree Γ_ok htb 1000 false false Try.func47 rfl ?_
  ((try simp only [decide_eq_true_eq, decide_eq_false_iff_not, Bool.not_eq_true', Bool.not_eq_false', Bool.not_true, Bool.not_false, Bool.and_eq_true, Bool.or_eq_true, bne_iff_ne, beq_iff_eq, ne_eq]); (try simp only [rng, lo, hi, mnI, mxI, Int.toNat_natCast, Sg.n, Nat.mul_one, Nat.zero_add, Nat.add_zero, Nat.reduceAdd, List.getD_cons_zero, List.getD_cons_succ]))
  ((repeat' (first | (with_reducible apply And.intro) | intro _)); all_goals (first | exact trivial | (with_reducible assumption) | (show (_ : List Blk) = _; rfl) | (first | exact trivial | (with_reducible assumption) | omega | (split <;> omega) | (split <;> split <;> omega)) | skip); all_goals (try (refine ⟨rfl, (by first | exact Nat.le_refl _ | exact Nat.le_of_ble_eq_true rfl), rfl, rfl, ?_, (by repeat' (first | exact trivial | rfl | apply And.intro)), rfl, rfl⟩)))
  all_goals (try first | exact (hok (by assumption)).1 | exact (hok (by assumption)).2.1 | exact hp (by assumption) | (have := (hg (by assumption)).1; omega))
  · rename_i h
    refine sameA_i3 ?_ ?_ rfl
    · rw [bmD, if_neg h]
    · rw [bmV, if_neg h]
  · rename_i h
    refine sameA_i3 ?_ ?_ h
    · rw [bmD, if_pos h, (hg h).2.2]
    · rw [bmV, if_pos h, (hg h).2.1]

set_option maxRecDepth 100000 in
theorem s_specBestMowing : Sound Try.prog 48 bmS := by
  intro args M r M' vs h hvs
  unfold bmS at h
  split at h
  case h_2 => cases h
  rename_i p g s d l
  cases h
  refine SpecOK.assume fun hA hM => ?_
  have htb := (TbOk.cons s_l04Mowed Try.func103 rfl rfl (TbOk.cons s_l01Yard Try.func96 rfl rfl (TbOk.cons s_l04Mow Try.func95 rfl rfl (TbOk.cons s_l04GrowN Try.func104 rfl rfl (TbOk.nil : TbOk Try.prog tb0)))))
  refine SpecOK.of_goes [] Try.func48 rfl ?_
  have hlen : p.length = 122 := hA.1
  have hok := fun h => hay_facts (p := p) (g := g) (s := s) (d := d) (l := l) hlen h
  clear hA hM
  have hp := fun h : hayC p g s d l = 0 => (hok h).2.2
  have hm := fun (h : hayC p g s d l = 0) (i : Nat) => by
    obtain ⟨-, -, a1, a2, a3, a4, a5, a6, a7, a8, a9⟩ := hok h
    exact (show mowOk (growN g p i) (yardR p s) l ∧ growOk (growN g p i) g [] from ⟨⟨(growN_ok a3 a1 a2 _).1, fun r hr => (a4 r hr).1, a8, a9, by omega⟩, (growN_ok a3 a1 a2 _).1, (growN_ok a3 a1 a2 _).2, a3, cellsR_nil, by simp⟩)
  refine Goes.tree Γ_ok htb 1000 false false Try.func48 rfl ?_
  ((try simp only [decide_eq_true_eq, decide_eq_false_iff_not, Bool.not_eq_true', Bool.not_eq_false', Bool.not_true, Bool.not_false, Bool.and_eq_true, Bool.or_eq_true, bne_iff_ne, beq_iff_eq, ne_eq]); (try simp only [rng, lo, hi, mnI, mxI, Int.toNat_natCast, Sg.n, Nat.mul_one, Nat.zero_add, Nat.add_zero, Nat.reduceAdd, List.getD_cons_zero, List.getD_cons_succ]))
  ((repeat' (first | (with_reducible apply And.intro) | intro _)); all_goals (first | exact trivial | (with_reducible assumption) | (show (_ : List Blk) = _; rfl) | (first | exact trivial | (with_reducible assumption) | omega | (split <;> omega) | (split <;> split <;> omega)) | skip); all_goals (try (refine ⟨rfl, (by first | exact Nat.le_refl _ | exact Nat.le_of_ble_eq_true rfl), rfl, rfl, ?_, (by repeat' (first | exact trivial | rfl | apply And.intro)), rfl, rfl⟩)))
  all_goals (try first | exact (hok (by assumption)).1 | exact (hok (by assumption)).2.1 | exact (hm (by assumption) 0).1)
  · rename_i h
    refine sameA_i3 ?_ ?_ rfl
    · rw [bmD, if_neg h]
    · rw [bmV, if_neg h]
  rename_i h
  refine ⟨?_⟩
  have hd : 0 ≤ d ∧ d ≤ 365 := by
    have := hp h
    unfold hayOk at this
    omega
  refine Goes.loopR (fun i : Nat => d.toNat - i) (fun i => i ≤ d.toNat) (fun i => (.any :: .any :: .any :: .i .i64 d :: .i .i64 l :: .pw 0 .pas :: .pw 1 .gro :: .any :: .any :: .any :: .any :: .any :: .any :: .any :: .fs .spot (yardR p s) :: .i .i64 ((bestK (hayAt p g (yardR p s) l) i).1 : Nat) :: .any :: .i .i64 (bestK (hayAt p g (yardR p s) l) i).2 :: .pw 2 .pas :: .i .i64 ((i:Int) + 1) :: .any :: .any :: .any :: .any :: .any :: .any :: .any :: .any :: .any :: .any :: .any :: .any :: .any :: .any :: .any :: .any :: .any :: .any :: .any :: .any :: .any :: .any :: .any :: .any :: .any :: .any :: .any :: .any :: .any :: .any :: .any :: .any :: .any :: .any :: .any :: .any :: .any :: .any :: .any :: .any :: []))
    (fun i => [.c .pas p, .c .gro g, .c .pas (growN g p i)]) 0 [0, 1, 4] (Nat.zero_le _) ⟨rfl, rfl, rfl, (by repeat' (first | exact trivial | rfl | apply And.intro)), (by repeat' (first | exact trivial | rfl | apply And.intro)), rfl, rfl, rfl⟩ fun i hle ih => ?_
  obtain ⟨m1, m2⟩ := hm h i
  have m3 := (hm h (i + 1)).1
  have e1 : bestK (hayAt p g (yardR p s) l) (i + 1) = if (bestK (hayAt p g (yardR p s) l) i).2 < hayAt p g (yardR p s) l (i + 1) then (i + 1, hayAt p g (yardR p s) l (i + 1)) else bestK (hayAt p g (yardR p s) l) i := rfl
  have hyes : (bestK (hayAt p g (yardR p s) l) i).2 < hayAt p g (yardR p s) l (i + 1) → bestK (hayAt p g (yardR p s) l) (i + 1) = (i + 1, hayAt p g (yardR p s) l (i + 1)) := fun h => by rw [e1, if_pos h]
  have hno : ¬ (bestK (hayAt p g (yardR p s) l) i).2 < hayAt p g (yardR p s) l (i + 1) → bestK (hayAt p g (yardR p s) l) (i + 1) = bestK (hayAt p g (yardR p s) l) i := fun h => by rw [e1, if_neg h]
  by_cases hlt : (i : Int) + 1 ≤ d
  · refine Goes.tree Γ_ok htb 1000 false false Try.func48 rfl ?_
    ((try simp only [decide_eq_true_eq, decide_eq_false_iff_not, Bool.not_eq_true', Bool.not_eq_false', Bool.not_true, Bool.not_false, Bool.and_eq_true, Bool.or_eq_true, bne_iff_ne, beq_iff_eq, ne_eq]); (try simp only [rng, lo, hi, mnI, mxI, Int.toNat_natCast, Sg.n, Nat.mul_one, Nat.zero_add, Nat.add_zero, Nat.reduceAdd, List.getD_cons_zero, List.getD_cons_succ]))
    ((repeat' (first | (with_reducible apply And.intro) | intro _)); all_goals (first | exact trivial | (with_reducible assumption) | (show (_ : List Blk) = _; rfl) | (first | exact trivial | (with_reducible assumption) | omega | (split <;> omega) | (split <;> split <;> omega)) | skip); all_goals (try (refine ⟨rfl, (by first | exact Nat.le_refl _ | exact Nat.le_of_ble_eq_true rfl), rfl, rfl, ?_, (by repeat' (first | exact trivial | rfl | apply And.intro)), rfl, rfl⟩)))
    all_goals (try first | exact m1 | exact m2 | exact m3)
    · refine ⟨ih (i + 1) (by omega) (by omega) [0, 1, 2] _ _ ?_⟩
      rw [hyes (by assumption)]
      exact ⟨rfl, rfl, rfl, (by repeat' (first | exact trivial | rfl | apply And.intro)), (by repeat' (first | exact trivial | rfl | apply And.intro)), rfl, rfl, rfl⟩
    · refine ⟨ih (i + 1) (by omega) (by omega) [0, 1, 2] _ _ ?_⟩
      rw [hno (by assumption)]
      exact ⟨rfl, rfl, rfl, (by repeat' (first | exact trivial | rfl | apply And.intro)), (by repeat' (first | exact trivial | rfl | apply And.intro)), rfl, rfl, rfl⟩
  · obtain rfl : i = d.toNat := by omega
    clear ih
    refine Goes.tree Γ_ok htb 1000 false false Try.func48 rfl ?_
    ((try simp only [decide_eq_true_eq, decide_eq_false_iff_not, Bool.not_eq_true', Bool.not_eq_false', Bool.not_true, Bool.not_false, Bool.and_eq_true, Bool.or_eq_true, bne_iff_ne, beq_iff_eq, ne_eq]); (try simp only [rng, lo, hi, mnI, mxI, Int.toNat_natCast, Sg.n, Nat.mul_one, Nat.zero_add, Nat.add_zero, Nat.reduceAdd, List.getD_cons_zero, List.getD_cons_succ]))
    ((repeat' (first | (with_reducible apply And.intro) | intro _)); all_goals (first | exact trivial | (with_reducible assumption) | (show (_ : List Blk) = _; rfl) | (first | exact trivial | (with_reducible assumption) | omega | (split <;> omega) | (split <;> split <;> omega)) | skip); all_goals (try (refine ⟨rfl, (by first | exact Nat.le_refl _ | exact Nat.le_of_ble_eq_true rfl), rfl, rfl, ?_, (by repeat' (first | exact trivial | rfl | apply And.intro)), rfl, rfl⟩)))
    all_goals (first | contradiction | skip)
    refine sameA_i3 ?_ ?_ h
    · rw [bmD, if_pos h]
    · rw [bmV, if_pos h]

end Go.Proofs.Ytgogccconmlkiaa
