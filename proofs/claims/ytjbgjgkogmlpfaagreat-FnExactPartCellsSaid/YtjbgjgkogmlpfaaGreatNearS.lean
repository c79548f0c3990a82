/- spec.NearSide: its code and its list. -/
import Derived.Test.YtjbgjgkogmlpfaaGreatNearT
import Derived.Test.YtjbgjgkogmlpfaaGreatAll
namespace Go.Proofs.YtjbgjgkogmlpfaaGreat
open Go Go.Eng
set_option linter.unusedSimpArgs false
set_option linter.unusedVariables false
open Go.Proofs.YtjbgjgkogmlpfaaGreat.Fl (cl isC ix)
set_option maxRecDepth 100000
set_option maxHeartbeats 4000000

set_option maxRecDepth 100000 in
theorem s_l03Lists : Sound Tryz.prog 25 listsS := by
  intro args M r M' vs h hvs
  unfold listsS at h
  split at h
  case h_2 => cases h
  rename_i A G p
  cases h
  refine SpecOK.assume fun hA hM => ?_
  have htb := (TbOk.cons s_l01All Tryz.func46 rfl rfl (TbOk.nil : TbOk Tryz.prog tb0))
  refine SpecOK.of_goes [0] Tryz.func25 rfl ?_
  obtain ⟨⟨hl1, hl2⟩, -⟩ := hvs
  clear hA hM
  refine Goes.tree Γ_ok htb 1000 false false Tryz.func25 rfl ?_
  ((try simp only [decide_eq_true_eq, decide_eq_false_iff_not, Bool.not_eq_true', Bool.not_eq_false', Bool.not_true, Bool.not_false, Bool.and_eq_true, Bool.or_eq_true, bne_iff_ne, beq_iff_eq, ne_eq]); (try simp only [rng, lo, hi, mnI, mxI, Int.toNat_natCast, Sg.n, Nat.mul_one, Nat.zero_add, Nat.add_zero, Nat.reduceAdd, List.getD_cons_zero, List.getD_cons_succ]))
  ((repeat' (first | (with_reducible apply And.intro) | intro _)); all_goals (first | exact trivial | (with_reducible assumption) | (show (_ : List Blk) = _; rfl) | (first | exact trivial | (with_reducible assumption) | omega | (split <;> omega) | (split <;> split <;> omega)) | skip); all_goals (try (refine ⟨rfl, (by first | exact Nat.le_refl _ | exact Nat.le_of_ble_eq_true rfl), rfl, rfl, ?_, (by repeat' (first | exact trivial | rfl | apply And.intro)), rfl, rfl⟩)))
  all_goals (try omega)
  · rename_i h; rw [if_pos h]; exact sameA_refl _
  · rename_i h; rw [if_neg (fun g => g h)]; exact sameA_refl _
theorem no_1z {p : Prop} (h : ((1 : Int) != 0) = false) : p := absurd (nz_eq0 h) (by decide)
theorem cc_zero {p : List Int} {A G : List (List Int)} (h : (if ¬ codeP p A = 0 then codeP p A else codeP p G) = 0) : codeP p A = 0 ∧ codeP p G = 0 := by
  by_cases g : codeP p A = 0
  · rw [if_neg (fun q => q g)] at h; exact ⟨g, h⟩
  · rw [if_pos g] at h; exact absurd h g
theorem partC_bad {p : List Int} {A G : List (List Int)} (h : ¬ (if ¬ codeP p A = 0 then codeP p A else codeP p G) = 0) : partC p A G = (if ¬ codeP p A = 0 then codeP p A else codeP p G) := by
  unfold partC
  by_cases g : codeP p A = 0
  · have e : (if ¬ codeP p A = 0 then codeP p A else codeP p G) = codeP p G := if_neg (fun q => q g)
    rw [e] at h ⊢
    rw [if_neg (fun q => q g), if_pos h]
  · rw [if_pos g, if_pos g]
theorem partC_good {p : List Int} {A G : List (List Int)} (h : (if ¬ codeP p A = 0 then codeP p A else codeP p G) = 0) : partC p A G = if partB A G = true then 4 else 0 := by
  obtain ⟨h1, h2⟩ := cc_zero h
  unfold partC
  rw [if_neg (fun q => q h1), if_neg (fun q => q h2)]
theorem partC_zero {p : List Int} {A G : List (List Int)} : partC p A G = 0 ↔ codeP p A = 0 ∧ codeP p G = 0 ∧ ∀ s, s ∈ A → s ∉ G := by
  unfold partC
  by_cases g : codeP p A = 0
  · rw [if_neg (fun q => q g)]
    by_cases g2 : codeP p G = 0
    · rw [if_neg (fun q => q g2)]
      by_cases g3 : partB A G = true
      · rw [if_pos g3]
        obtain ⟨s, h1, h2⟩ := partB_iff.1 g3
        exact ⟨fun q => (by omega), fun q => absurd h2 (q.2.2 s h1)⟩
      · rw [if_neg g3]
        exact ⟨fun _ => ⟨g, g2, fun s h1 h2 => g3 (partB_iff.2 ⟨s, h1, h2⟩)⟩, fun _ => rfl⟩
    · rw [if_pos g2]
      exact ⟨fun q => absurd q g2, fun q => absurd q.2.1 g2⟩
  · rw [if_pos g]
    exact ⟨fun q => absurd q g, fun q => absurd q.1 g⟩
def partedS : Fun
  | [.pw 0 .pas, .fs .spot A, .fs .spot G], [.c .pas p] => some (.i .i64 (partC p A G), [.c .pas p], [A.length ≤ 10000000 ∧ G.length ≤ 10000000])
  | _, _ => .none
set_option maxRecDepth 100000 in
theorem s_l03Parted : Sound Tryz.prog 14 partedS := by
  intro args M r M' vs h hvs
  unfold partedS at h
  split at h
  case h_2 => cases h
  rename_i A G p
  cases h
  refine SpecOK.assume fun hA hM => ?_
  have htb := (TbOk.cons s_l03Lists Tryz.func25 rfl rfl (TbOk.cons s_l01Mask Tryz.func26 rfl rfl (TbOk.nil : TbOk Tryz.prog tb0)))
  refine SpecOK.of_goes [0] Tryz.func14 rfl ?_
  obtain ⟨⟨hl1, hl2⟩, -⟩ := hvs
  have hA2 : ∀ s, s ∈ A → s.length = 2 := fun s hs => (hA.2.2.1 s hs).1
  have hG2 : ∀ s, s ∈ G → s.length = 2 := fun s hs => (hA.2.2.2.2.1 s hs).1
  clear hA hM
  refine Goes.tree Γ_ok htb 1000 false false Tryz.func14 rfl ?_
  ((try simp only [decide_eq_true_eq, decide_eq_false_iff_not, Bool.not_eq_true', Bool.not_eq_false', Bool.not_true, Bool.not_false, Bool.and_eq_true, Bool.or_eq_true, bne_iff_ne, beq_iff_eq, ne_eq]); (try simp only [rng, lo, hi, mnI, mxI, Int.toNat_natCast, Sg.n, Nat.mul_one, Nat.zero_add, Nat.add_zero, Nat.reduceAdd, List.getD_cons_zero, List.getD_cons_succ]))
  ((repeat' (first | (with_reducible apply And.intro) | intro _)); all_goals (first | exact trivial | (with_reducible assumption) | (show (_ : List Blk) = _; rfl) | (first | exact trivial | (with_reducible assumption) | omega | (split <;> omega) | (split <;> split <;> omega)) | skip); all_goals (try (refine ⟨rfl, (by first | exact Nat.le_refl _ | exact Nat.le_of_ble_eq_true rfl), rfl, rfl, ?_, (by repeat' (first | exact trivial | rfl | apply And.intro)), rfl, rfl⟩)))
  · rename_i h
    rw [partC_bad h]; exact sameA_refl _
  · rename_i h _ hs
    obtain ⟨h1, h2⟩ := cc_zero h
    exact inG_of (codeP_all h1).1 ((codeP_all h1).2 _ hs)
  rename_i h
  rw [partC_good h]
  obtain ⟨h1, h2⟩ := cc_zero h
  have hAG : ∀ s, s ∈ A → inG s := fun s hs => inG_of (codeP_all h1).1 ((codeP_all h1).2 s hs)
  have hGG : ∀ s, s ∈ G → inG s := fun s hs => inG_of (codeP_all h2).1 ((codeP_all h2).2 s hs)
  have hr : cellsR A := fun s hs => ⟨hAG s hs, hA2 s hs⟩
  have hmk := fun s (hs : s ∈ G) => mask_has hr (hGG s hs) (hG2 s hs)
  have hm01 := mask_get hAG A.length (Nat.le_refl _)
  generalize srcD A A.length = a at *
  refine ⟨?_⟩
  refine Goes.loopR (fun i : Nat => G.length - i) (fun i => i ≤ G.length ∧ ∀ j, j < i → hasR A (G.getD j []) = false) (fun i => (.pw 0 .pas :: .fs .spot A :: .fs .spot G :: .any :: .any :: .any :: .any :: .any :: .pw 1 .bgrid :: .i .i64 (i:Int) :: .any :: .any :: .any :: .any :: .any :: .any :: .any :: .any :: .any :: .any :: .any :: .any :: .any :: .any :: .any :: .any :: .any :: .any :: .any :: .any :: .any :: .any :: .any :: .any :: .any :: .any :: .any :: .any :: [])) (fun i => [.c .pas p, .c .bgrid a]) 0 [0, 1] ⟨Nat.zero_le _, fun j hj => by omega⟩ ⟨rfl, rfl, rfl, (by repeat' (first | exact trivial | rfl | apply And.intro)), (by repeat' (first | exact trivial | rfl | apply And.intro)), rfl, rfl, rfl⟩ fun i ⟨hle, hno⟩ ih => ?_
  by_cases hlt : i < G.length
  · have hgm := Fl.get_mem hlt
    obtain ⟨k1, k2⟩ := hmk _ hgm
    have hgi := hGG _ hgm
    have hih := ih (i + 1)
    have hno' : hasR A (G.getD i []) = false → ∀ j, j < i + 1 → hasR A (G.getD j []) = false := fun g j hj => by
      by_cases e : j = i
      · rw [e]; exact g
      · exact hno j (by omega)
    have hyes : hasR A (G.getD i []) = true → partB A G = true := fun g => by
      rw [hasR_iff, decide_eq_true_eq] at g
      exact partB_iff.2 ⟨_, g, hgm⟩
    clear ih hgm hmk
    generalize hbt : G.getD i [] = s at *
    unfold inG at hgi
    unfold cx at k1 k2
    have hc := (hm01 ((s.getD 1 0).toNat * 10 + (s.getD 0 0).toNat)).1
    refine Goes.tree Γ_ok htb 1000 false false Tryz.func14 rfl ?_
    ((try simp only [decide_eq_true_eq, decide_eq_false_iff_not, Bool.not_eq_true', Bool.not_eq_false', Bool.not_true, Bool.not_false, Bool.and_eq_true, Bool.or_eq_true, bne_iff_ne, beq_iff_eq, ne_eq]); (try simp only [rng, lo, hi, mnI, mxI, Int.toNat_natCast, Sg.n, Nat.mul_one, Nat.zero_add, Nat.add_zero, Nat.reduceAdd, List.getD_cons_zero, List.getD_cons_succ, hbt]))
    ((repeat' (first | (with_reducible apply And.intro) | intro _)); all_goals (first | exact trivial | (with_reducible assumption) | (show (_ : List Blk) = _; rfl) | (first | exact trivial | (with_reducible assumption) | omega | (split <;> omega) | (split <;> split <;> omega)) | skip); all_goals (try (refine ⟨rfl, (by first | exact Nat.le_refl _ | exact Nat.le_of_ble_eq_true rfl), rfl, rfl, ?_, (by repeat' (first | exact trivial | rfl | apply And.intro)), rfl, rfl⟩)))
    all_goals (try omega)
    · rename_i hz
      rw [if_pos (hyes (k1.1 (hc.resolve_left hz)))]; exact sameA_refl _
    · rename_i hz
      exact ⟨hih ⟨by omega, hno' (k2.1 (nz_eq0 hz))⟩ (by omega) [0, 1] _ _ ⟨rfl, rfl, rfl, (by repeat' (first | exact trivial | rfl | apply And.intro)), (by repeat' (first | exact trivial | rfl | apply And.intro)), rfl, rfl, rfl⟩⟩
  · obtain rfl : i = G.length := by omega
    clear ih
    have hpb : ¬ partB A G = true := fun g => by
      obtain ⟨s, g1, g2⟩ := partB_iff.1 g
      obtain ⟨j, hj, e⟩ := List.getElem_of_mem g2
      have := hno j hj
      rw [List.getD_eq_getElem?_getD, List.getElem?_eq_getElem hj] at this
      have e2 : hasR A s = false := by rw [← e]; exact this
      rw [hasR_iff, decide_eq_false_iff_not] at e2
      exact e2 g1
    rw [if_neg hpb]
    refine Goes.tree Γ_ok htb 1000 false false Tryz.func14 rfl ?_
    ((try simp only [decide_eq_true_eq, decide_eq_false_iff_not, Bool.not_eq_true', Bool.not_eq_false', Bool.not_true, Bool.not_false, Bool.and_eq_true, Bool.or_eq_true, bne_iff_ne, beq_iff_eq, ne_eq]); (try simp only [rng, lo, hi, mnI, mxI, Int.toNat_natCast, Sg.n, Nat.mul_one, Nat.zero_add, Nat.add_zero, Nat.reduceAdd, List.getD_cons_zero, List.getD_cons_succ]))
    ((repeat' (first | (with_reducible apply And.intro) | intro _)); all_goals (first | exact trivial | (with_reducible assumption) | (show (_ : List Blk) = _; rfl) | (first | exact trivial | (with_reducible assumption) | omega | (split <;> omega) | (split <;> split <;> omega)) | skip); all_goals (try (refine ⟨rfl, (by first | exact Nat.le_refl _ | exact Nat.le_of_ble_eq_true rfl), rfl, rfl, ?_, (by repeat' (first | exact trivial | rfl | apply And.intro)), rfl, rfl⟩)))
    all_goals (first | contradiction | exact sameA_refl _)
noncomputable def sNearS : Fun
  | [.ag .pas p, .fs .spot A, .fs .spot G], [] => some (.t2 (.fs .spot (if partC p A G = 0 then nearL p A G else [])) (.i .i64 (partC p A G)), [], [A.length ≤ 10000000 ∧ G.length ≤ 10000000])
  | _, _ => .none
end Go.Proofs.YtjbgjgkogmlpfaaGreat
