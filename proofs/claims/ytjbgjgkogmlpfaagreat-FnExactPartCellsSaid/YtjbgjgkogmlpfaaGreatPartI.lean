/- impl.partCode: both lists' cells, and those that they share. -/
import Derived.Test.YtjbgjgkogmlpfaaGreatPartW
namespace Go.Proofs.YtjbgjgkogmlpfaaGreat
open Go Go.Eng
set_option linter.unusedSimpArgs false
set_option linter.unusedVariables false
set_option maxRecDepth 100000
set_option maxHeartbeats 4000000

def growSES : Fun
  | [.nsl, .i .i64 n], [] => some (.fs .spot [], [], [n = 0])
  | _, _ => .none
theorem s_growSE : Sound Tryz.prog 55 growSES := by
  intro args M r M' vs h hvs
  unfold growSES at h
  split at h
  case h_2 => cases h
  rename_i n
  cases h
  obtain ⟨rfl, -⟩ := hvs
  intro ρ vals w hD hM hid
  match vals, hD with
  | [v, u], ⟨hv, hu, _⟩ =>
  obtain rfl : v = .slice none 0 0 := hv
  obtain ⟨rfl, -⟩ := hu
  refine (Go.Proofs.Any8.slices_Grow_room Tryz.growS none 0 0 0 w (Nat.le_refl _) (by omega) (by omega) (by omega)).mono ?_
  rintro e w' ⟨rfl, rfl⟩
  exact ⟨_, ρ, rfl, fs_emptyP.2 ⟨_, _, rfl⟩, After.refl hM, fun i hi => (by simp [AV.ids] at hi)⟩
def concES : Fun
  | [.ow 0 2 .ref 37], [.rf .spot [A, G]] => some (.fs .spot [], [.rf .spot [A, G]], [A.length = 0 ∧ G.length = 0])
  | _, _ => .none
set_option maxRecDepth 100000 in
theorem s_concE : Sound Tryz.prog 35 concES := by
  intro args M r M' vs h hvs
  unfold concES at h
  split at h
  case h_2 => cases h
  rename_i A G
  cases h
  refine SpecOK.assume fun hA hM => ?_
  have htb := (TbOk.cons s_growSE Tryz.func55 rfl rfl (TbOk.nil : TbOk Tryz.prog tb0))
  refine SpecOK.of_goes [0] Tryz.func35 rfl ?_
  obtain ⟨⟨h1, h2⟩, -⟩ := hvs
  clear hA hM
  have g0 : [A, G].getD (Int.toNat 0) [] = A := rfl
  have g1 : [A, G].getD (Int.toNat (0 + 1)) [] = G := rfl
  refine Goes.tree Γ_ok htb 1000 false false Tryz.func35 rfl ?_
  ((try simp only [decide_eq_true_eq, decide_eq_false_iff_not, Bool.not_eq_true', Bool.not_eq_false', Bool.not_true, Bool.not_false, Bool.and_eq_true, Bool.or_eq_true, bne_iff_ne, beq_iff_eq, ne_eq]); (try simp only [rng, lo, hi, mnI, mxI, Int.toNat_natCast, Sg.n, Nat.mul_one, Nat.zero_add, Nat.add_zero, Nat.reduceAdd, List.getD_cons_zero, List.getD_cons_succ]))
  ((repeat' (first | (with_reducible apply And.intro) | intro _)); all_goals (first | exact trivial | (with_reducible assumption) | (show (_ : List Blk) = _; rfl) | (first | exact trivial | (with_reducible assumption) | omega | (split <;> omega) | (split <;> split <;> omega)) | skip); all_goals (try (refine ⟨rfl, (by first | exact Nat.le_refl _ | exact Nat.le_of_ble_eq_true rfl), rfl, rfl, ?_, (by repeat' (first | exact trivial | rfl | apply And.intro)), rfl, rfl⟩)))
  refine ⟨?_⟩
  refine Goes.tree Γ_ok htb 1000 false false Tryz.func35 rfl ?_
  ((try simp only [decide_eq_true_eq, decide_eq_false_iff_not, Bool.not_eq_true', Bool.not_eq_false', Bool.not_true, Bool.not_false, Bool.and_eq_true, Bool.or_eq_true, bne_iff_ne, beq_iff_eq, ne_eq]); (try simp only [rng, lo, hi, mnI, mxI, Int.toNat_natCast, Sg.n, Nat.mul_one, Nat.zero_add, Nat.add_zero, Nat.reduceAdd, List.getD_cons_zero, List.getD_cons_succ, g0, g1]))
  (repeat' (first | (with_reducible apply And.intro) | intro _))
  all_goals (try first | exact trivial | exact h1 | exact h2 | (first | exact trivial | (with_reducible assumption) | omega | (split <;> omega) | (split <;> split <;> omega)) | (exfalso; omega))
  refine ⟨?_⟩
  refine Goes.tree Γ_ok htb 1000 false false Tryz.func35 rfl ?_
  ((try simp only [decide_eq_true_eq, decide_eq_false_iff_not, Bool.not_eq_true', Bool.not_eq_false', Bool.not_true, Bool.not_false, Bool.and_eq_true, Bool.or_eq_true, bne_iff_ne, beq_iff_eq, ne_eq]); (try simp only [rng, lo, hi, mnI, mxI, Int.toNat_natCast, Sg.n, Nat.mul_one, Nat.zero_add, Nat.add_zero, Nat.reduceAdd, List.getD_cons_zero, List.getD_cons_succ, g0, g1]))
  (repeat' (first | (with_reducible apply And.intro) | intro _))
  all_goals (try first | exact trivial | exact h1 | exact h2 | (first | exact trivial | (with_reducible assumption) | omega | (split <;> omega) | (split <;> split <;> omega)) | (exfalso; omega))
  refine ⟨?_⟩
  refine Goes.tree Γ_ok htb 1000 false false Tryz.func35 rfl ?_
  ((try simp only [decide_eq_true_eq, decide_eq_false_iff_not, Bool.not_eq_true', Bool.not_eq_false', Bool.not_true, Bool.not_false, Bool.and_eq_true, Bool.or_eq_true, bne_iff_ne, beq_iff_eq, ne_eq]); (try simp only [rng, lo, hi, mnI, mxI, Int.toNat_natCast, Sg.n, Nat.mul_one, Nat.zero_add, Nat.add_zero, Nat.reduceAdd, List.getD_cons_zero, List.getD_cons_succ, g0, g1]))
  (repeat' (first | (with_reducible apply And.intro) | intro _))
  all_goals (try first | exact trivial | exact h1 | exact h2 | (first | exact trivial | (with_reducible assumption) | omega | (split <;> omega) | (split <;> split <;> omega)) | (exfalso; omega))
  refine ⟨?_⟩
  refine Goes.tree Γ_ok htb 1000 false false Tryz.func35 rfl ?_
  ((try simp only [decide_eq_true_eq, decide_eq_false_iff_not, Bool.not_eq_true', Bool.not_eq_false', Bool.not_true, Bool.not_false, Bool.and_eq_true, Bool.or_eq_true, bne_iff_ne, beq_iff_eq, ne_eq]); (try simp only [rng, lo, hi, mnI, mxI, Int.toNat_natCast, Sg.n, Nat.mul_one, Nat.zero_add, Nat.add_zero, Nat.reduceAdd, List.getD_cons_zero, List.getD_cons_succ, g0, g1]))
  (repeat' (first | (with_reducible apply And.intro) | intro _))
  all_goals (try first | exact trivial | exact h1 | exact h2 | (first | exact trivial | (with_reducible assumption) | omega | (split <;> omega) | (split <;> split <;> omega)) | (exfalso; omega))
  refine ⟨?_⟩
  refine Goes.tree Γ_ok htb 1000 false false Tryz.func35 rfl ?_
  ((try simp only [decide_eq_true_eq, decide_eq_false_iff_not, Bool.not_eq_true', Bool.not_eq_false', Bool.not_true, Bool.not_false, Bool.and_eq_true, Bool.or_eq_true, bne_iff_ne, beq_iff_eq, ne_eq]); (try simp only [rng, lo, hi, mnI, mxI, Int.toNat_natCast, Sg.n, Nat.mul_one, Nat.zero_add, Nat.add_zero, Nat.reduceAdd, List.getD_cons_zero, List.getD_cons_succ, g0, g1]))
  (repeat' (first | (with_reducible apply And.intro) | intro _))
  all_goals (try first | exact trivial | exact h1 | exact h2 | (first | exact trivial | (with_reducible assumption) | omega | (split <;> omega) | (split <;> split <;> omega)) | (exfalso; omega))
  refine ⟨?_⟩
  refine Goes.tree Γ_ok htb 1000 false false Tryz.func35 rfl ?_
  ((try simp only [decide_eq_true_eq, decide_eq_false_iff_not, Bool.not_eq_true', Bool.not_eq_false', Bool.not_true, Bool.not_false, Bool.and_eq_true, Bool.or_eq_true, bne_iff_ne, beq_iff_eq, ne_eq]); (try simp only [rng, lo, hi, mnI, mxI, Int.toNat_natCast, Sg.n, Nat.mul_one, Nat.zero_add, Nat.add_zero, Nat.reduceAdd, List.getD_cons_zero, List.getD_cons_succ, g0, g1]))
  (repeat' (first | (with_reducible apply And.intro) | intro _))
  all_goals (try first | exact trivial | exact h1 | exact h2 | (first | exact trivial | (with_reducible assumption) | omega | (split <;> omega) | (split <;> split <;> omega)) | (exfalso; omega))
  (refine ⟨rfl, (by first | exact Nat.le_refl _ | exact Nat.le_of_ble_eq_true rfl), rfl, rfl, ?_, (by repeat' (first | exact trivial | rfl | apply And.intro)), rfl, rfl⟩)
  exact sameA_refl _

theorem codeP_app {p : List Int} {A G : List (List Int)} : codeP p (A ++ G) = if codeP p A ≠ 0 then codeP p A else codeP p G := by
  unfold codeP
  rw [List.any_append]
  by_cases h : okP p
  · rw [if_pos h, if_pos h, if_pos h]
    cases hA : A.any (notP p) <;> cases hG : G.any (notP p) <;> rfl
  · rw [if_neg h, if_neg h, if_neg h]; rfl
theorem leftG_nil {A G : List (List Int)} : ((leftG G A).length : Int) = 0 ↔ ¬ partB A G = true := by
  constructor
  · intro h g
    obtain ⟨s, g1, g2⟩ := partB_iff.1 g
    have e : leftG G A = [] := List.eq_nil_of_length_eq_zero (by omega)
    have : s ∈ leftG G A := by
      unfold leftG delG
      refine List.mem_filter.2 ⟨g1, ?_⟩
      rw [Bool.not_not, hasR_iff]; exact decide_eq_true g2
    rw [e] at this; cases this
  · intro h
    cases e : leftG G A with
    | nil => rfl
    | cons s l =>
      have hs : s ∈ leftG G A := by rw [e]; exact List.mem_cons_self
      unfold leftG delG at hs
      obtain ⟨g1, g2⟩ := List.mem_filter.1 hs
      rw [Bool.not_not, hasR_iff, decide_eq_true_eq] at g2
      exact absurd (partB_iff.2 ⟨s, g1, g2⟩) h
theorem partC_fst {p : List Int} {A G : List (List Int)} : fstI [[codeP p (A ++ G)], [if ((leftG G A).length : Int) = 0 then 0 else 4]] = partC p A G := by
  have e : codeP p (A ++ G) = if codeP p A ≠ 0 then codeP p A else codeP p G := codeP_app
  simp only [fstI, List.getD_cons_zero]
  by_cases h : codeP p (A ++ G) = 0
  · rw [if_pos h]
    rw [e] at h
    rw [partC_good h]
    by_cases g : partB A G = true
    · rw [if_neg (fun q => leftG_nil.1 q g), if_pos g]; rfl
    · rw [if_pos (leftG_nil.2 g), if_neg g]; rfl
  · rw [if_neg h]
    rw [e] at h ⊢
    exact (partC_bad h).symm
def partCS : Fun
  | [.ag .pas p, .fs .spot A, .fs .spot G], [] => some (.i .i64 (partC p A G), [], [A.length ≤ 10000000 ∧ G.length ≤ 10000000])
  | _, _ => .none
theorem s_firstOfK : Sound Tryz.prog 33 (kill fstS) := kill_sound s_firstOf
theorem s_partCode : Sound Tryz.prog 20 partCS := by
  intro args M r M' vs h hvs
  unfold partCS at h
  split at h
  case h_2 => cases h
  rename_i p A G
  cases h
  obtain ⟨⟨hl1, hl2⟩, -⟩ := hvs
  refine SpecOK.assume fun hA hM => ?_
  clear hA hM
  by_cases h0 : 0 < A.length + G.length
  · have htb := (TbOk.cons s_conc Tryz.func35 rfl rfl (TbOk.cons s_cellCode Tryz.func34 rfl rfl (TbOk.cons s_common Tryz.func37 rfl rfl (TbOk.cons s_unless Tryz.func36 rfl rfl (TbOk.cons s_firstOfK Tryz.func33 rfl rfl (TbOk.nil : TbOk Tryz.prog tb0))))))
    have hf := partC_fst (p := p) (A := A) (G := G)
    generalize partC p A G = v at *
    refine SpecOK.of_goes [] Tryz.func20 rfl ?_
    refine Goes.tree Γ_ok htb 1000 true false Tryz.func20 rfl ?_
    ((try simp only [decide_eq_true_eq, decide_eq_false_iff_not, Bool.not_eq_true', Bool.not_eq_false', Bool.not_true, Bool.not_false, Bool.and_eq_true, Bool.or_eq_true, bne_iff_ne, beq_iff_eq, ne_eq]); (try simp only [rng, lo, hi, mnI, mxI, Int.toNat_natCast, Sg.n, Nat.mul_one, Nat.zero_add, Nat.add_zero, Nat.reduceAdd, List.getD_cons_zero, List.getD_cons_succ, one_row, two_rows, hf, decide_eq_true_eq]))
    ((repeat' (first | (with_reducible apply And.intro) | intro _)); all_goals (first | exact trivial | (with_reducible assumption) | (show (_ : List Blk) = _; rfl) | (first | exact trivial | (with_reducible assumption) | omega | (split <;> omega) | (split <;> split <;> omega)) | skip); all_goals (try (refine ⟨rfl, (by first | exact Nat.le_refl _ | exact Nat.le_of_ble_eq_true rfl), rfl, rfl, ?_, (by repeat' (first | exact trivial | rfl | apply And.intro)), rfl, rfl⟩)))
    all_goals (first | contradiction | omega | exact sameA_refl _ | trace_state)
  · have eA : A = [] := List.eq_nil_of_length_eq_zero (by omega)
    have eG : G = [] := List.eq_nil_of_length_eq_zero (by omega)
    have htb := (TbOk.cons s_concE Tryz.func35 rfl rfl (TbOk.cons s_cellCode Tryz.func34 rfl rfl (TbOk.cons s_common Tryz.func37 rfl rfl (TbOk.cons s_unless Tryz.func36 rfl rfl (TbOk.cons s_firstOfK Tryz.func33 rfl rfl (TbOk.nil : TbOk Tryz.prog tb0))))))
    have hf := partC_fst (p := p) (A := A) (G := G)
    have he : A ++ G = [] := by rw [eA, eG]; rfl
    rw [he] at hf
    generalize partC p A G = v at *
    refine SpecOK.of_goes [] Tryz.func20 rfl ?_
    refine Goes.tree Γ_ok htb 1000 true false Tryz.func20 rfl ?_
    ((try simp only [decide_eq_true_eq, decide_eq_false_iff_not, Bool.not_eq_true', Bool.not_eq_false', Bool.not_true, Bool.not_false, Bool.and_eq_true, Bool.or_eq_true, bne_iff_ne, beq_iff_eq, ne_eq]); (try simp only [rng, lo, hi, mnI, mxI, Int.toNat_natCast, Sg.n, Nat.mul_one, Nat.zero_add, Nat.add_zero, Nat.reduceAdd, List.getD_cons_zero, List.getD_cons_succ, one_row, two_rows, hf, decide_eq_true_eq]))
    ((repeat' (first | (with_reducible apply And.intro) | intro _)); all_goals (first | exact trivial | (with_reducible assumption) | (show (_ : List Blk) = _; rfl) | (first | exact trivial | (with_reducible assumption) | omega | (split <;> omega) | (split <;> split <;> omega)) | skip); all_goals (try (refine ⟨rfl, (by first | exact Nat.le_refl _ | exact Nat.le_of_ble_eq_true rfl), rfl, rfl, ?_, (by repeat' (first | exact trivial | rfl | apply And.intro)), rfl, rfl⟩)))
    all_goals (first | contradiction | omega | exact sameA_refl _ | trace_state)
end Go.Proofs.YtjbgjgkogmlpfaaGreat
