/- Cells in order, each once. -/
import Derived.Test.YtjbgjgkogmlpfaaGreatSort1
import Derived.Test.YtjbgjgkogmlpfaaGreatComp
namespace Go.Proofs.YtjbgjgkogmlpfaaGreat
open Go Go.Eng Go.RowKit Go.Sort
set_option maxRecDepth 100000
set_option maxHeartbeats 4000000

def ordL (rows : List (List Int)) : List (List Int) := compL (sortL cmpI rows)
theorem sortL_len (cf : List Int → List Int → Int) (rows : List (List Int)) : (sortL cf rows).length = rows.length := List.length_mergeSort _
def orderedS : Fun
  | [.fs .spot rows], [] => some (.ow 0 (ordL rows).length .spot 54, [.l .spot (ordL rows)], [0 < rows.length ∧ rows.length ≤ 1000000000])
  | _, _ => .none
theorem s_ordered : Sound Tryz.prog 61 orderedS := by
  intro args M r M' vs h hvs
  unfold orderedS at h
  split at h
  case h_2 => cases h
  rename_i rows
  cases h
  obtain ⟨⟨h0, hl⟩, -⟩ := hvs
  refine SpecOK.assume fun hA hM => ?_
  clear hA hM
  have hsl := sortL_len cmpI rows
  by_cases hd : dupN (sortL cmpI rows) (sortL cmpI rows).length
  · have htb := (TbOk.cons s_cloneSpot Tryz.func57 rfl rfl (TbOk.cons s_sortSpot Tryz.func76 rfl rfl (TbOk.cons s_compYes Tryz.func77 rfl rfl (TbOk.nil : TbOk Tryz.prog tb0))))
    refine SpecOK.of_goes [1] Tryz.func61 rfl ?_
    refine Goes.tree Γ_ok htb 1000 false false Tryz.func61 rfl ?_
    ((try simp only [decide_eq_true_eq, decide_eq_false_iff_not, Bool.not_eq_true', Bool.not_eq_false', Bool.not_true, Bool.not_false, Bool.and_eq_true, Bool.or_eq_true, bne_iff_ne, beq_iff_eq, ne_eq]); (try simp only [rng, lo, hi, mnI, mxI, Int.toNat_natCast, Sg.n, Nat.mul_one, Nat.zero_add, Nat.add_zero, Nat.reduceAdd, List.getD_cons_zero, List.getD_cons_succ]))
    ((repeat' (first | (with_reducible apply And.intro) | intro _)); all_goals (first | exact trivial | (with_reducible assumption) | (show (_ : List Blk) = _; rfl) | (first | exact trivial | (with_reducible assumption) | omega | (split <;> omega) | (split <;> split <;> omega)) | skip); all_goals (try (refine ⟨rfl, (by first | exact Nat.le_refl _ | exact Nat.le_of_ble_eq_true rfl), rfl, rfl, ?_, (by repeat' (first | exact trivial | rfl | apply And.intro)), rfl, rfl⟩)))
    all_goals (first | exact hd | exact absurd (by assumption) hd | omega | exact sameA_refl _ | trace_state)
  · have htb := (TbOk.cons s_cloneSpot Tryz.func57 rfl rfl (TbOk.cons s_sortSpot Tryz.func76 rfl rfl (TbOk.cons s_compNo Tryz.func77 rfl rfl (TbOk.nil : TbOk Tryz.prog tb0))))
    have e : ordL rows = sortL cmpI rows := by
      unfold ordL compL
      rw [cmpN_no _ (Nat.le_refl _) hd, List.take_length]
    rw [e, hsl]
    refine SpecOK.of_goes [0] Tryz.func61 rfl ?_
    refine Goes.tree Γ_ok htb 1000 false false Tryz.func61 rfl ?_
    ((try simp only [decide_eq_true_eq, decide_eq_false_iff_not, Bool.not_eq_true', Bool.not_eq_false', Bool.not_true, Bool.not_false, Bool.and_eq_true, Bool.or_eq_true, bne_iff_ne, beq_iff_eq, ne_eq]); (try simp only [rng, lo, hi, mnI, mxI, Int.toNat_natCast, Sg.n, Nat.mul_one, Nat.zero_add, Nat.add_zero, Nat.reduceAdd, List.getD_cons_zero, List.getD_cons_succ]))
    ((repeat' (first | (with_reducible apply And.intro) | intro _)); all_goals (first | exact trivial | (with_reducible assumption) | (show (_ : List Blk) = _; rfl) | (first | exact trivial | (with_reducible assumption) | omega | (split <;> omega) | (split <;> split <;> omega)) | skip); all_goals (try (refine ⟨rfl, (by first | exact Nat.le_refl _ | exact Nat.le_of_ble_eq_true rfl), rfl, rfl, ?_, (by repeat' (first | exact trivial | rfl | apply And.intro)), rfl, rfl⟩)))
    all_goals (first | exact hd | exact absurd (by assumption) hd | omega | exact sameA_refl _ | trace_state)

/-! No cells at all. -/
theorem run_eqn {a : Option Addr} {l c : Nat} (w : World) : (binOp .eql 37 (.slice a l c) (.slice none 0 0)).run Tryz.prog w = .ok (.bool a.isNone) w := by
  have hu := Γ_ok.sl 37 54 rfl
  have hq : (Op.equalIn (9999 + 1) 37 (.slice a l c) (.slice none 0 0)).run Tryz.prog w = .ok a.isNone w := by
    generalize 9999 = m
    cases a <;> simp [Op.equalIn, run_underlying hu]
  simp [binOp, Op.equal, Op.maxDepth, hq]
theorem cloneE_calls (a : Option Addr) (cap : Nat) (w : World) : Calls Tryz.prog 57 #[.slice a 0 cap] w fun e w' => (∃ a' c', e = .returned (.slice a' 0 c')) ∧ Go.RowKit.Below w.heap.size w w' := by
  cases a with
  | none =>
    go_enter Tryz.func57, Tryz.ntmps57
    go_wp2
    rw [run_eqn]
    go_wp2
    go_ret
    exact ⟨⟨_, _, rfl⟩, Go.RowKit.Below.refl _ _⟩
  | some ad =>
    go_enter Tryz.func57, Tryz.ntmps57
    go_wp2
    rw [run_eqn]
    go_wp2
    go_ret
    exact ⟨⟨_, _, rfl⟩, (Go.RowKit.Below.refl _ _).alloc (Nat.le_refl _) _⟩
def cloneES : Fun
  | [.fs .spot []], [] => some (.fs .spot [], [], [])
  | _, _ => .none
theorem fs_empty {ρ : Rho} {v : Value} : Den ρ (.fs .spot []) v ↔ ∃ a cap, v = .slice a 0 cap := by
  constructor
  · rintro ⟨-, -, -, a, cap, rfl, -⟩; exact ⟨a, cap, rfl⟩
  · rintro ⟨a, cap, rfl⟩; exact ⟨rfl, by decide, by simp, a, cap, rfl, Nat.zero_le _, .inl rfl⟩
theorem s_cloneE : Sound Tryz.prog 57 cloneES := by
  intro args M r M' vs h hvs
  unfold cloneES at h
  split at h
  case h_2 => cases h
  cases h
  intro ρ vals w hD hM hid
  match vals, hD with
  | [v], ⟨hv, _⟩ =>
  obtain ⟨a, cap, rfl⟩ := fs_empty.1 hv
  refine (cloneE_calls a cap w).mono ?_
  rintro ex w' ⟨⟨a', c', rfl⟩, hb⟩
  exact ⟨_, ρ, rfl, fs_empty.2 ⟨_, _, rfl⟩, After.quiet hM hb, fun i hi => (by simp [AV.ids] at hi)⟩
def sortES : Fun
  | [.fs .spot [], .fn 67 []], [] => some (.any, [], [])
  | _, _ => .none
theorem s_sortE : Sound Tryz.prog 76 sortES := by
  intro args M r M' vs h hvs
  unfold sortES at h
  split at h
  case h_2 => cases h
  cases h
  intro ρ vals w hD hM hid
  match vals, hD with
  | [v, u], ⟨hv, hu, _⟩ =>
  obtain ⟨a, cap, rfl⟩ := fs_empty.1 hv
  obtain ⟨rfl, -⟩ := hu
  refine (AnyF.slices_SortFunc_none Tryz.sortSpot a cap _ w).mono ?_
  rintro ex w' ⟨rfl, rfl⟩
  exact ⟨_, ρ, rfl, trivial, After.refl hM, fun i hi => (by simp [AV.ids] at hi)⟩
def compES : Fun
  | [.fs .spot []], [] => some (.fs .spot [], [], [])
  | _, _ => .none
set_option maxRecDepth 100000 in
theorem s_compE : Sound Tryz.prog 77 compES := by
  intro args M r M' vs h hvs
  unfold compES at h
  split at h
  case h_2 => cases h
  cases h
  refine SpecOK.assume fun hA hM => ?_
  have htb := (TbOk.nil : TbOk Tryz.prog tb0)
  refine SpecOK.of_goes [] Tryz.func77 rfl ?_
  clear hA hM
  refine Goes.tree Γ_ok htb 1000 false false Tryz.func77 rfl ?_
  ((try simp only [decide_eq_true_eq, decide_eq_false_iff_not, Bool.not_eq_true', Bool.not_eq_false', Bool.not_true, Bool.not_false, Bool.and_eq_true, Bool.or_eq_true, bne_iff_ne, beq_iff_eq, ne_eq]); (try simp only [rng, lo, hi, mnI, mxI, Int.toNat_natCast, Sg.n, Nat.mul_one, Nat.zero_add, Nat.add_zero, Nat.reduceAdd, List.getD_cons_zero, List.getD_cons_succ]))
  ((repeat' (first | (with_reducible apply And.intro) | intro _)); all_goals (first | exact trivial | (with_reducible assumption) | (show (_ : List Blk) = _; rfl) | (first | exact trivial | (with_reducible assumption) | omega | (split <;> omega) | (split <;> split <;> omega)) | skip); all_goals (try (refine ⟨rfl, (by first | exact Nat.le_refl _ | exact Nat.le_of_ble_eq_true rfl), rfl, rfl, ?_, (by repeat' (first | exact trivial | rfl | apply And.intro)), rfl, rfl⟩)))
  all_goals (first | contradiction | exact sameA_refl _ | exact absurd (by decide) (by assumption) | trace_state)
def orderedES : Fun
  | [.fs .spot []], [] => some (.fs .spot [], [], [])
  | _, _ => .none
set_option maxRecDepth 100000 in
theorem s_orderedE : Sound Tryz.prog 61 orderedES := by
  intro args M r M' vs h hvs
  unfold orderedES at h
  split at h
  case h_2 => cases h
  cases h
  refine SpecOK.assume fun hA hM => ?_
  have htb := (TbOk.cons s_cloneE Tryz.func57 rfl rfl (TbOk.cons s_sortE Tryz.func76 rfl rfl (TbOk.cons s_compE Tryz.func77 rfl rfl (TbOk.nil : TbOk Tryz.prog tb0))))
  refine SpecOK.of_goes [] Tryz.func61 rfl ?_
  clear hA hM
  refine Goes.tree Γ_ok htb 1000 false false Tryz.func61 rfl ?_
  ((try simp only [decide_eq_true_eq, decide_eq_false_iff_not, Bool.not_eq_true', Bool.not_eq_false', Bool.not_true, Bool.not_false, Bool.and_eq_true, Bool.or_eq_true, bne_iff_ne, beq_iff_eq, ne_eq]); (try simp only [rng, lo, hi, mnI, mxI, Int.toNat_natCast, Sg.n, Nat.mul_one, Nat.zero_add, Nat.add_zero, Nat.reduceAdd, List.getD_cons_zero, List.getD_cons_succ]))
  ((repeat' (first | (with_reducible apply And.intro) | intro _)); all_goals (first | exact trivial | (with_reducible assumption) | (show (_ : List Blk) = _; rfl) | (first | exact trivial | (with_reducible assumption) | omega | (split <;> omega) | (split <;> split <;> omega)) | skip); all_goals (try (refine ⟨rfl, (by first | exact Nat.le_refl _ | exact Nat.le_of_ble_eq_true rfl), rfl, rfl, ?_, (by repeat' (first | exact trivial | rfl | apply And.intro)), rfl, rfl⟩)))
  all_goals (first | contradiction | exact sameA_refl _ | trace_state)
end Go.Proofs.YtjbgjgkogmlpfaaGreat
