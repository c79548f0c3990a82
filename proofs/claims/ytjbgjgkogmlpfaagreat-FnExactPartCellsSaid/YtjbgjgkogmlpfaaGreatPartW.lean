/- impl.common and impl.partCode. -/
import Derived.Test.YtjbgjgkogmlpfaaGreatCom
import Derived.Test.YtjbgjgkogmlpfaaGreatDelC
namespace Go.Proofs.YtjbgjgkogmlpfaaGreat
open Go Go.Eng
set_option linter.unusedSimpArgs false
set_option linter.unusedVariables false
set_option maxRecDepth 100000
set_option maxHeartbeats 4000000

def clonePS : Fun
  | [.fs .spot rows], [] => some (.ow 0 rows.length .spot 54, [.l .spot rows], [0 < rows.length ∧ rows.length ≤ 1073741824])
  | _, _ => .none
set_option maxRecDepth 100000 in
theorem s_cloneP : Sound Tryz.prog 57 clonePS := by
  intro args M r M' vs h hvs
  unfold clonePS at h
  split at h
  case h_2 => cases h
  rename_i rows
  cases h
  refine SpecOK.assume fun hA hM => ?_
  have htb := (TbOk.nil : TbOk Tryz.prog tb0)
  refine SpecOK.of_goes [1] Tryz.func57 rfl ?_
  obtain ⟨⟨h1, h2⟩, -⟩ := hvs
  clear hA hM
  refine Goes.tree Γ_ok htb 1000 false false Tryz.func57 rfl ?_
  ((try simp only [decide_eq_true_eq, decide_eq_false_iff_not, Bool.not_eq_true', Bool.not_eq_false', Bool.not_true, Bool.not_false, Bool.and_eq_true, Bool.or_eq_true, bne_iff_ne, beq_iff_eq, ne_eq]); (try simp only [rng, lo, hi, mnI, mxI, Int.toNat_natCast, Sg.n, Nat.mul_one, Nat.zero_add, Nat.add_zero, Nat.reduceAdd, List.getD_cons_zero, List.getD_cons_succ]))
  ((repeat' (first | (with_reducible apply And.intro) | intro _)); all_goals (first | exact trivial | (with_reducible assumption) | (show (_ : List Blk) = _; rfl) | (first | exact trivial | (with_reducible assumption) | omega | (split <;> omega) | (split <;> split <;> omega)) | skip); all_goals (try (refine ⟨rfl, (by first | exact Nat.le_refl _ | exact Nat.le_of_ble_eq_true rfl), rfl, rfl, ?_, (by repeat' (first | exact trivial | rfl | apply And.intro)), rfl, rfl⟩)))
  all_goals (first | contradiction | exact h2 | exact sameA_refl _ | trace_state)
theorem run_eqP {a : Option Addr} {l c : Nat} (w : World) : (binOp .eql 37 (.slice a l c) (.slice none 0 0)).run Tryz.prog w = .ok (.bool a.isNone) w := by
  have hu := Γ_ok.sl 37 54 rfl
  have hq : (Op.equalIn (9999 + 1) 37 (.slice a l c) (.slice none 0 0)).run Tryz.prog w = .ok a.isNone w := by
    generalize 9999 = m
    cases a <;> simp [Op.equalIn, run_underlying hu]
  simp [binOp, Op.equal, Op.maxDepth, hq]
theorem cloneP_calls (a : Option Addr) (cap : Nat) (w : World) : Calls Tryz.prog 57 #[.slice a 0 cap] w fun e w' => (∃ a' c', e = .returned (.slice a' 0 c')) ∧ Go.RowKit.Below w.heap.size w w' := by
  cases a with
  | none =>
    go_enter Tryz.func57, Tryz.ntmps57
    go_wp2
    rw [run_eqP]
    go_wp2
    go_ret
    exact ⟨⟨_, _, rfl⟩, Go.RowKit.Below.refl _ _⟩
  | some ad =>
    go_enter Tryz.func57, Tryz.ntmps57
    go_wp2
    rw [run_eqP]
    go_wp2
    go_ret
    exact ⟨⟨_, _, rfl⟩, (Go.RowKit.Below.refl _ _).alloc (Nat.le_refl _) _⟩
def clonePES : Fun
  | [.fs .spot []], [] => some (.fs .spot [], [], [])
  | _, _ => .none
theorem fs_emptyP {ρ : Rho} {v : Value} : Den ρ (.fs .spot []) v ↔ ∃ a cap, v = .slice a 0 cap := by
  constructor
  · rintro ⟨-, -, -, a, cap, rfl, -⟩; exact ⟨a, cap, rfl⟩
  · rintro ⟨a, cap, rfl⟩; exact ⟨rfl, by decide, by simp, a, cap, rfl, Nat.zero_le _, .inl rfl⟩
theorem s_clonePE : Sound Tryz.prog 57 clonePES := by
  intro args M r M' vs h hvs
  unfold clonePES at h
  split at h
  case h_2 => cases h
  cases h
  intro ρ vals w hD hM hid
  match vals, hD with
  | [v], ⟨hv, _⟩ =>
  obtain ⟨a, cap, rfl⟩ := fs_emptyP.1 hv
  refine (cloneP_calls a cap w).mono ?_
  rintro ex w' ⟨⟨a', c', rfl⟩, hb⟩
  exact ⟨_, ρ, rfl, fs_emptyP.2 ⟨_, _, rfl⟩, After.quiet hM hb, fun i hi => (by simp [AV.ids] at hi)⟩
def idxES : Fun
  | [.fs .spot [], .fn 58 [(0, .ref)]], [.r [.fs .spot G]] => some (.i .i64 (-1), [.r [.fs .spot G]], [])
  | _, _ => .none
set_option maxRecDepth 100000 in
theorem s_idxE : Sound Tryz.prog 74 idxES := by
  intro args M r M' vs h hvs
  unfold idxES at h
  split at h
  case h_2 => cases h
  rename_i G
  cases h
  refine SpecOK.assume fun hA hM => ?_
  have htb := (TbOk.nil : TbOk Tryz.prog tb0)
  refine SpecOK.of_goes [0] Tryz.func74 rfl ?_
  clear hA hM
  refine Goes.tree Γ_ok htb 1000 false false Tryz.func74 rfl ?_
  refine ⟨?_⟩
  refine Goes.tree Γ_ok htb 1000 false false Tryz.func74 rfl ?_
  ((try simp only [decide_eq_true_eq, decide_eq_false_iff_not, Bool.not_eq_true', Bool.not_eq_false', Bool.not_true, Bool.not_false, Bool.and_eq_true, Bool.or_eq_true, bne_iff_ne, beq_iff_eq, ne_eq]); (try simp only [rng, lo, hi, mnI, mxI, Int.toNat_natCast, Sg.n, Nat.mul_one, Nat.zero_add, Nat.add_zero, Nat.reduceAdd, List.getD_cons_zero, List.getD_cons_succ]))
  ((repeat' (first | (with_reducible apply And.intro) | intro _)); all_goals (first | exact trivial | (with_reducible assumption) | (show (_ : List Blk) = _; rfl) | (first | exact trivial | (with_reducible assumption) | omega | (split <;> omega) | (split <;> split <;> omega)) | skip); all_goals (try (refine ⟨rfl, (by first | exact Nat.le_refl _ | exact Nat.le_of_ble_eq_true rfl), rfl, rfl, ?_, (by repeat' (first | exact trivial | rfl | apply And.intro)), rfl, rfl⟩)))
  all_goals (first | contradiction | exact sameA_refl _ | exact absurd (by decide) (by assumption) | trace_state)
def delES : Fun
  | [.fs .spot [], .fn 58 [(0, .ref)]], [.r [.fs .spot G]] => some (.fs .spot [], [.r [.fs .spot G]], [])
  | _, _ => .none
set_option maxRecDepth 100000 in
theorem s_delE : Sound Tryz.prog 56 delES := by
  intro args M r M' vs h hvs
  unfold delES at h
  split at h
  case h_2 => cases h
  rename_i G
  cases h
  refine SpecOK.assume fun hA hM => ?_
  have htb := (TbOk.cons s_idxE Tryz.func74 rfl rfl (TbOk.nil : TbOk Tryz.prog tb0))
  refine SpecOK.of_goes [0] Tryz.func56 rfl ?_
  clear hA hM
  refine Goes.tree Γ_ok htb 1000 false false Tryz.func56 rfl ?_
  ((try simp only [decide_eq_true_eq, decide_eq_false_iff_not, Bool.not_eq_true', Bool.not_eq_false', Bool.not_true, Bool.not_false, Bool.and_eq_true, Bool.or_eq_true, bne_iff_ne, beq_iff_eq, ne_eq]); (try simp only [rng, lo, hi, mnI, mxI, Int.toNat_natCast, Sg.n, Nat.mul_one, Nat.zero_add, Nat.add_zero, Nat.reduceAdd, List.getD_cons_zero, List.getD_cons_succ]))
  ((repeat' (first | (with_reducible apply And.intro) | intro _)); all_goals (first | exact trivial | (with_reducible assumption) | (show (_ : List Blk) = _; rfl) | (first | exact trivial | (with_reducible assumption) | omega | (split <;> omega) | (split <;> split <;> omega)) | skip); all_goals (try (refine ⟨rfl, (by first | exact Nat.le_refl _ | exact Nat.le_of_ble_eq_true rfl), rfl, rfl, ?_, (by repeat' (first | exact trivial | rfl | apply And.intro)), rfl, rfl⟩)))
  all_goals (first | contradiction | exact sameA_refl _ | exact absurd (by decide) (by assumption) | trace_state)
theorem s_delGOkK : Sound Tryz.prog 56 (kill delGOkS) := kill_sound s_delGOk
theorem s_delGNoK : Sound Tryz.prog 56 (kill delGNoS) := kill_sound s_delGNo
theorem s_delEK : Sound Tryz.prog 56 (kill delES) := kill_sound s_delE
def comS : Fun
  | [.fs .spot A, .fs .spot G], [] => some (.fs .spot (leftG G A), [], [A.length ≤ 10000000])
  | _, _ => .none
theorem s_common : Sound Tryz.prog 37 comS := by
  intro args M r M' vs h hvs
  unfold comS at h
  split at h
  case h_2 => cases h
  rename_i A G
  cases h
  obtain ⟨hl, -⟩ := hvs
  refine SpecOK.assume fun hA hM => ?_
  clear hA hM
  by_cases h0 : A = []
  · subst h0
    have htb := (TbOk.cons s_clonePE Tryz.func57 rfl rfl (TbOk.cons s_delEK Tryz.func56 rfl rfl (TbOk.nil : TbOk Tryz.prog tb0)))
    refine SpecOK.of_goes [] Tryz.func37 rfl ?_
    refine Goes.tree Γ_ok htb 1000 true false Tryz.func37 rfl ?_
    ((try simp only [decide_eq_true_eq, decide_eq_false_iff_not, Bool.not_eq_true', Bool.not_eq_false', Bool.not_true, Bool.not_false, Bool.and_eq_true, Bool.or_eq_true, bne_iff_ne, beq_iff_eq, ne_eq]); (try simp only [rng, lo, hi, mnI, mxI, Int.toNat_natCast, Sg.n, Nat.mul_one, Nat.zero_add, Nat.add_zero, Nat.reduceAdd, List.getD_cons_zero, List.getD_cons_succ]))
    ((repeat' (first | (with_reducible apply And.intro) | intro _)); all_goals (first | exact trivial | (with_reducible assumption) | (show (_ : List Blk) = _; rfl) | (first | exact trivial | (with_reducible assumption) | omega | (split <;> omega) | (split <;> split <;> omega)) | skip); all_goals (try (refine ⟨rfl, (by first | exact Nat.le_refl _ | exact Nat.le_of_ble_eq_true rfl), rfl, rfl, ?_, (by repeat' (first | exact trivial | rfl | apply And.intro)), rfl, rfl⟩)))
    all_goals (first | contradiction | exact sameA_refl _ | trace_state)
  · have hpos : 0 < A.length := List.length_pos_iff.2 h0
    by_cases ha : A.any (delG G) = true
    · have htb := (TbOk.cons s_cloneP Tryz.func57 rfl rfl (TbOk.cons s_delGOkK Tryz.func56 rfl rfl (TbOk.nil : TbOk Tryz.prog tb0)))
      refine SpecOK.of_goes [] Tryz.func37 rfl ?_
      refine Goes.tree Γ_ok htb 1000 true false Tryz.func37 rfl ?_
      ((try simp only [decide_eq_true_eq, decide_eq_false_iff_not, Bool.not_eq_true', Bool.not_eq_false', Bool.not_true, Bool.not_false, Bool.and_eq_true, Bool.or_eq_true, bne_iff_ne, beq_iff_eq, ne_eq]); (try simp only [rng, lo, hi, mnI, mxI, Int.toNat_natCast, Sg.n, Nat.mul_one, Nat.zero_add, Nat.add_zero, Nat.reduceAdd, List.getD_cons_zero, List.getD_cons_succ, ha]))
      ((repeat' (first | (with_reducible apply And.intro) | intro _)); all_goals (first | exact trivial | (with_reducible assumption) | (show (_ : List Blk) = _; rfl) | (first | exact trivial | (with_reducible assumption) | omega | (split <;> omega) | (split <;> split <;> omega)) | skip); all_goals (try (refine ⟨rfl, (by first | exact Nat.le_refl _ | exact Nat.le_of_ble_eq_true rfl), rfl, rfl, ?_, (by repeat' (first | exact trivial | rfl | apply And.intro)), rfl, rfl⟩)))
      all_goals (first | contradiction | omega | exact sameA_refl _ | trace_state)
    · have htb := (TbOk.cons s_cloneP Tryz.func57 rfl rfl (TbOk.cons s_delGNoK Tryz.func56 rfl rfl (TbOk.nil : TbOk Tryz.prog tb0)))
      have hall : leftG G A = A := by
        unfold leftG
        refine List.filter_eq_self.2 fun x hx => ?_
        cases hh : delG G x with
        | false => rfl
        | true => exact absurd (List.any_eq_true.2 ⟨x, hx, hh⟩) ha
      rw [hall]
      refine SpecOK.of_goes [] Tryz.func37 rfl ?_
      refine Goes.tree Γ_ok htb 1000 true false Tryz.func37 rfl ?_
      ((try simp only [decide_eq_true_eq, decide_eq_false_iff_not, Bool.not_eq_true', Bool.not_eq_false', Bool.not_true, Bool.not_false, Bool.and_eq_true, Bool.or_eq_true, bne_iff_ne, beq_iff_eq, ne_eq]); (try simp only [rng, lo, hi, mnI, mxI, Int.toNat_natCast, Sg.n, Nat.mul_one, Nat.zero_add, Nat.add_zero, Nat.reduceAdd, List.getD_cons_zero, List.getD_cons_succ, ha]))
      ((repeat' (first | (with_reducible apply And.intro) | intro _)); all_goals (first | exact trivial | (with_reducible assumption) | (show (_ : List Blk) = _; rfl) | (first | exact trivial | (with_reducible assumption) | omega | (split <;> omega) | (split <;> split <;> omega)) | skip); all_goals (try (refine ⟨rfl, (by first | exact Nat.le_refl _ | exact Nat.le_of_ble_eq_true rfl), rfl, rfl, ?_, (by repeat' (first | exact trivial | rfl | apply And.intro)), rfl, rfl⟩)))
      all_goals (first | contradiction | omega | exact ha | exact sameA_refl _ | trace_state)
end Go.Proofs.YtjbgjgkogmlpfaaGreat
