/- The row YardOf: the spec and the program list the same yard. -/
import Derived.Test.YtfelemoefhbphaaYard
import Derived.Test.YtfelemoefhbphaaMarks
import Derived.Test.YtfelemoefhbphaaGr0
namespace Go.Proofs.Ytfelemoefhbphaa
open Go Go.Eng
set_option linter.unusedSimpArgs false
set_option linter.unusedVariables false
set_option maxRecDepth 100000
set_option maxHeartbeats 4000000

theorem codeP_cell {p s : List Int} (h : codeP p [s] = 0) : okD p ∧ isP p s = true := ⟨(codeP_all h).1.1, (codeP_all h).2 s (List.mem_singleton.2 rfl)⟩
noncomputable def yardOfS : Fun
  | [.ag .pas p, .ag .spot s], [] => some (.t2 (.fs .spot (if codeP p [s] = 0 then yardR p s else [])) (.i .i64 (codeP p [s])), [], [])
  | _, _ => .none

set_option maxRecDepth 100000 in
theorem s_specYardOf : Sound Try.prog 15 yardOfS := by
  intro args M r M' vs h hvs
  unfold yardOfS at h
  split at h
  case h_2 => cases h
  rename_i p s
  cases h
  refine SpecOK.assume fun hA hM => ?_
  have htb := (TbOk.cons s_l01Asked Try.func54 rfl rfl (TbOk.cons s_l01Yard Try.func55 rfl rfl (TbOk.nil : TbOk Try.prog tb0)))
  refine SpecOK.of_goes [] Try.func15 rfl ?_
  have hok := fun h => codeP_cell (p := p) (s := s) h
  clear hA hM
  refine Goes.tree Γ_ok htb 1000 true false Try.func15 rfl ?_
  ((try simp only [decide_eq_true_eq, decide_eq_false_iff_not, Bool.not_eq_true', Bool.not_eq_false', Bool.not_true, Bool.not_false, Bool.and_eq_true, Bool.or_eq_true, bne_iff_ne, beq_iff_eq, ne_eq]); (try simp only [rng, lo, hi, mnI, mxI, Int.toNat_natCast, Sg.n, Nat.mul_one, Nat.zero_add, Nat.add_zero, Nat.reduceAdd, List.getD_cons_zero, List.getD_cons_succ]))
  ((repeat' (first | (with_reducible apply And.intro) | intro _)); all_goals (first | exact trivial | (with_reducible assumption) | (show (_ : List Blk) = _; rfl) | (first | exact trivial | (with_reducible assumption) | omega | (split <;> omega) | (split <;> split <;> omega)) | skip); all_goals (try (refine ⟨rfl, (by first | exact Nat.le_refl _ | exact Nat.le_of_ble_eq_true rfl), rfl, rfl, ?_, (by repeat' (first | exact trivial | rfl | apply And.intro)), rfl, rfl⟩)))
  · refine sameA_ft ?_ rfl
    rw [if_neg (by assumption)]; rfl
  · exact (hok (by assumption)).1
  · exact (hok (by assumption)).2
  · rename_i h
    refine sameA_ft ?_ h
    rw [if_pos h]

noncomputable def yardOkS : Fun
  | [.ag .pas p, .ag .spot s], [] => some (.t2 (.ow 0 (yardR p s).length .spot 37) (.i .i64 0), [.l .spot (yardR p s)], [codeP p [s] = 0])
  | _, _ => .none
def yardErrS : Fun
  | [.ag .pas p, .ag .spot s], [] => some (.t2 .nsl (.i .i64 (codeP p [s])), [], [¬ codeP p [s] = 0])
  | _, _ => .none

set_option maxRecDepth 100000 in
theorem s_yardOk : Sound Try.prog 18 yardOkS := by
  intro args M r M' vs h hvs
  unfold yardOkS at h
  split at h
  case h_2 => cases h
  rename_i p s
  cases h
  refine SpecOK.assume fun hA hM => ?_
  have htb := (TbOk.cons s_cellCode Try.func58 rfl rfl (TbOk.cons s_yard Try.func59 rfl rfl (TbOk.nil : TbOk Try.prog tb0)))
  refine SpecOK.of_goes [3] Try.func18 rfl ?_
  obtain ⟨hc, -⟩ := hvs
  have hok := codeP_cell hc
  clear hA hM
  refine Goes.tree Γ_ok htb 1000 false false Try.func18 rfl ?_
  ((try simp only [decide_eq_true_eq, decide_eq_false_iff_not, Bool.not_eq_true', Bool.not_eq_false', Bool.not_true, Bool.not_false, Bool.and_eq_true, Bool.or_eq_true, bne_iff_ne, beq_iff_eq, ne_eq]); (try simp only [rng, lo, hi, mnI, mxI, Int.toNat_natCast, Sg.n, Nat.mul_one, Nat.zero_add, Nat.add_zero, Nat.reduceAdd, List.getD_cons_zero, List.getD_cons_succ, one_row]))
  ((repeat' (first | (with_reducible apply And.intro) | intro _)); all_goals (first | exact trivial | (with_reducible assumption) | (show (_ : List Blk) = _; rfl) | (first | exact trivial | (with_reducible assumption) | omega | (split <;> omega) | (split <;> split <;> omega)) | skip); all_goals (try (refine ⟨rfl, (by first | exact Nat.le_refl _ | exact Nat.le_of_ble_eq_true rfl), rfl, rfl, ?_, (by repeat' (first | exact trivial | rfl | apply And.intro)), rfl, rfl⟩)))
  · exact hok.1
  · exact hok.2
  · exact sameA_refl _
set_option maxRecDepth 100000 in
theorem s_yardErr : Sound Try.prog 18 yardErrS := by
  intro args M r M' vs h hvs
  unfold yardErrS at h
  split at h
  case h_2 => cases h
  rename_i p s
  cases h
  refine SpecOK.assume fun hA hM => ?_
  have htb := (TbOk.cons s_cellCode Try.func58 rfl rfl (TbOk.cons s_yard Try.func59 rfl rfl (TbOk.nil : TbOk Try.prog tb0)))
  refine SpecOK.of_goes [] Try.func18 rfl ?_
  obtain ⟨hc, -⟩ := hvs
  clear hA hM
  refine Goes.tree Γ_ok htb 1000 false false Try.func18 rfl ?_
  ((try simp only [decide_eq_true_eq, decide_eq_false_iff_not, Bool.not_eq_true', Bool.not_eq_false', Bool.not_true, Bool.not_false, Bool.and_eq_true, Bool.or_eq_true, bne_iff_ne, beq_iff_eq, ne_eq]); (try simp only [rng, lo, hi, mnI, mxI, Int.toNat_natCast, Sg.n, Nat.mul_one, Nat.zero_add, Nat.add_zero, Nat.reduceAdd, List.getD_cons_zero, List.getD_cons_succ, one_row]))
  ((repeat' (first | (with_reducible apply And.intro) | intro _)); all_goals (first | exact trivial | (with_reducible assumption) | (show (_ : List Blk) = _; rfl) | (first | exact trivial | (with_reducible assumption) | omega | (split <;> omega) | (split <;> split <;> omega)) | skip); all_goals (try (refine ⟨rfl, (by first | exact Nat.le_refl _ | exact Nat.le_of_ble_eq_true rfl), rfl, rfl, ?_, (by repeat' (first | exact trivial | rfl | apply And.intro)), rfl, rfl⟩)))
  exact sameA_refl _

theorem yardR_len {p s : List Int} (h : okD p) : (yardR p s).length ≤ 100 := by
  unfold okD at h
  have h1 := spotsF_len (inT (m1 (bfsD p [s]))) (p.getD 0 0).toNat (p.getD 1 0).toNat
  have h2 : (p.getD 0 0).toNat * (p.getD 1 0).toNat ≤ 10 * 10 := Nat.mul_le_mul (by omega) (by omega)
  unfold yardR; omega

theorem l_ExactYardOf (x0 x1 : List Int) : SpecOK Try.prog 3 [.ag .pas x0, .ag .spot x1] [] (.d true) [] := by
  by_cases hc : codeP x0 [x1] = 0
  · have hlen := yardR_len (s := x1) (codeP_cell hc).1
    have htb := (TbOk.cons s_specYardOf Try.func15 rfl rfl (TbOk.cons s_yardOk Try.func18 rfl rfl (TbOk.cons s_toPasture Try.func16 rfl rfl (TbOk.cons s_toSpot Try.func17 rfl rfl (TbOk.cons s_eqSpotO Try.func19 rfl rfl (TbOk.cons s_markSpotS Try.func20 rfl rfl (TbOk.cons s_heldSpotS Try.func21 rfl rfl (TbOk.nil : TbOk Try.prog tb0))))))))
    refine SpecOK.of_goes [] Try.func3 rfl ?_
    refine Goes.tree Γ_ok htb 1000 false false Try.func3 rfl ?_
    ((try simp only [decide_eq_true_eq, decide_eq_false_iff_not, Bool.not_eq_true', Bool.not_eq_false', Bool.not_true, Bool.not_false, Bool.and_eq_true, Bool.or_eq_true, bne_iff_ne, beq_iff_eq, ne_eq]); (try simp only [rng, lo, hi, mnI, mxI, Int.toNat_natCast, Sg.n, Nat.mul_one, Nat.zero_add, Nat.add_zero, Nat.reduceAdd, List.getD_cons_zero, List.getD_cons_succ, hc, if_pos]))
    ((repeat' (first | (with_reducible apply And.intro) | intro _)); all_goals (first | exact trivial | (with_reducible assumption) | (show (_ : List Blk) = _; rfl) | (first | exact trivial | (with_reducible assumption) | omega | (split <;> omega) | (split <;> split <;> omega)) | skip); all_goals (try (refine ⟨rfl, (by first | exact Nat.le_refl _ | exact Nat.le_of_ble_eq_true rfl), rfl, rfl, ?_, (by repeat' (first | exact trivial | rfl | apply And.intro)), rfl, rfl⟩)))
    all_goals (first | exact absurd trivial (by assumption) | exact sameA_refl _ | omega | simp)
  · have htb := (TbOk.cons s_specYardOf Try.func15 rfl rfl (TbOk.cons s_yardErr Try.func18 rfl rfl (TbOk.cons s_toPasture Try.func16 rfl rfl (TbOk.cons s_toSpot Try.func17 rfl rfl (TbOk.cons s_eqNilSpot Try.func19 rfl rfl (TbOk.cons s_markNil Try.func20 rfl rfl (TbOk.cons s_heldNil Try.func21 rfl rfl (TbOk.nil : TbOk Try.prog tb0))))))))
    refine SpecOK.of_goes [] Try.func3 rfl ?_
    refine Goes.tree Γ_ok htb 1000 false false Try.func3 rfl ?_
    ((try simp only [decide_eq_true_eq, decide_eq_false_iff_not, Bool.not_eq_true', Bool.not_eq_false', Bool.not_true, Bool.not_false, Bool.and_eq_true, Bool.or_eq_true, bne_iff_ne, beq_iff_eq, ne_eq]); (try simp only [rng, lo, hi, mnI, mxI, Int.toNat_natCast, Sg.n, Nat.mul_one, Nat.zero_add, Nat.add_zero, Nat.reduceAdd, List.getD_cons_zero, List.getD_cons_succ, hc, if_neg]))
    ((repeat' (first | (with_reducible apply And.intro) | intro _)); all_goals (first | exact trivial | (with_reducible assumption) | (show (_ : List Blk) = _; rfl) | (first | exact trivial | (with_reducible assumption) | omega | (split <;> omega) | (split <;> split <;> omega)) | skip); all_goals (try (refine ⟨rfl, (by first | exact Nat.le_refl _ | exact Nat.le_of_ble_eq_true rfl), rfl, rfl, ?_, (by repeat' (first | exact trivial | rfl | apply And.intro)), rfl, rfl⟩)))
    all_goals (first | exact absurd trivial (by assumption) | exact sameA_refl _ | omega | simp)
end Go.Proofs.Ytfelemoefhbphaa
namespace Go.Proofs.Ytfelemoefhbphaa.fnExactYardOf
open Go Go.Eng Go.ChangeShapes Go.WideShapes Go.ChangeAt Go.RowKit
theorem own : ownKnob Try.prog.godebug = none := by kernel_rfl
theorem laidOut : laidOutB Try.prog = true := by kernel_rfl
set_option maxRecDepth 100000 in
theorem lifted (os : Os) (started : os.Started) (H : Type) (enc : TypeId × Value → H) :
    ReturnsInHanded {} Try.checked os 3 .any (Rows.fnExactYardOfSpec.pre6 enc Try.prog Try.f3 Rows.fnExactYardOfRow.domain false) (Rows.fnExactYardOfSpec.post enc Try.prog Try.f3 false true false false) := by
  refine returnsInHanded_of_change_sized (C := Try.checked) own started (by kernel_rfl) Try.func3
    (ChangeSpec.witness6 (enc := enc) (C := Try.checked) false ⟨#[], #[zeroV .pas, zeroV .spot], []⟩ 8 (by kernel_rfl) (by kernel_rfl) (by kernel_rfl) (by kernel_rfl)) ?_
  intro W base args ds gs before hval0 hW hcnd hsz0 _
  have hval : ∀ (j : Nat) t v, Try.f3.params[j]? = some t → args[j]? = some v → Value.okWide Try.prog W .any base t v := hval0
  have hW' := hW
  obtain ⟨p, q, hA0, hV, rfl, hfz, hnd⟩ := hW
  have hA : DataW.TrodAll enc Try.prog W 0 (fun _ => true) true Try.f3.params.toList args.toList ds p := hA0
  rw [Try.params3] at hA hval
  obtain ⟨v0, vs0, d0, ds0, p0, q0, hargs, rfl, rfl, h0, r0⟩ := trodAll_cons hA
  obtain ⟨v1, vs1, d1, ds1, p1, q1, rfl, rfl, rfl, h1, r1⟩ := trodAll_cons r0
  obtain ⟨rfl, rfl, rfl⟩ := trodAll_nil r1
  obtain rfl : args = #[v0, v1] := by cases args; simp_all
  obtain ⟨rfl, rfl⟩ := trodVars_none hV
  obtain ⟨x0, e0, z0, l0, c0⟩ := open_agg Γ_ok (σ := .pas) rfl rfl (by decide) rfl (hval 0 _ v0 rfl rfl) h0
  obtain ⟨x1, e1, z1, l1, c1⟩ := open_agg Γ_ok (σ := .spot) rfl rfl (by decide) rfl (hval 1 _ v1 rfl rfl) h1
  subst z0 z1
  clear hA0 hval0 hsz0
  refine (l_ExactYardOf x0 x1 ⟨fun _ => ⟨0, 0, 0, .none, 0⟩, fun k => W.heap[k]?⟩ [v0, v1] W ⟨⟨e0, l0, c0, rfl⟩, ⟨e1, l1, c1, rfl⟩, trivial⟩ (mrel_nil fun _ _ h => h) (fun x hx i hi => (by simp at hx; rcases hx with rfl | rfl <;> cases hi))).mono fun e W' ⟨v, ρ', he, hv, hAft, _⟩ => ?_
  subst he
  obtain rfl : v = .bool true := hv
  have bel := hAft.below
  have t0 := Below.trod laidOut (by kernel_rfl) (by decide +kernel) h0 bel (fun x hx => (by cases hx))
  have t1 := Below.trod laidOut (by kernel_rfl) (by decide +kernel) h1 bel (fun x hx => (by cases hx))
  exact ⟨_, rfl, _, _, _, [], _, [], hW', trodAll_mk1 (shut_bool Try.underlying4 _), (trodAll_cons_mk t0 (trodAll_cons_mk t1 trodAll_mk0)), rfl, bel.frame _, fun h => (by cases h)⟩
theorem over : Rows.fnExactYardOfRow.holds Try.pinned (OpenSpec.ofChange Rows.fnExactYardOfSpec) :=
  OpenClaim.holds_of_wide 3 Try.f3 rfl rfl rfl rfl rfl rfl rfl ⟨rfl, rfl, rfl, rfl, rfl⟩ rfl rfl rfl rfl rfl (by kernel_rfl) Try.func3 (by kernel_rfl)
    (of_decide_eq_true (by kernel_rfl)) (by unfold Func.isWrapper; first | (rw [if_pos (by decide +kernel)]; kernel_rfl) | (rw [if_neg (by decide +kernel)]; exact ⟨rfl, rfl⟩))
    (fun os started H enc _ => lifted os started H enc)
end Go.Proofs.Ytfelemoefhbphaa.fnExactYardOf
namespace Go.Proofs.Ytfelemoefhbphaa
theorem fnExactYardOf_holds : Rows.FnExactYardOfSaid := fnExactYardOf.over
#print axioms fnExactYardOf_holds
end Go.Proofs.Ytfelemoefhbphaa

