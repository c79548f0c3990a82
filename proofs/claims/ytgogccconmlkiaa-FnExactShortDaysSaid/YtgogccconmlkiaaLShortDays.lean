/- The row ShortDays: the spec and the program name the same days. -/
import Derived.Test.YtgogccconmlkiaaShort
import Derived.Test.YtgogccconmlkiaaMarksI
namespace Go.Proofs.Ytgogccconmlkiaa
open Go Go.Eng
set_option linter.unusedSimpArgs false
set_option linter.unusedVariables false
set_option maxRecDepth 100000
set_option maxHeartbeats 4000000

noncomputable def shOkLS : Fun
  | [.ag .pas p, .ag .gro g, .ow 0 _ .i64 2, .i .i64 stay, .i .i64 eats, .i .i64 days], [.l .i64 rows] => some (.t2 (.ow 1 (shA p g rows stay eats days).length .i64 2) (.i .i64 0), [.l .i64 rows, .l .i64 (shA p g rows stay eats days)], [rotC p g rows stay eats days = 0])
  | _, _ => .none
noncomputable def shSErrLS : Fun
  | [.ag .pas p, .ag .gro g, .ow 0 _ .i64 2, .i .i64 stay, .i .i64 eats, .i .i64 days], [.l .i64 rows] => some (.t2 (.ow 1 0 .i64 2) (.i .i64 (rotC p g rows stay eats days)), [.l .i64 rows, .l .i64 []], [¬ rotC p g rows stay eats days = 0])
  | _, _ => .none
noncomputable def shErrLS : Fun
  | [.ag .pas p, .ag .gro g, .ow 0 _ .i64 2, .i .i64 stay, .i .i64 eats, .i .i64 days], [.l .i64 rows] => some (.t2 .nsl (.i .i64 (rotC p g rows stay eats days)), [.l .i64 rows], [¬ rotC p g rows stay eats days = 0])
  | _, _ => .none

theorem s_iShOkL : Sound Try.prog 23 shOkLS := by
  intro args M r M' vs h hvs
  unfold shOkLS at h
  split at h
  case h_2 => cases h
  cases h
  refine lend6 (r := .t2 (.ow 0 _ .i64 2) (.i .i64 _)) (N := [.l .i64 _]) ?_ rfl rfl rfl rfl rfl rfl ?_
  · exact s_iShOk _ _ _ _ _ rfl hvs
  · simp [plainB]
theorem s_iShErrL : Sound Try.prog 23 shErrLS := by
  intro args M r M' vs h hvs
  unfold shErrLS at h
  split at h
  case h_2 => cases h
  cases h
  refine lend6 (r := .t2 .nsl (.i .i64 _)) (N := []) ?_ rfl rfl rfl rfl rfl rfl ?_
  · exact s_iShErr _ _ _ _ _ rfl hvs
  · simp [plainB]
theorem s_sShOkL : Sound Try.prog 22 shOkLS := by
  intro args M r M' vs h hvs
  unfold shOkLS at h
  split at h
  case h_2 => cases h
  cases h
  refine lend6 (r := .t2 (.ow 0 _ .i64 2) (.i .i64 _)) (N := [.l .i64 _]) ?_ rfl rfl rfl rfl rfl rfl ?_
  · exact s_sShOk _ _ _ _ _ rfl hvs
  · simp [plainB]
theorem s_sShErrL : Sound Try.prog 22 shSErrLS := by
  intro args M r M' vs h hvs
  unfold shSErrLS at h
  split at h
  case h_2 => cases h
  cases h
  refine lend6 (r := .t2 (.ow 0 _ .i64 2) (.i .i64 _)) (N := [.l .i64 _]) ?_ rfl rfl rfl rfl rfl rfl ?_
  · exact s_sShErr _ _ _ _ _ rfl hvs
  · simp [plainB]

set_option maxRecDepth 100000 in
theorem l_ExactShortDays (x0 x1 : List Int) (x2 : List (List Int)) (x3 x4 x5 : Int) : SpecOK Try.prog 5 [.ag .pas x0, .ag .gro x1, .fs .i64 x2, .i .i64 x3, .i .i64 x4, .i .i64 x5] [] (.d true) [] := by
  refine SpecOK.assume fun hA hM => ?_
  have hlen : x0.length = 122 := hA.1
  clear hA hM
  by_cases hc : rotC x0 x1 x2 x3 x4 x5 = 0
  · have hR := rot_ok hlen hc
    have hS : (shA x0 x1 x2 x3 x4 x5).length ≤ 365 := Nat.le_trans (shL_len _ _ _) (rtS_len hR)
    clear hR
    have htb := (TbOk.cons s_sShOkL Try.func22 rfl rfl (TbOk.cons s_iShOkL Try.func23 rfl rfl (TbOk.cons s_toPasture Try.func11 rfl rfl (TbOk.cons s_toGrowth Try.func18 rfl rfl (TbOk.cons s_toIO Try.func19 rfl rfl (TbOk.cons s_eqOO Try.func21 rfl rfl (TbOk.cons s_markI Try.func24 rfl rfl (TbOk.cons s_heldI Try.func25 rfl rfl (TbOk.nil : TbOk Try.prog tb0)))))))))
    refine SpecOK.of_goes [] Try.func5 rfl ?_
    refine Goes.tree Γ_ok htb 1000 false false Try.func5 rfl ?_
    ((try simp only [decide_eq_true_eq, decide_eq_false_iff_not, Bool.not_eq_true', Bool.not_eq_false', Bool.not_true, Bool.not_false, Bool.and_eq_true, Bool.or_eq_true, bne_iff_ne, beq_iff_eq, ne_eq]); (try simp only [rng, lo, hi, mnI, mxI, Int.toNat_natCast, Sg.n, Nat.mul_one, Nat.zero_add, Nat.add_zero, Nat.reduceAdd, List.getD_cons_zero, List.getD_cons_succ, hc, if_pos]))
    ((repeat' (first | (with_reducible apply And.intro) | intro _)); all_goals (first | exact trivial | (with_reducible assumption) | (show (_ : List Blk) = _; rfl) | (first | exact trivial | (with_reducible assumption) | omega | (split <;> omega) | (split <;> split <;> omega)) | skip); all_goals (try (refine ⟨rfl, (by first | exact Nat.le_refl _ | exact Nat.le_of_ble_eq_true rfl), rfl, rfl, ?_, (by repeat' (first | exact trivial | rfl | apply And.intro)), rfl, rfl⟩)))
    all_goals (first | exact absurd trivial (by assumption) | exact sameA_refl _ | omega | simp | trace_state)
  · have htb := (TbOk.cons s_sShErrL Try.func22 rfl rfl (TbOk.cons s_iShErrL Try.func23 rfl rfl (TbOk.cons s_toPasture Try.func11 rfl rfl (TbOk.cons s_toGrowth Try.func18 rfl rfl (TbOk.cons s_toIO Try.func19 rfl rfl (TbOk.cons s_eqErr Try.func21 rfl rfl (TbOk.cons s_markErr Try.func24 rfl rfl (TbOk.cons s_heldNI Try.func25 rfl rfl (TbOk.nil : TbOk Try.prog tb0)))))))))
    refine SpecOK.of_goes [] Try.func5 rfl ?_
    refine Goes.tree Γ_ok htb 1000 false false Try.func5 rfl ?_
    ((try simp only [decide_eq_true_eq, decide_eq_false_iff_not, Bool.not_eq_true', Bool.not_eq_false', Bool.not_true, Bool.not_false, Bool.and_eq_true, Bool.or_eq_true, bne_iff_ne, beq_iff_eq, ne_eq]); (try simp only [rng, lo, hi, mnI, mxI, Int.toNat_natCast, Sg.n, Nat.mul_one, Nat.zero_add, Nat.add_zero, Nat.reduceAdd, List.getD_cons_zero, List.getD_cons_succ, hc, if_neg]))
    ((repeat' (first | (with_reducible apply And.intro) | intro _)); all_goals (first | exact trivial | (with_reducible assumption) | (show (_ : List Blk) = _; rfl) | (first | exact trivial | (with_reducible assumption) | omega | (split <;> omega) | (split <;> split <;> omega)) | skip); all_goals (try (refine ⟨rfl, (by first | exact Nat.le_refl _ | exact Nat.le_of_ble_eq_true rfl), rfl, rfl, ?_, (by repeat' (first | exact trivial | rfl | apply And.intro)), rfl, rfl⟩)))
    all_goals (first | exact absurd trivial (by assumption) | exact sameA_refl _ | omega | simp | trace_state)
end Go.Proofs.Ytgogccconmlkiaa
namespace Go.Proofs.Ytgogccconmlkiaa.fnExactShortDays
open Go Go.Eng Go.ChangeShapes Go.WideShapes Go.ChangeAt Go.RowKit
theorem own : ownKnob Try.prog.godebug = none := by kernel_rfl
theorem laidOut : laidOutB Try.prog = true := by kernel_rfl
set_option maxRecDepth 100000 in
theorem lifted (os : Os) (started : os.Started) (H : Type) (enc : TypeId × Value → H) :
    ReturnsInHanded {} Try.checked os 5 .any (Rows.fnExactShortDaysSpec.pre6 enc Try.prog Try.f5 Rows.fnExactShortDaysRow.domain false) (Rows.fnExactShortDaysSpec.post enc Try.prog Try.f5 false true false false) := by
  refine returnsInHanded_of_change_sized (C := Try.checked) own started (by kernel_rfl) Try.func5
    (ChangeSpec.witness6 (enc := enc) (C := Try.checked) false ⟨#[], #[zeroV .pas, zeroV .gro, .slice none 0 0, .int .i64 0, .int .i64 0, .int .i64 0], []⟩ 8 (by kernel_rfl) (by kernel_rfl) (by kernel_rfl) (by kernel_rfl)) ?_
  intro W base args ds gs before hval0 hW hcnd hsz0 _
  have hval : ∀ (j : Nat) t v, Try.f5.params[j]? = some t → args[j]? = some v → Value.okWide Try.prog W .any base t v := hval0
  have hW' := hW
  obtain ⟨p, q, hA0, hV, rfl, hfz, hnd⟩ := hW
  have hA : DataW.TrodAll enc Try.prog W 0 (fun _ => true) true Try.f5.params.toList args.toList ds p := hA0
  rw [Try.params5] at hA hval
  obtain ⟨v0, vs0, d0, ds0, p0, q0, hargs, rfl, rfl, h0, r0⟩ := trodAll_cons hA
  obtain ⟨v1, vs1, d1, ds1, p1, q1, rfl, rfl, rfl, h1, r1⟩ := trodAll_cons r0
  obtain ⟨v2, vs2, d2, ds2, p2, q2, rfl, rfl, rfl, h2, r2⟩ := trodAll_cons r1
  obtain ⟨v3, vs3, d3, ds3, p3, q3, rfl, rfl, rfl, h3, r3⟩ := trodAll_cons r2
  obtain ⟨v4, vs4, d4, ds4, p4, q4, rfl, rfl, rfl, h4, r4⟩ := trodAll_cons r3
  obtain ⟨v5, vs5, d5, ds5, p5, q5, rfl, rfl, rfl, h5, r5⟩ := trodAll_cons r4
  obtain ⟨rfl, rfl, rfl⟩ := trodAll_nil r5
  obtain rfl : args = #[v0, v1, v2, v3, v4, v5] := by cases args; simp_all
  obtain ⟨rfl, rfl⟩ := trodVars_none hV
  obtain ⟨x0, e0, z0, l0, c0⟩ := open_agg Γ_ok (σ := .pas) rfl rfl (by decide) rfl (hval 0 _ v0 rfl rfl) h0
  obtain ⟨x1, e1, z1, l1, c1⟩ := open_agg Γ_ok (σ := .gro) rfl rfl (by decide) rfl (hval 1 _ v1 rfl rfl) h1
  obtain ⟨x2, g2, m2⟩ := open_rows Γ_ok (σ := .i64) Try.underlying44 rfl rfl (by decide) (hval 2 _ v2 rfl rfl) h2
  have z2 := trod_lt' h2
  obtain ⟨x3, e3, _, z3, w3⟩ := open_int Try.underlying2 (hval 3 _ v3 rfl rfl) h3
  obtain ⟨x4, e4, _, z4, w4⟩ := open_int Try.underlying2 (hval 4 _ v4 rfl rfl) h4
  obtain ⟨x5, e5, _, z5, w5⟩ := open_int Try.underlying2 (hval 5 _ v5 rfl rfl) h5
  subst z0 z1 z3 z4 z5
  clear hA0 hval0 hsz0
  refine (l_ExactShortDays x0 x1 x2 x3 x4 x5 ⟨fun _ => ⟨0, 0, 0, .none, 0⟩, fun k => W.heap[k]?⟩ [v0, v1, v2, v3, v4, v5] W ⟨⟨e0, l0, c0, rfl⟩, ⟨e1, l1, c1, rfl⟩, den_fs g2 rfl, ⟨e3, rng_wf w3⟩, ⟨e4, rng_wf w4⟩, ⟨e5, rng_wf w5⟩, trivial⟩ (mrel_nil fun _ _ h => h) (fun x hx i hi => (by simp at hx; rcases hx with rfl | rfl | rfl | rfl | rfl | rfl <;> cases hi))).mono fun e W' ⟨v, ρ', he, hv, hAft, _⟩ => ?_
  subst he
  obtain rfl : v = .bool true := hv
  have bel := hAft.below
  have t0 := Below.trod laidOut (by kernel_rfl) (by decide +kernel) h0 bel (fun x hx => (by cases hx))
  have t1 := Below.trod laidOut (by kernel_rfl) (by decide +kernel) h1 bel (fun x hx => (by cases hx))
  have t2 := Below.trod laidOut (by kernel_rfl) (by decide +kernel) h2 bel z2
  have t3 := Below.trod laidOut (by kernel_rfl) (by decide +kernel) h3 bel (fun x hx => (by cases hx))
  have t4 := Below.trod laidOut (by kernel_rfl) (by decide +kernel) h4 bel (fun x hx => (by cases hx))
  have t5 := Below.trod laidOut (by kernel_rfl) (by decide +kernel) h5 bel (fun x hx => (by cases hx))
  exact ⟨_, rfl, _, _, _, [], _, [], hW', trodAll_mk1 (shut_bool Try.underlying4 _), (trodAll_cons_mk t0 (trodAll_cons_mk t1 (trodAll_cons_mk t2 (trodAll_cons_mk t3 (trodAll_cons_mk t4 (trodAll_cons_mk t5 trodAll_mk0)))))), rfl, bel.frame _, fun h => (by cases h)⟩
theorem over : Rows.fnExactShortDaysRow.holds Try.pinned (OpenSpec.ofChange Rows.fnExactShortDaysSpec) :=
  OpenClaim.holds_of_wide 5 Try.f5 rfl rfl rfl rfl rfl rfl rfl ⟨rfl, rfl, rfl, rfl, rfl⟩ rfl rfl rfl rfl rfl (by kernel_rfl) Try.func5 (by kernel_rfl)
    (of_decide_eq_true (by kernel_rfl)) (by unfold Func.isWrapper; first | (rw [if_pos (by decide +kernel)]; kernel_rfl) | (rw [if_neg (by decide +kernel)]; exact ⟨rfl, rfl⟩))
    (fun os started H enc _ => lifted os started H enc)
end Go.Proofs.Ytgogccconmlkiaa.fnExactShortDays
namespace Go.Proofs.Ytgogccconmlkiaa
theorem fnExactShortDays_holds : Rows.FnExactShortDaysSaid := fnExactShortDays.over
#print axioms fnExactShortDays_holds
end Go.Proofs.Ytgogccconmlkiaa

