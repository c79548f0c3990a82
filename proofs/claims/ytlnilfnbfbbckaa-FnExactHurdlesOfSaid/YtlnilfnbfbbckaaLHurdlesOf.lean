/- The row HurdlesOf: the spec and the program list the same hurdles. -/
import Derived.Test.YtlnilfnbfbbckaaHurOf
import Derived.Test.YtlnilfnbfbbckaaMarksH
namespace Go.Proofs.Ytlnilfnbfbbckaa
open Go Go.Eng
set_option linter.unusedSimpArgs false
set_option linter.unusedVariables false
set_option maxRecDepth 100000
set_option maxHeartbeats 4000000

theorem l_ExactHurdlesOf (x0 : List Int) : SpecOK Try.prog 12 [.ag .pas x0] [] (.d true) [] := by
  by_cases hc : okP x0
  · have hlen := hurRows_len hc.1
    have htb := (TbOk.cons s_specHur Try.func42 rfl rfl (TbOk.cons s_hurOk Try.func43 rfl rfl (TbOk.cons s_toPasture Try.func16 rfl rfl (TbOk.cons s_eqHurdleO Try.func44 rfl rfl (TbOk.cons s_markHurdleS Try.func45 rfl rfl (TbOk.cons s_heldHurdleS Try.func46 rfl rfl (TbOk.nil : TbOk Try.prog tb0)))))))
    refine SpecOK.of_goes [] Try.func12 rfl ?_
    refine Goes.tree Γ_ok htb 1000 false false Try.func12 rfl ?_
    ((try simp only [decide_eq_true_eq, decide_eq_false_iff_not, Bool.not_eq_true', Bool.not_eq_false', Bool.not_true, Bool.not_false, Bool.and_eq_true, Bool.or_eq_true, bne_iff_ne, beq_iff_eq, ne_eq]); (try simp only [rng, lo, hi, mnI, mxI, Int.toNat_natCast, Sg.n, Nat.mul_one, Nat.zero_add, Nat.add_zero, Nat.reduceAdd, List.getD_cons_zero, List.getD_cons_succ, hc, if_pos, if_true]))
    ((repeat' (first | (with_reducible apply And.intro) | intro _)); all_goals (first | exact trivial | (with_reducible assumption) | (show (_ : List Blk) = _; rfl) | (first | exact trivial | (with_reducible assumption) | omega | (split <;> omega) | (split <;> split <;> omega)) | skip); all_goals (try (refine ⟨rfl, (by first | exact Nat.le_refl _ | exact Nat.le_of_ble_eq_true rfl), rfl, rfl, ?_, (by repeat' (first | exact trivial | rfl | apply And.intro)), rfl, rfl⟩)))
    all_goals (first | exact absurd trivial (by assumption) | exact sameA_refl _ | omega | simp [hc])
  · have htb := (TbOk.cons s_specHur Try.func42 rfl rfl (TbOk.cons s_hurErr Try.func43 rfl rfl (TbOk.cons s_toPasture Try.func16 rfl rfl (TbOk.cons s_eqNilHur Try.func44 rfl rfl (TbOk.cons s_markNilH Try.func45 rfl rfl (TbOk.cons s_heldNilH Try.func46 rfl rfl (TbOk.nil : TbOk Try.prog tb0)))))))
    refine SpecOK.of_goes [] Try.func12 rfl ?_
    refine Goes.tree Γ_ok htb 1000 false false Try.func12 rfl ?_
    ((try simp only [decide_eq_true_eq, decide_eq_false_iff_not, Bool.not_eq_true', Bool.not_eq_false', Bool.not_true, Bool.not_false, Bool.and_eq_true, Bool.or_eq_true, bne_iff_ne, beq_iff_eq, ne_eq]); (try simp only [rng, lo, hi, mnI, mxI, Int.toNat_natCast, Sg.n, Nat.mul_one, Nat.zero_add, Nat.add_zero, Nat.reduceAdd, List.getD_cons_zero, List.getD_cons_succ, hc, if_neg, if_false]))
    ((repeat' (first | (with_reducible apply And.intro) | intro _)); all_goals (first | exact trivial | (with_reducible assumption) | (show (_ : List Blk) = _; rfl) | (first | exact trivial | (with_reducible assumption) | omega | (split <;> omega) | (split <;> split <;> omega)) | skip); all_goals (try (refine ⟨rfl, (by first | exact Nat.le_refl _ | exact Nat.le_of_ble_eq_true rfl), rfl, rfl, ?_, (by repeat' (first | exact trivial | rfl | apply And.intro)), rfl, rfl⟩)))
    all_goals (first | exact absurd trivial (by assumption) | exact sameA_refl _ | omega | simp [hc])
end Go.Proofs.Ytlnilfnbfbbckaa
namespace Go.Proofs.Ytlnilfnbfbbckaa.fnExactHurdlesOf
open Go Go.Eng Go.ChangeShapes Go.WideShapes Go.ChangeAt Go.RowKit
theorem own : ownKnob Try.prog.godebug = none := by kernel_rfl
theorem laidOut : laidOutB Try.prog = true := by kernel_rfl
set_option maxRecDepth 100000 in
theorem lifted (os : Os) (started : os.Started) (H : Type) (enc : TypeId × Value → H) :
    ReturnsInHanded {} Try.checked os 12 .any (Rows.fnExactHurdlesOfSpec.pre6 enc Try.prog Try.f12 Rows.fnExactHurdlesOfRow.domain false) (Rows.fnExactHurdlesOfSpec.post enc Try.prog Try.f12 false true false false) := by
  refine returnsInHanded_of_change_sized (C := Try.checked) own started (by kernel_rfl) Try.func12
    (ChangeSpec.witness6 (enc := enc) (C := Try.checked) false ⟨#[], #[zeroV .pas], []⟩ 8 (by kernel_rfl) (by kernel_rfl) (by kernel_rfl) (by kernel_rfl)) ?_
  intro W base args ds gs before hval0 hW hcnd hsz0 _
  have hval : ∀ (j : Nat) t v, Try.f12.params[j]? = some t → args[j]? = some v → Value.okWide Try.prog W .any base t v := hval0
  have hW' := hW
  obtain ⟨p, q, hA0, hV, rfl, hfz, hnd⟩ := hW
  have hA : DataW.TrodAll enc Try.prog W 0 (fun _ => true) true Try.f12.params.toList args.toList ds p := hA0
  rw [Try.params12] at hA hval
  obtain ⟨v0, vs0, d0, ds0, p0, q0, hargs, rfl, rfl, h0, r0⟩ := trodAll_cons hA
  obtain ⟨rfl, rfl, rfl⟩ := trodAll_nil r0
  obtain rfl : args = #[v0] := by cases args; simp_all
  obtain ⟨rfl, rfl⟩ := trodVars_none hV
  obtain ⟨x0, e0, z0, l0, c0⟩ := open_agg Γ_ok (σ := .pas) rfl rfl (by decide) rfl (hval 0 _ v0 rfl rfl) h0
  subst z0
  clear hA0 hval0 hsz0
  refine (l_ExactHurdlesOf x0 ⟨fun _ => ⟨0, 0, 0, .none, 0⟩, fun k => W.heap[k]?⟩ [v0] W ⟨⟨e0, l0, c0, rfl⟩, trivial⟩ (mrel_nil fun _ _ h => h) (fun x hx i hi => (by simp at hx; subst hx; cases hi))).mono fun e W' ⟨v, ρ', he, hv, hAft, _⟩ => ?_
  subst he
  obtain rfl : v = .bool true := hv
  have bel := hAft.below
  have t0 := Below.trod laidOut (by kernel_rfl) (by decide +kernel) h0 bel (fun x hx => (by cases hx))
  exact ⟨_, rfl, _, _, _, [], _, [], hW', trodAll_mk1 (shut_bool Try.underlying4 _), (trodAll_cons_mk t0 trodAll_mk0), rfl, bel.frame _, fun h => (by cases h)⟩
theorem over : Rows.fnExactHurdlesOfRow.holds Try.pinned (OpenSpec.ofChange Rows.fnExactHurdlesOfSpec) :=
  OpenClaim.holds_of_wide 12 Try.f12 rfl rfl rfl rfl rfl rfl rfl ⟨rfl, rfl, rfl, rfl, rfl⟩ rfl rfl rfl rfl rfl (by kernel_rfl) Try.func12 (by kernel_rfl)
    (of_decide_eq_true (by kernel_rfl)) (by unfold Func.isWrapper; first | (rw [if_pos (by decide +kernel)]; kernel_rfl) | (rw [if_neg (by decide +kernel)]; exact ⟨rfl, rfl⟩))
    (fun os started H enc _ => lifted os started H enc)
end Go.Proofs.Ytlnilfnbfbbckaa.fnExactHurdlesOf
namespace Go.Proofs.Ytlnilfnbfbbckaa
theorem fnExactHurdlesOf_holds : Rows.FnExactHurdlesOfSaid := fnExactHurdlesOf.over
#print axioms fnExactHurdlesOf_holds
end Go.Proofs.Ytlnilfnbfbbckaa

