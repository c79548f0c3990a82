/- The row WayBetween: the spec and the program list the same way between two cells. -/
import Derived.Test.YtfelemoefhbphaaWay5
import Derived.Test.YtfelemoefhbphaaMarks
namespace Go.Proofs.Ytfelemoefhbphaa
open Go Go.Eng
set_option linter.unusedSimpArgs false
set_option linter.unusedVariables false
set_option maxRecDepth 100000
set_option maxHeartbeats 4000000

theorem wayL_len {p a b : List Int} (h : WbOk p a b) : (wayL p a b).length ≤ 200 := by
  have hf := wb_far h
  have hr := (bfsD_wf h.dm (one_isP h.gb)).2 (cx a)
  have hp := h.far
  have := (wK_ok h.dm h.gb h.lb h.ga h.la (by omega) ((m1 (bfsD p [b])).getD (cx a) 0).toNat (by omega)).2.2.2
  unfold wayL
  omega
set_option maxRecDepth 100000 in
theorem l_ExactWayBetween (x0 x1 x2 : List Int) : SpecOK Try.prog 7 [.ag .pas x0, .ag .spot x1, .ag .spot x2] [] (.d true) [] := by
  refine SpecOK.assume fun hA hM => ?_
  have l1 : x1.length = 2 := hA.2.2.1
  have l2 : x2.length = 2 := hA.2.2.2.2.1
  clear hA hM
  by_cases hc : stepC x0 x1 x2 = 0
  · have hlen := wayL_len (wb_ok l1 l2 hc)
    have htb := (TbOk.cons s_specWay Try.func32 rfl rfl (TbOk.cons s_wbOk Try.func33 rfl rfl (TbOk.cons s_toPasture Try.func16 rfl rfl (TbOk.cons s_toSpot Try.func17 rfl rfl (TbOk.cons s_eqSpotO Try.func19 rfl rfl (TbOk.cons s_markSpotS Try.func20 rfl rfl (TbOk.cons s_heldSpotS Try.func21 rfl rfl (TbOk.nil : TbOk Try.prog tb0))))))))
    refine SpecOK.of_goes [] Try.func7 rfl ?_
    refine Goes.tree Γ_ok htb 1000 false false Try.func7 rfl ?_
    ((try simp only [decide_eq_true_eq, decide_eq_false_iff_not, Bool.not_eq_true', Bool.not_eq_false', Bool.not_true, Bool.not_false, Bool.and_eq_true, Bool.or_eq_true, bne_iff_ne, beq_iff_eq, ne_eq]); (try simp only [rng, lo, hi, mnI, mxI, Int.toNat_natCast, Sg.n, Nat.mul_one, Nat.zero_add, Nat.add_zero, Nat.reduceAdd, List.getD_cons_zero, List.getD_cons_succ, hc, if_pos]))
    ((repeat' (first | (with_reducible apply And.intro) | intro _)); all_goals (first | exact trivial | (with_reducible assumption) | (show (_ : List Blk) = _; rfl) | (first | exact trivial | (with_reducible assumption) | omega | (split <;> omega) | (split <;> split <;> omega)) | skip); all_goals (try (refine ⟨rfl, (by first | exact Nat.le_refl _ | exact Nat.le_of_ble_eq_true rfl), rfl, rfl, ?_, (by repeat' (first | exact trivial | rfl | apply And.intro)), rfl, rfl⟩)))
    all_goals (first | exact absurd trivial (by assumption) | exact sameA_refl _ | omega | simp)
  · have htb := (TbOk.cons s_specWay Try.func32 rfl rfl (TbOk.cons s_wbErr Try.func33 rfl rfl (TbOk.cons s_toPasture Try.func16 rfl rfl (TbOk.cons s_toSpot Try.func17 rfl rfl (TbOk.cons s_eqNilSpot Try.func19 rfl rfl (TbOk.cons s_markNil Try.func20 rfl rfl (TbOk.cons s_heldNil Try.func21 rfl rfl (TbOk.nil : TbOk Try.prog tb0))))))))
    refine SpecOK.of_goes [] Try.func7 rfl ?_
    refine Goes.tree Γ_ok htb 1000 false false Try.func7 rfl ?_
    ((try simp only [decide_eq_true_eq, decide_eq_false_iff_not, Bool.not_eq_true', Bool.not_eq_false', Bool.not_true, Bool.not_false, Bool.and_eq_true, Bool.or_eq_true, bne_iff_ne, beq_iff_eq, ne_eq]); (try simp only [rng, lo, hi, mnI, mxI, Int.toNat_natCast, Sg.n, Nat.mul_one, Nat.zero_add, Nat.add_zero, Nat.reduceAdd, List.getD_cons_zero, List.getD_cons_succ, hc, if_neg]))
    ((repeat' (first | (with_reducible apply And.intro) | intro _)); all_goals (first | exact trivial | (with_reducible assumption) | (show (_ : List Blk) = _; rfl) | (first | exact trivial | (with_reducible assumption) | omega | (split <;> omega) | (split <;> split <;> omega)) | skip); all_goals (try (refine ⟨rfl, (by first | exact Nat.le_refl _ | exact Nat.le_of_ble_eq_true rfl), rfl, rfl, ?_, (by repeat' (first | exact trivial | rfl | apply And.intro)), rfl, rfl⟩)))
    all_goals (first | exact absurd trivial (by assumption) | exact sameA_refl _ | omega | simp)
end Go.Proofs.Ytfelemoefhbphaa
namespace Go.Proofs.Ytfelemoefhbphaa.fnExactWayBetween
open Go Go.Eng Go.ChangeShapes Go.WideShapes Go.ChangeAt Go.RowKit
theorem own : ownKnob Try.prog.godebug = none := by kernel_rfl
theorem laidOut : laidOutB Try.prog = true := by kernel_rfl
set_option maxRecDepth 100000 in
theorem lifted (os : Os) (started : os.Started) (H : Type) (enc : TypeId × Value → H) :
    ReturnsInHanded {} Try.checked os 7 .any (Rows.fnExactWayBetweenSpec.pre6 enc Try.prog Try.f7 Rows.fnExactWayBetweenRow.domain false) (Rows.fnExactWayBetweenSpec.post enc Try.prog Try.f7 false true false false) := by
  refine returnsInHanded_of_change_sized (C := Try.checked) own started (by kernel_rfl) Try.func7
    (ChangeSpec.witness6 (enc := enc) (C := Try.checked) false ⟨#[], #[zeroV .pas, zeroV .spot, zeroV .spot], []⟩ 8 (by kernel_rfl) (by kernel_rfl) (by kernel_rfl) (by kernel_rfl)) ?_
  intro W base args ds gs before hval0 hW hcnd hsz0 _
  have hval : ∀ (j : Nat) t v, Try.f7.params[j]? = some t → args[j]? = some v → Value.okWide Try.prog W .any base t v := hval0
  have hW' := hW
  obtain ⟨p, q, hA0, hV, rfl, hfz, hnd⟩ := hW
  have hA : DataW.TrodAll enc Try.prog W 0 (fun _ => true) true Try.f7.params.toList args.toList ds p := hA0
  rw [Try.params7] at hA hval
  obtain ⟨v0, vs0, d0, ds0, p0, q0, hargs, rfl, rfl, h0, r0⟩ := trodAll_cons hA
  obtain ⟨v1, vs1, d1, ds1, p1, q1, rfl, rfl, rfl, h1, r1⟩ := trodAll_cons r0
  obtain ⟨v2, vs2, d2, ds2, p2, q2, rfl, rfl, rfl, h2, r2⟩ := trodAll_cons r1
  obtain ⟨rfl, rfl, rfl⟩ := trodAll_nil r2
  obtain rfl : args = #[v0, v1, v2] := by cases args; simp_all
  obtain ⟨rfl, rfl⟩ := trodVars_none hV
  obtain ⟨x0, e0, z0, l0, c0⟩ := open_agg Γ_ok (σ := .pas) rfl rfl (by decide) rfl (hval 0 _ v0 rfl rfl) h0
  obtain ⟨x1, e1, z1, l1, c1⟩ := open_agg Γ_ok (σ := .spot) rfl rfl (by decide) rfl (hval 1 _ v1 rfl rfl) h1
  obtain ⟨x2, e2, z2, l2, c2⟩ := open_agg Γ_ok (σ := .spot) rfl rfl (by decide) rfl (hval 2 _ v2 rfl rfl) h2
  subst z0 z1 z2
  clear hA0 hval0 hsz0
  refine (l_ExactWayBetween x0 x1 x2 ⟨fun _ => ⟨0, 0, 0, .none, 0⟩, fun k => W.heap[k]?⟩ [v0, v1, v2] W ⟨⟨e0, l0, c0, rfl⟩, ⟨e1, l1, c1, rfl⟩, ⟨e2, l2, c2, rfl⟩, trivial⟩ (mrel_nil fun _ _ h => h) (fun x hx i hi => (by simp at hx; rcases hx with rfl | rfl | rfl <;> cases hi))).mono fun e W' ⟨v, ρ', he, hv, hAft, _⟩ => ?_
  subst he
  obtain rfl : v = .bool true := hv
  have bel := hAft.below
  have t0 := Below.trod laidOut (by kernel_rfl) (by decide +kernel) h0 bel (fun x hx => (by cases hx))
  have t1 := Below.trod laidOut (by kernel_rfl) (by decide +kernel) h1 bel (fun x hx => (by cases hx))
  have t2 := Below.trod laidOut (by kernel_rfl) (by decide +kernel) h2 bel (fun x hx => (by cases hx))
  exact ⟨_, rfl, _, _, _, [], _, [], hW', trodAll_mk1 (shut_bool Try.underlying4 _), (trodAll_cons_mk t0 (trodAll_cons_mk t1 (trodAll_cons_mk t2 trodAll_mk0))), rfl, bel.frame _, fun h => (by cases h)⟩
theorem over : Rows.fnExactWayBetweenRow.holds Try.pinned (OpenSpec.ofChange Rows.fnExactWayBetweenSpec) :=
  OpenClaim.holds_of_wide 7 Try.f7 rfl rfl rfl rfl rfl rfl rfl ⟨rfl, rfl, rfl, rfl, rfl⟩ rfl rfl rfl rfl rfl (by kernel_rfl) Try.func7 (by kernel_rfl)
    (of_decide_eq_true (by kernel_rfl)) (by unfold Func.isWrapper; first | (rw [if_pos (by decide +kernel)]; kernel_rfl) | (rw [if_neg (by decide +kernel)]; exact ⟨rfl, rfl⟩))
    (fun os started H enc _ => lifted os started H enc)
end Go.Proofs.Ytfelemoefhbphaa.fnExactWayBetween
namespace Go.Proofs.Ytfelemoefhbphaa
theorem fnExactWayBetween_holds : Rows.FnExactWayBetweenSaid := fnExactWayBetween.over
#print axioms fnExactWayBetween_holds
end Go.Proofs.Ytfelemoefhbphaa

