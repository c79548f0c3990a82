/- The row NearSide: the spec and the program list the same cells. -/
import Derived.Test.YtjbgjgkogmlpfaaNearI
import Derived.Test.YtjbgjgkogmlpfaaMarks
namespace Go.Proofs.Ytjbgjgkogmlpfaa
open Go Go.Eng
set_option linter.unusedSimpArgs false
set_option linter.unusedVariables false
set_option maxRecDepth 100000
set_option maxHeartbeats 4000000

theorem nearL_len {p : List Int} (hd : okD p) (A G : List (List Int)) : (nearL p A G).length ≤ 100 := by
  obtain ⟨w1, w2, h1, h2⟩ := hd
  have := spotsF_len (nearQ p A G) (p.getD 0 0).toNat (p.getD 1 0).toNat
  have hm : (p.getD 0 0).toNat * (p.getD 1 0).toNat ≤ 10 * 10 := Nat.mul_le_mul (by omega) (by omega)
  unfold nearL
  omega
theorem s_eqOF : Sound Try.prog 9 (orS refOOS refOS) := or_sound s_eqSpOO s_eqSpotO
theorem s_eqON : Sound Try.prog 9 (orS refOOS (nilS .spot (refLS .spot))) := or_sound s_eqSpOO s_eqNilSpot
theorem s_markON : Sound Try.prog 10 (orS markS nilK) := or_sound s_markSpotS s_markNil
set_option maxRecDepth 100000 in
theorem l_ExactNearSide (x0 : List Int) (x1 x2 : List (List Int)) : SpecOK Try.prog 3 [.ag .pas x0, .fs .spot x1, .fs .spot x2] [] (.d true) [] := by
  have kz1 := szN_ok 1048576 x1.length
  have kz2 := szN_ok (szN 1048576 x1.length) x2.length
  by_cases hc : partC x0 x1 x2 = 0
  · have hlen := nearL_len (codeP_all (partC_zero.1 hc).1).1.1 x1 x2
    have htb := (TbOk.cons s_szSpotS Try.func4 rfl rfl (TbOk.cons s_specNear Try.func5 rfl rfl (TbOk.cons s_iNearOkL Try.func8 rfl rfl (TbOk.cons s_toPasture Try.func6 rfl rfl (TbOk.cons s_toSpO Try.func7 rfl rfl (TbOk.cons s_eqOF Try.func9 rfl rfl (TbOk.cons s_markSpotS Try.func10 rfl rfl (TbOk.cons s_heldSpotS Try.func11 rfl rfl (TbOk.nil : TbOk Try.prog tb0)))))))))
    refine SpecOK.of_goes [] Try.func3 rfl ?_
    refine Goes.tree Γ_ok htb 1000 false false Try.func3 rfl ?_
    ((try simp only [decide_eq_true_eq, decide_eq_false_iff_not, Bool.not_eq_true', Bool.not_eq_false', Bool.not_true, Bool.not_false, Bool.and_eq_true, Bool.or_eq_true, bne_iff_ne, beq_iff_eq, ne_eq]); (try simp only [rng, lo, hi, mnI, mxI, Int.toNat_natCast, Sg.n, Nat.mul_one, Nat.zero_add, Nat.add_zero, Nat.reduceAdd, List.getD_cons_zero, List.getD_cons_succ, hc, if_pos]))
    ((repeat' (first | (with_reducible apply And.intro) | intro _)); all_goals (first | exact trivial | (with_reducible assumption) | (show (_ : List Blk) = _; rfl) | (first | exact trivial | (with_reducible assumption) | omega | (split <;> omega) | (split <;> split <;> omega)) | skip); all_goals (try (refine ⟨rfl, (by first | exact Nat.le_refl _ | exact Nat.le_of_ble_eq_true rfl), rfl, rfl, ?_, (by repeat' (first | exact trivial | rfl | apply And.intro)), rfl, rfl⟩)))
    all_goals (first | exact absurd trivial (by assumption) | exact sameA_refl _ | omega | (simp; done) | trace_state)
  · have htb := (TbOk.cons s_szSpotS Try.func4 rfl rfl (TbOk.cons s_specNear Try.func5 rfl rfl (TbOk.cons s_iNearErrL Try.func8 rfl rfl (TbOk.cons s_toPasture Try.func6 rfl rfl (TbOk.cons s_toSpO Try.func7 rfl rfl (TbOk.cons s_eqON Try.func9 rfl rfl (TbOk.cons s_markON Try.func10 rfl rfl (TbOk.cons s_heldNil Try.func11 rfl rfl (TbOk.nil : TbOk Try.prog tb0)))))))))
    refine SpecOK.of_goes [] Try.func3 rfl ?_
    refine Goes.tree Γ_ok htb 1000 false false Try.func3 rfl ?_
    ((try simp only [decide_eq_true_eq, decide_eq_false_iff_not, Bool.not_eq_true', Bool.not_eq_false', Bool.not_true, Bool.not_false, Bool.and_eq_true, Bool.or_eq_true, bne_iff_ne, beq_iff_eq, ne_eq]); (try simp only [rng, lo, hi, mnI, mxI, Int.toNat_natCast, Sg.n, Nat.mul_one, Nat.zero_add, Nat.add_zero, Nat.reduceAdd, List.getD_cons_zero, List.getD_cons_succ, hc, if_neg]))
    ((repeat' (first | (with_reducible apply And.intro) | intro _)); all_goals (first | exact trivial | (with_reducible assumption) | (show (_ : List Blk) = _; rfl) | (first | exact trivial | (with_reducible assumption) | omega | (split <;> omega) | (split <;> split <;> omega)) | skip); all_goals (try (refine ⟨rfl, (by first | exact Nat.le_refl _ | exact Nat.le_of_ble_eq_true rfl), rfl, rfl, ?_, (by repeat' (first | exact trivial | rfl | apply And.intro)), rfl, rfl⟩)))
    all_goals (first | exact absurd trivial (by assumption) | exact sameA_refl _ | omega | (simp; done) | trace_state)
end Go.Proofs.Ytjbgjgkogmlpfaa
namespace Go.Proofs.Ytjbgjgkogmlpfaa.fnExactNearSide
open Go Go.Eng Go.ChangeShapes Go.WideShapes Go.ChangeAt Go.RowKit
theorem own : ownKnob Try.prog.godebug = none := by kernel_rfl
theorem laidOut : laidOutB Try.prog = true := by kernel_rfl
set_option maxRecDepth 100000 in
theorem lifted (os : Os) (started : os.Started) (H : Type) (enc : TypeId × Value → H) :
    ReturnsInHanded {} Try.checked os 3 .any (Rows.fnExactNearSideSpec.pre6 enc Try.prog Try.f3 Rows.fnExactNearSideRow.domain false) (Rows.fnExactNearSideSpec.post enc Try.prog Try.f3 false true false false) := by
  refine returnsInHanded_of_change_sized (C := Try.checked) own started (by kernel_rfl) Try.func3
    (ChangeSpec.witness6 (enc := enc) (C := Try.checked) false ⟨#[], #[zeroV .pas, .slice none 0 0, .slice none 0 0], []⟩ 8 (by kernel_rfl) (by kernel_rfl) (by kernel_rfl) (by kernel_rfl)) ?_
  intro W base args ds gs before hval0 hW hcnd hsz0 _
  have hval : ∀ (j : Nat) t v, Try.f3.params[j]? = some t → args[j]? = some v → Value.okWide Try.prog W .any base t v := hval0
  have hW' := hW
  obtain ⟨p, q, hA0, hV, rfl, hfz, hnd⟩ := hW
  have hA : DataW.TrodAll enc Try.prog W 0 (fun _ => true) true Try.f3.params.toList args.toList ds p := hA0
  rw [Try.params3] at hA hval
  obtain ⟨v0, vs0, d0, ds0, p0, q0, hargs, rfl, rfl, h0, r0⟩ := trodAll_cons hA
  obtain ⟨v1, vs1, d1, ds1, p1, q1, rfl, rfl, rfl, h1, r1⟩ := trodAll_cons r0
  obtain ⟨v2, vs2, d2, ds2, p2, q2, rfl, rfl, rfl, h2, r2⟩ := trodAll_cons r1
  obtain ⟨rfl, rfl, rfl⟩ := trodAll_nil r2
  obtain rfl : args = #[v0, v1, v2] := by cases args; simp_all
  obtain ⟨rfl, rfl⟩ := trodVars_none hV
  obtain ⟨x0, e0, z0, l0, c0⟩ := open_agg Γ_ok (σ := .pas) rfl rfl (by decide) rfl (hval 0 _ v0 rfl rfl) h0
  obtain ⟨x1, g1, m1⟩ := open_rows Γ_ok (σ := .spot) Try.underlying30 rfl rfl (by decide) (hval 1 _ v1 rfl rfl) h1
  have z1 := trod_lt' h1
  obtain ⟨x2, g2, m2⟩ := open_rows Γ_ok (σ := .spot) Try.underlying30 rfl rfl (by decide) (hval 2 _ v2 rfl rfl) h2
  have z2 := trod_lt' h2
  subst z0
  clear hA0 hval0 hsz0
  refine (l_ExactNearSide x0 x1 x2 ⟨fun _ => ⟨0, 0, 0, .none, 0⟩, fun k => W.heap[k]?, globW W⟩ [v0, v1, v2] W ⟨⟨e0, l0, c0, rfl⟩, den_fs g1 rfl, den_fs g2 rfl, trivial⟩ (mrel_nil fun _ _ h => h) (fun x hx i hi => (by simp at hx; rcases hx with rfl | rfl | rfl <;> cases hi))).mono fun e W' ⟨v, ρ', he, hv, hAft, _⟩ => ?_
  subst he
  obtain rfl : v = .bool true := hv
  have bel := hAft.below
  have t0 := Below.trod laidOut (by kernel_rfl) (by decide +kernel) h0 bel (fun x hx => (by cases hx))
  have t1 := Below.trod laidOut (by kernel_rfl) (by decide +kernel) h1 bel z1
  have t2 := Below.trod laidOut (by kernel_rfl) (by decide +kernel) h2 bel z2
  exact ⟨_, rfl, _, _, _, [], _, [], hW', trodAll_mk1 (shut_bool Try.underlying4 _), (trodAll_cons_mk t0 (trodAll_cons_mk t1 (trodAll_cons_mk t2 trodAll_mk0))), rfl, bel.frame _, fun h => (by cases h)⟩
theorem and_t {a b : Bool} (h : a = true) (h' : b = true) : (a && b) = true := by rw [h, h']; rfl
set_option maxHeartbeats 4000000 in
theorem facts : joinedFacts Try.pinned.checked.prog 3 Try.f3 Rows.fnExactNearSideSpec Rows.fnExactNearSideRow = true := by
  unfold joinedFacts
  repeat' (with_reducible apply and_t)
  all_goals (as_aux_lemma => kernel_rfl)
theorem over : Rows.fnExactNearSideRow.holds Try.pinned (OpenSpec.ofChange Rows.fnExactNearSideSpec) :=
  OpenClaim.holds_of_wide 3 Try.f3 rfl rfl rfl rfl rfl rfl rfl ⟨rfl, rfl, rfl, rfl, rfl⟩ rfl rfl rfl rfl rfl (by kernel_rfl) Try.func3 facts
    (of_decide_eq_true (by kernel_rfl)) (by unfold Func.isWrapper; first | (rw [if_pos (by decide +kernel)]; kernel_rfl) | (rw [if_neg (by decide +kernel)]; exact ⟨rfl, rfl⟩))
    (fun os started H enc _ => lifted os started H enc)
end Go.Proofs.Ytjbgjgkogmlpfaa.fnExactNearSide
namespace Go.Proofs.Ytjbgjgkogmlpfaa
theorem fnExactNearSide_holds : Rows.FnExactNearSideSaid := fnExactNearSide.over
#print axioms fnExactNearSide_holds
end Go.Proofs.Ytjbgjgkogmlpfaa

