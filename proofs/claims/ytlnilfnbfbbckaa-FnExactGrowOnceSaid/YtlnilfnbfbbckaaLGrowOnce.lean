/- The row GrowOnce: the spec and the program let a pasture grow alike for a day. -/
import Derived.Test.YtlnilfnbfbbckaaDays
import Derived.Test.YtlnilfnbfbbckaaEqs
namespace Go.Proofs.Ytlnilfnbfbbckaa
open Go Go.Eng
set_option linter.unusedSimpArgs false
set_option linter.unusedVariables false
set_option maxRecDepth 100000
set_option maxHeartbeats 4000000

def onceS : Fun
  | [.ag .pas p, .ag .gro g], [] => some (.t3 (.ag .pas (if daysC p g 1 = 0 then growN g p 1 else List.replicate 122 0)) (.i .i64 (if daysC p g 1 = 0 then sumA (growN g p 1) 10 - sumA p 10 else 0)) (.i .i64 (daysC p g 1)), [], [])
  | _, _ => .none
set_option maxRecDepth 100000 in
theorem s_implGrowOnce : Sound Try.prog 49 onceS := by
  intro args M r M' vs h hvs
  unfold onceS at h
  split at h
  case h_2 => cases h
  rename_i p g
  cases h
  refine SpecOK.assume fun hA hM => ?_
  have htb := (TbOk.cons s_implGrowDays Try.func51 rfl rfl (TbOk.nil : TbOk Try.prog tb0))
  refine SpecOK.of_goes [] Try.func49 rfl ?_
  clear hA hM
  refine Goes.tree Γ_ok htb 1000 false false Try.func49 rfl ?_
  ((try simp only [decide_eq_true_eq, decide_eq_false_iff_not, Bool.not_eq_true', Bool.not_eq_false', Bool.not_true, Bool.not_false, Bool.and_eq_true, Bool.or_eq_true, bne_iff_ne, beq_iff_eq, ne_eq]); (try simp only [rng, lo, hi, mnI, mxI, Int.toNat_natCast, Sg.n, Nat.mul_one, Nat.zero_add, Nat.add_zero, Nat.reduceAdd, List.getD_cons_zero, List.getD_cons_succ]))
  ((repeat' (first | (with_reducible apply And.intro) | intro _)); all_goals (first | exact trivial | (with_reducible assumption) | (show (_ : List Blk) = _; rfl) | (first | exact trivial | (with_reducible assumption) | omega | (split <;> omega) | (split <;> split <;> omega)) | skip); all_goals (try (refine ⟨rfl, (by first | exact Nat.le_refl _ | exact Nat.le_of_ble_eq_true rfl), rfl, rfl, ?_, (by repeat' (first | exact trivial | rfl | apply And.intro)), rfl, rfl⟩)))
  all_goals (exact sameA_refl _)
set_option maxRecDepth 100000 in
theorem s_specGrowOnce : Sound Try.prog 47 onceS := by
  intro args M r M' vs h hvs
  unfold onceS at h
  split at h
  case h_2 => cases h
  rename_i p g
  cases h
  refine SpecOK.assume fun hA hM => ?_
  have htb := (TbOk.cons s_l04Asked Try.func87 rfl rfl (TbOk.cons s_l04GrowN Try.func88 rfl rfl (TbOk.cons s_l01Sum Try.func89 rfl rfl (TbOk.nil : TbOk Try.prog tb0))))
  refine SpecOK.of_goes [] Try.func47 rfl ?_
  have hlen : p.length = 122 := hA.1
  clear hA hM
  by_cases h1 : okP p ∧ okG g
  · have hc : daysC p g 1 = 0 := by unfold daysC; rw [if_pos h1, if_pos (by decide)]
    have hgr := GR.of hlen h1.1
    have hN := growP_ok (but := []) h1.2 hgr h1.1.1
    have hs1 := sumA_GR hN.1
    have hs0 := sumA_GR hgr
    rw [if_pos hc, if_pos hc, hc]
    refine Goes.tree Γ_ok htb 1000 false false Try.func47 rfl ?_
    ((try simp only [decide_eq_true_eq, decide_eq_false_iff_not, Bool.not_eq_true', Bool.not_eq_false', Bool.not_true, Bool.not_false, Bool.and_eq_true, Bool.or_eq_true, bne_iff_ne, beq_iff_eq, ne_eq]); (try simp only [rng, lo, hi, mnI, mxI, Int.toNat_natCast, Sg.n, Nat.mul_one, Nat.zero_add, Nat.add_zero, Nat.reduceAdd, List.getD_cons_zero, List.getD_cons_succ, if_pos h1]))
    ((repeat' (first | (with_reducible apply And.intro) | intro _)); all_goals (first | exact trivial | (with_reducible assumption) | (show (_ : List Blk) = _; rfl) | (first | exact trivial | (with_reducible assumption) | omega | (split <;> omega) | (split <;> split <;> omega)) | skip); all_goals (try (refine ⟨rfl, (by first | exact Nat.le_refl _ | exact Nat.le_of_ble_eq_true rfl), rfl, rfl, ?_, (by repeat' (first | exact trivial | rfl | apply And.intro)), rfl, rfl⟩)))
    all_goals (first | exact absurd rfl (by assumption) | contradiction | exact ⟨hgr, h1.1.1, h1.2, cellsR_nil, by simp⟩ | omega | exact sameA_refl _ | trace_state)
  · have hc : daysC p g 1 = 1 := by unfold daysC; rw [if_neg h1]
    rw [hc, if_neg (by decide), if_neg (by decide)]
    refine Goes.tree Γ_ok htb 1000 false false Try.func47 rfl ?_
    ((try simp only [decide_eq_true_eq, decide_eq_false_iff_not, Bool.not_eq_true', Bool.not_eq_false', Bool.not_true, Bool.not_false, Bool.and_eq_true, Bool.or_eq_true, bne_iff_ne, beq_iff_eq, ne_eq]); (try simp only [rng, lo, hi, mnI, mxI, Int.toNat_natCast, Sg.n, Nat.mul_one, Nat.zero_add, Nat.add_zero, Nat.reduceAdd, List.getD_cons_zero, List.getD_cons_succ, if_neg h1]))
    ((repeat' (first | (with_reducible apply And.intro) | intro _)); all_goals (first | exact trivial | (with_reducible assumption) | (show (_ : List Blk) = _; rfl) | (first | exact trivial | (with_reducible assumption) | omega | (split <;> omega) | (split <;> split <;> omega)) | skip); all_goals (try (refine ⟨rfl, (by first | exact Nat.le_refl _ | exact Nat.le_of_ble_eq_true rfl), rfl, rfl, ?_, (by repeat' (first | exact trivial | rfl | apply And.intro)), rfl, rfl⟩)))
    all_goals (first | exact absurd rfl (by assumption) | contradiction | omega | exact sameA_refl _ | trace_state)

set_option maxRecDepth 100000 in
theorem l_ExactGrowOnce (x0 : List Int) (x1 : List Int) : SpecOK Try.prog 13 [.ag .pas x0, .ag .gro x1] [] (.d true) [] := by
  have htb := (TbOk.cons s_specGrowOnce Try.func47 rfl rfl (TbOk.cons s_implGrowOnce Try.func49 rfl rfl (TbOk.cons s_toPasture Try.func16 rfl rfl (TbOk.cons s_toGrowth Try.func48 rfl rfl (TbOk.cons s_eqPasture Try.func33 rfl rfl (TbOk.nil : TbOk Try.prog tb0))))))
  refine SpecOK.of_goes [] Try.func13 rfl ?_
  skip
  refine Goes.tree Γ_ok htb 1000 false false Try.func13 rfl ?_
  ((try simp only [decide_eq_true_eq, decide_eq_false_iff_not, Bool.not_eq_true', Bool.not_eq_false', Bool.not_true, Bool.not_false, Bool.and_eq_true, Bool.or_eq_true, bne_iff_ne, beq_iff_eq, ne_eq]); (try simp only [rng, lo, hi, mnI, mxI, Int.toNat_natCast, Sg.n, Nat.mul_one, Nat.zero_add, Nat.add_zero, Nat.reduceAdd, List.getD_cons_zero, List.getD_cons_succ]))
  (repeat' (first | (with_reducible apply And.intro) | intro _))
  all_goals (first | exact trivial | (show (_ : List Blk) = _; rfl) | (first | exact trivial | (with_reducible assumption) | omega | (split <;> omega) | (split <;> split <;> omega)) | ((refine ⟨rfl, (by first | exact Nat.le_refl _ | exact Nat.le_of_ble_eq_true rfl), rfl, rfl, ?_, (by repeat' (first | exact trivial | rfl | apply And.intro)), rfl, rfl⟩); first | exact sameA_refl _ | (exfalso; first | simp_all | simp_all)) | (simp_all) | simp_all)
end Go.Proofs.Ytlnilfnbfbbckaa
namespace Go.Proofs.Ytlnilfnbfbbckaa.fnExactGrowOnce
open Go Go.Eng Go.ChangeShapes Go.WideShapes Go.ChangeAt Go.RowKit
theorem own : ownKnob Try.prog.godebug = none := by kernel_rfl
theorem laidOut : laidOutB Try.prog = true := by kernel_rfl
set_option maxRecDepth 100000 in
theorem lifted (os : Os) (started : os.Started) (H : Type) (enc : TypeId × Value → H) :
    ReturnsInHanded {} Try.checked os 13 .any (Rows.fnExactGrowOnceSpec.pre6 enc Try.prog Try.f13 Rows.fnExactGrowOnceRow.domain false) (Rows.fnExactGrowOnceSpec.post enc Try.prog Try.f13 false true false false) := by
  refine returnsInHanded_of_change_sized (C := Try.checked) own started (by kernel_rfl) Try.func13
    (ChangeSpec.witness6 (enc := enc) (C := Try.checked) false ⟨#[], #[zeroV .pas, zeroV .gro], []⟩ 8 (by kernel_rfl) (by kernel_rfl) (by kernel_rfl) (by kernel_rfl)) ?_
  intro W base args ds gs before hval0 hW hcnd hsz0 _
  have hval : ∀ (j : Nat) t v, Try.f13.params[j]? = some t → args[j]? = some v → Value.okWide Try.prog W .any base t v := hval0
  have hW' := hW
  obtain ⟨p, q, hA0, hV, rfl, hfz, hnd⟩ := hW
  have hA : DataW.TrodAll enc Try.prog W 0 (fun _ => true) true Try.f13.params.toList args.toList ds p := hA0
  rw [Try.params13] at hA hval
  obtain ⟨v0, vs0, d0, ds0, p0, q0, hargs, rfl, rfl, h0, r0⟩ := trodAll_cons hA
  obtain ⟨v1, vs1, d1, ds1, p1, q1, rfl, rfl, rfl, h1, r1⟩ := trodAll_cons r0
  obtain ⟨rfl, rfl, rfl⟩ := trodAll_nil r1
  obtain rfl : args = #[v0, v1] := by cases args; simp_all
  obtain ⟨rfl, rfl⟩ := trodVars_none hV
  obtain ⟨x0, e0, z0, l0, c0⟩ := open_agg Γ_ok (σ := .pas) rfl rfl (by decide) rfl (hval 0 _ v0 rfl rfl) h0
  obtain ⟨x1, e1, z1, l1, c1⟩ := open_agg Γ_ok (σ := .gro) rfl rfl (by decide) rfl (hval 1 _ v1 rfl rfl) h1
  subst z0 z1
  clear hA0 hval0 hsz0
  refine (l_ExactGrowOnce x0 x1 ⟨fun _ => ⟨0, 0, 0, .none, 0⟩, fun k => W.heap[k]?⟩ [v0, v1] W ⟨⟨e0, l0, c0, rfl⟩, ⟨e1, l1, c1, rfl⟩, trivial⟩ (mrel_nil fun _ _ h => h) (fun x hx i hi => (by simp at hx; rcases hx with rfl | rfl <;> cases hi))).mono fun e W' ⟨v, ρ', he, hv, hAft, _⟩ => ?_
  subst he
  obtain rfl : v = .bool true := hv
  have bel := hAft.below
  have t0 := Below.trod laidOut (by kernel_rfl) (by decide +kernel) h0 bel (fun x hx => (by cases hx))
  have t1 := Below.trod laidOut (by kernel_rfl) (by decide +kernel) h1 bel (fun x hx => (by cases hx))
  exact ⟨_, rfl, _, _, _, [], _, [], hW', trodAll_mk1 (shut_bool Try.underlying4 _), (trodAll_cons_mk t0 (trodAll_cons_mk t1 trodAll_mk0)), rfl, bel.frame _, fun h => (by cases h)⟩
theorem over : Rows.fnExactGrowOnceRow.holds Try.pinned (OpenSpec.ofChange Rows.fnExactGrowOnceSpec) :=
  OpenClaim.holds_of_wide 13 Try.f13 rfl rfl rfl rfl rfl rfl rfl ⟨rfl, rfl, rfl, rfl, rfl⟩ rfl rfl rfl rfl rfl (by kernel_rfl) Try.func13 (by kernel_rfl)
    (of_decide_eq_true (by kernel_rfl)) (by unfold Func.isWrapper; first | (rw [if_pos (by decide +kernel)]; kernel_rfl) | (rw [if_neg (by decide +kernel)]; exact ⟨rfl, rfl⟩))
    (fun os started H enc _ => lifted os started H enc)
end Go.Proofs.Ytlnilfnbfbbckaa.fnExactGrowOnce
namespace Go.Proofs.Ytlnilfnbfbbckaa
theorem fnExactGrowOnce_holds : Rows.FnExactGrowOnceSaid := fnExactGrowOnce.over
#print axioms fnExactGrowOnce_holds
end Go.Proofs.Ytlnilfnbfbbckaa

