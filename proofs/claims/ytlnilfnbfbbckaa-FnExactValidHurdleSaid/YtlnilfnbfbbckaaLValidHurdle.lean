/- The row ValidHurdle: the spec and the program call the same hurdles valid. -/
import Derived.Test.YtlnilfnbfbbckaaSide
namespace Go.Proofs.Ytlnilfnbfbbckaa
open Go Go.Eng
set_option linter.unusedSimpArgs false
set_option linter.unusedVariables false
set_option maxRecDepth 100000
set_option maxHeartbeats 4000000

def validHS : Fun
  | [.ag .pas p, .ag .hur h], [] => some (.b (decide (okP p) && hurP p h), [], [])
  | _, _ => .none

set_option maxRecDepth 100000 in
theorem s_specValidHurdle : Sound Try.prog 15 validHS := by
  intro args M r M' vs h hvs
  unfold validHS at h
  split at h
  case h_2 => cases h
  rename_i p h
  cases h
  refine SpecOK.assume fun hA hM => ?_
  have htb := (TbOk.cons s_l01Ok Try.func52 rfl rfl (TbOk.cons s_l03Is Try.func53 rfl rfl (TbOk.nil : TbOk Try.prog tb0)))
  refine SpecOK.of_goes [] Try.func15 rfl ?_
  refine Goes.tree Γ_ok htb 1000 false false Try.func15 rfl ?_
  ((try simp only [decide_eq_true_eq, decide_eq_false_iff_not, Bool.not_eq_true', Bool.not_eq_false', Bool.not_true, Bool.not_false, Bool.and_eq_true, Bool.or_eq_true, bne_iff_ne, beq_iff_eq, ne_eq]); (try simp only [rng, lo, hi, mnI, mxI, Int.toNat_natCast, Sg.n, Nat.mul_one, Nat.zero_add, Nat.add_zero, Nat.reduceAdd, List.getD_cons_zero, List.getD_cons_succ]))
  ((repeat' (first | (with_reducible apply And.intro) | intro _)); all_goals (first | exact trivial | (with_reducible assumption) | (show (_ : List Blk) = _; rfl) | (first | exact trivial | (with_reducible assumption) | omega | (split <;> omega) | (split <;> split <;> omega)) | skip); all_goals (try (refine ⟨rfl, (by first | exact Nat.le_refl _ | exact Nat.le_of_ble_eq_true rfl), rfl, rfl, ?_, (by repeat' (first | exact trivial | rfl | apply And.intro)), rfl, rfl⟩)))
  · exact (by assumption : okP p).1
  · rename_i hp
    refine sameA_b ?_
    simp [hp]
  · rename_i hp
    show (decide (okP p) && hurP p h) = false
    simp [hp]

set_option maxRecDepth 100000 in
theorem s_implValidHurdle : Sound Try.prog 18 validHS := by
  intro args M r M' vs h hvs
  unfold validHS at h
  split at h
  case h_2 => cases h
  rename_i p h
  cases h
  refine SpecOK.assume fun hA hM => ?_
  have htb := (TbOk.cons s_ValidPasture Try.func56 rfl rfl (TbOk.cons s_isHurdle Try.func57 rfl rfl (TbOk.nil : TbOk Try.prog tb0)))
  refine SpecOK.of_goes [] Try.func18 rfl ?_
  refine Goes.tree Γ_ok htb 1000 false false Try.func18 rfl ?_
  ((try simp only [decide_eq_true_eq, decide_eq_false_iff_not, Bool.not_eq_true', Bool.not_eq_false', Bool.not_true, Bool.not_false, Bool.and_eq_true, Bool.or_eq_true, bne_iff_ne, beq_iff_eq, ne_eq]); (try simp only [rng, lo, hi, mnI, mxI, Int.toNat_natCast, Sg.n, Nat.mul_one, Nat.zero_add, Nat.add_zero, Nat.reduceAdd, List.getD_cons_zero, List.getD_cons_succ]))
  ((repeat' (first | (with_reducible apply And.intro) | intro _)); all_goals (first | exact trivial | (with_reducible assumption) | (show (_ : List Blk) = _; rfl) | (first | exact trivial | (with_reducible assumption) | omega | (split <;> omega) | (split <;> split <;> omega)) | skip); all_goals (try (refine ⟨rfl, (by first | exact Nat.le_refl _ | exact Nat.le_of_ble_eq_true rfl), rfl, rfl, ?_, (by repeat' (first | exact trivial | rfl | apply And.intro)), rfl, rfl⟩)))
  · exact (by assumption : okP p).1
  · rename_i hp
    refine sameA_b ?_
    simp [hp]
  · rename_i hp
    show (decide (okP p) && hurP p h) = false
    simp [hp]
set_option maxRecDepth 100000 in
theorem l_ExactValidHurdle (x0 : List Int) (x1 : List Int) : SpecOK Try.prog 3 [.ag .pas x0, .ag .hur x1] [] (.d true) [] := by
  have htb := (TbOk.cons s_specValidHurdle Try.func15 rfl rfl (TbOk.cons s_implValidHurdle Try.func18 rfl rfl (TbOk.cons s_toPasture Try.func16 rfl rfl (TbOk.cons s_toHurdle Try.func17 rfl rfl (TbOk.nil : TbOk Try.prog tb0)))))
  refine SpecOK.of_goes [] Try.func3 rfl ?_
  skip
  refine Goes.tree Γ_ok htb 1000 false false Try.func3 rfl ?_
  ((try simp only [decide_eq_true_eq, decide_eq_false_iff_not, Bool.not_eq_true', Bool.not_eq_false', Bool.not_true, Bool.not_false, Bool.and_eq_true, Bool.or_eq_true, bne_iff_ne, beq_iff_eq, ne_eq]); (try simp only [rng, lo, hi, mnI, mxI, Int.toNat_natCast, Sg.n, Nat.mul_one, Nat.zero_add, Nat.add_zero, Nat.reduceAdd, List.getD_cons_zero, List.getD_cons_succ]))
  (repeat' (first | (with_reducible apply And.intro) | intro _))
  all_goals (first | exact trivial | (show (_ : List Blk) = _; rfl) | (first | exact trivial | (with_reducible assumption) | omega | (split <;> omega) | (split <;> split <;> omega)) | ((refine ⟨rfl, (by first | exact Nat.le_refl _ | exact Nat.le_of_ble_eq_true rfl), rfl, rfl, ?_, (by repeat' (first | exact trivial | rfl | apply And.intro)), rfl, rfl⟩); first | exact sameA_refl _ | (exfalso; first | simp_all | simp_all)) | (simp_all) | simp_all)
end Go.Proofs.Ytlnilfnbfbbckaa
namespace Go.Proofs.Ytlnilfnbfbbckaa.fnExactValidHurdle
open Go Go.Eng Go.ChangeShapes Go.WideShapes Go.ChangeAt Go.RowKit
theorem own : ownKnob Try.prog.godebug = none := by kernel_rfl
theorem laidOut : laidOutB Try.prog = true := by kernel_rfl
set_option maxRecDepth 100000 in
theorem lifted (os : Os) (started : os.Started) (H : Type) (enc : TypeId × Value → H) :
    ReturnsInHanded {} Try.checked os 3 .any (Rows.fnExactValidHurdleSpec.pre6 enc Try.prog Try.f3 Rows.fnExactValidHurdleRow.domain false) (Rows.fnExactValidHurdleSpec.post enc Try.prog Try.f3 false true false false) := by
  refine returnsInHanded_of_change_sized (C := Try.checked) own started (by kernel_rfl) Try.func3
    (ChangeSpec.witness6 (enc := enc) (C := Try.checked) false ⟨#[], #[zeroV .pas, zeroV .hur], []⟩ 8 (by kernel_rfl) (by kernel_rfl) (by kernel_rfl) (by kernel_rfl)) ?_
  intro W base args ds gs before hval0 hW hcnd hsz0 _
  have hval : ∀ (j : Nat) t v, Try.f3.params[j]? = some t → args[j]? = some v → Value.okWide Try.prog W .any base t v := hval0
  have hW' := hW
  obtain ⟨p, q, hA0, hV, rfl, hfz, hnd⟩ := hW
  have hA : DataW.TrodAll enc Try.prog W 0 (fun _ => true) true Try.f3.params.toList args.toList ds p := hA0
  rw [Try.params3] at hA hval
  obtain ⟨v0, vs0, d0, ds0, p0, q0, hargs, rfl, rfl, h0, r0⟩ := trodAll_cons hA
  obtain ⟨v1, vs1, d1, ds1, p1, q1, rfl, rfl, rfl, h1, r1⟩ := trodAll_cons r0
  obtain ⟨rfl, rfl, rfl⟩ := trodAll_nil r1
  obtain rfl : args = #[v0, v1] := by cases args; simp_all
  obtain ⟨rfl, rfl⟩ := trodVars_none hV
  obtain ⟨x0, e0, z0, l0, c0⟩ := open_agg Γ_ok (σ := .pas) rfl rfl (by decide) rfl (hval 0 _ v0 rfl rfl) h0
  obtain ⟨x1, e1, z1, l1, c1⟩ := open_agg Γ_ok (σ := .hur) rfl rfl (by decide) rfl (hval 1 _ v1 rfl rfl) h1
  subst z0 z1
  clear hA0 hval0 hsz0
  refine (l_ExactValidHurdle x0 x1 ⟨fun _ => ⟨0, 0, 0, .none, 0⟩, fun k => W.heap[k]?⟩ [v0, v1] W ⟨⟨e0, l0, c0, rfl⟩, ⟨e1, l1, c1, rfl⟩, trivial⟩ (mrel_nil fun _ _ h => h) (fun x hx i hi => (by simp at hx; rcases hx with rfl | rfl <;> cases hi))).mono fun e W' ⟨v, ρ', he, hv, hAft, _⟩ => ?_
  subst he
  obtain rfl : v = .bool true := hv
  have bel := hAft.below
  have t0 := Below.trod laidOut (by kernel_rfl) (by decide +kernel) h0 bel (fun x hx => (by cases hx))
  have t1 := Below.trod laidOut (by kernel_rfl) (by decide +kernel) h1 bel (fun x hx => (by cases hx))
  exact ⟨_, rfl, _, _, _, [], _, [], hW', trodAll_mk1 (shut_bool Try.underlying4 _), (trodAll_cons_mk t0 (trodAll_cons_mk t1 trodAll_mk0)), rfl, bel.frame _, fun h => (by cases h)⟩
theorem over : Rows.fnExactValidHurdleRow.holds Try.pinned (OpenSpec.ofChange Rows.fnExactValidHurdleSpec) :=
  OpenClaim.holds_of_wide 3 Try.f3 rfl rfl rfl rfl rfl rfl rfl ⟨rfl, rfl, rfl, rfl, rfl⟩ rfl rfl rfl rfl rfl (by kernel_rfl) Try.func3 (by kernel_rfl)
    (of_decide_eq_true (by kernel_rfl)) (by unfold Func.isWrapper; first | (rw [if_pos (by decide +kernel)]; kernel_rfl) | (rw [if_neg (by decide +kernel)]; exact ⟨rfl, rfl⟩))
    (fun os started H enc _ => lifted os started H enc)
end Go.Proofs.Ytlnilfnbfbbckaa.fnExactValidHurdle
namespace Go.Proofs.Ytlnilfnbfbbckaa
theorem fnExactValidHurdle_holds : Rows.FnExactValidHurdleSaid := fnExactValidHurdle.over
#print axioms fnExactValidHurdle_holds
end Go.Proofs.Ytlnilfnbfbbckaa

