/- The row GrowCell: the spec and the program say alike how much grass a cell has a day later. -/
import Derived.Test.YtpdghhmpbakckaaGrow2
namespace Go.Proofs.Ytpdghhmpbakckaa
open Go Go.Eng
set_option maxRecDepth 100000 in
theorem l_ExactGrowCell (xs : List Int) (g : Int) : SpecOK Try.prog 7 [.ag .gro xs, .i .i64 g] [] (.d true) [] := by
  refine SpecOK.of_goes [] Try.func7 rfl ?_
  have htb := TbOk.cons s_specGrowCell Try.func27 rfl rfl (TbOk.cons s_implGrowCell Try.func28 rfl rfl (TbOk.cons s_toGrowth Try.func19 rfl rfl TbOk.nil))
  refine Goes.run Γ_ok htb 100 false [false, false] rfl ?_ ?_
  · repeat' (first | exact trivial | rfl | apply And.intro)
    all_goals simp
  refine Goes.ret Γ_ok Try.func7 rfl rfl ?_
  exact ⟨rfl, Nat.le_refl _, rfl, rfl, rfl, trivial, rfl, rfl⟩
end Go.Proofs.Ytpdghhmpbakckaa
namespace Go.Proofs.Ytpdghhmpbakckaa.fnExactGrowCell
open Go Go.Eng Go.ChangeShapes Go.WideShapes Go.ChangeAt Go.RowKit
theorem own : ownKnob Try.prog.godebug = none := by kernel_rfl
theorem laidOut : laidOutB Try.prog = true := by kernel_rfl
set_option maxRecDepth 100000 in
theorem lifted (os : Os) (started : os.Started) (H : Type) (enc : TypeId × Value → H) :
    ReturnsInHanded {} Try.checked os 7 .any (Rows.fnExactGrowCellSpec.pre6 enc Try.prog Try.f7 Rows.fnExactGrowCellRow.domain false) (Rows.fnExactGrowCellSpec.post enc Try.prog Try.f7 false true false false) := by
  refine returnsInHanded_of_change_sized (C := Try.checked) own started (by kernel_rfl) Try.func7
    (ChangeSpec.witness6 (enc := enc) (C := Try.checked) false ⟨#[], #[zeroV .gro, .int .i64 0], []⟩ 8 (by kernel_rfl) (by kernel_rfl) (by kernel_rfl) (by kernel_rfl)) ?_
  intro W base args ds gs before hval0 hW hcnd hsz0 _
  have hval : ∀ (j : Nat) t v, Try.f7.params[j]? = some t → args[j]? = some v → Value.okWide Try.prog W .any base t v := hval0
  have hW' := hW
  obtain ⟨p, q, hA0, hV, rfl, hfz, hnd⟩ := hW
  have hA : DataW.TrodAll enc Try.prog W 0 (fun _ => true) true Try.f7.params.toList args.toList ds p := hA0
  rw [Try.params7] at hA hval
  obtain ⟨v0, vs0, d0, ds0, p0, q0, hargs, rfl, rfl, h0, r0⟩ := trodAll_cons hA
  obtain ⟨v1, vs1, d1, ds1, p1, q1, rfl, rfl, rfl, h1, r1⟩ := trodAll_cons r0
  obtain ⟨rfl, rfl, rfl⟩ := trodAll_nil r1
  obtain rfl : args = #[v0, v1] := by cases args; simp_all
  obtain ⟨rfl, rfl⟩ := trodVars_none hV
  obtain ⟨x0, e0, z0, l0, c0⟩ := open_agg Γ_ok (σ := .gro) rfl rfl (by decide) rfl (hval 0 _ v0 rfl rfl) h0
  obtain ⟨x1, e1, _, z1, w1⟩ := open_int Try.underlying2 (hval 1 _ v1 rfl rfl) h1
  subst z0 z1
  clear hA0 hval0 hsz0
  refine (l_ExactGrowCell x0 x1 (fun _ => ⟨0, 0, 0, .none, 0⟩) [v0, v1] W ⟨⟨e0, l0, c0, rfl⟩, ⟨e1, rng_wf w1⟩, trivial⟩ mrel_nil (fun x hx i hi => (by simp at hx; rcases hx with rfl | rfl <;> cases hi))).mono fun e W' ⟨v, ρ', he, hv, hAft, _⟩ => ?_
  subst he
  obtain rfl : v = .bool true := hv
  have bel := hAft.below
  have t0 := Below.trod laidOut (by kernel_rfl) (by decide +kernel) h0 bel (fun x hx => (by cases hx))
  have t1 := Below.trod laidOut (by kernel_rfl) (by decide +kernel) h1 bel (fun x hx => (by cases hx))
  exact ⟨_, rfl, _, _, _, [], _, [], hW', trodAll_mk1 (shut_bool Try.underlying4 _), (trodAll_cons_mk t0 (trodAll_cons_mk t1 trodAll_mk0)), rfl, bel.frame _, fun h => (by cases h)⟩
theorem over : Rows.fnExactGrowCellRow.holds Try.pinned (OpenSpec.ofChange Rows.fnExactGrowCellSpec) :=
  OpenClaim.holds_of_wide 7 Try.f7 rfl rfl rfl rfl rfl rfl rfl ⟨rfl, rfl, rfl, rfl, rfl⟩ rfl rfl rfl rfl rfl (by kernel_rfl) Try.func7 (by kernel_rfl)
    (of_decide_eq_true (by kernel_rfl)) (by unfold Func.isWrapper; first | (rw [if_pos (by decide +kernel)]; kernel_rfl) | (rw [if_neg (by decide +kernel)]; exact ⟨rfl, rfl⟩))
    (fun os started H enc _ => lifted os started H enc)
end Go.Proofs.Ytpdghhmpbakckaa.fnExactGrowCell
namespace Go.Proofs.Ytpdghhmpbakckaa
theorem fnExactGrowCell_holds : Rows.FnExactGrowCellSaid := fnExactGrowCell.over
#print axioms fnExactGrowCell_holds
end Go.Proofs.Ytpdghhmpbakckaa

