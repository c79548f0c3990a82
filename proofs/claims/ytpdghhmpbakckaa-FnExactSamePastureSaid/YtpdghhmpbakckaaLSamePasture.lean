/- The row SamePasture. -/
import Derived.Test.YtpdghhmpbakckaaConv
namespace Go.Proofs.Ytpdghhmpbakckaa
open Go Go.Eng

def eqS (σ : Sg) : Fun
  | [.ag τ xs, .ag τ' ys], [] => if τ = σ ∧ τ' = σ then some (.b (decide (xs = ys)), []) else .none
  | _, _ => .none

theorem eqS_inv {σ : Sg} {args : List AV} {M M' : List Blk} {r : AV} (h : eqS σ args M = some (r, M')) : ∃ xs ys, args = [.ag σ xs, .ag σ ys] ∧ M = [] ∧ r = .b (decide (xs = ys)) ∧ M' = [] := by
  unfold eqS at h
  split at h
  · split at h
    · rename_i hc; cases h; obtain ⟨rfl, rfl⟩ := hc; exact ⟨_, _, rfl, rfl, rfl, rfl⟩
    · cases h
  · cases h

theorem s_specSamePasture : Sound Try.prog 15 (eqS .pas) := by
  intro args M r M' h
  obtain ⟨xs, ys, rfl, rfl, rfl, rfl⟩ := eqS_inv h
  refine SpecOK.of_goes [] Try.func15 rfl ?_
  refine Goes.run Γ_ok TbOk.nil 100 false [] rfl trivial ?_
  refine Goes.ret Γ_ok Try.func15 rfl rfl ?_
  exact ⟨rfl, Nat.le_refl _, rfl, rfl, rfl, trivial, rfl, rfl⟩

theorem s_implSamePasture : Sound Try.prog 17 (eqS .pas) := by
  intro args M r M' h
  obtain ⟨xs, ys, rfl, rfl, rfl, rfl⟩ := eqS_inv h
  refine SpecOK.of_goes [] Try.func17 rfl ?_
  refine Goes.run Γ_ok TbOk.nil 100 false [] rfl trivial ?_
  refine Goes.ret Γ_ok Try.func17 rfl rfl ?_
  exact ⟨rfl, Nat.le_refl _, rfl, rfl, rfl, trivial, rfl, rfl⟩

theorem l_SamePasture (xs ys : List Int) : SpecOK Try.prog 3 [.ag .pas xs, .ag .pas ys] [] (.d true) [] := by
  refine SpecOK.of_goes [] Try.func3 rfl ?_
  have htb := TbOk.cons s_specSamePasture Try.func15 rfl rfl (TbOk.cons s_implSamePasture Try.func17 rfl rfl (TbOk.cons s_toPasture Try.func16 rfl rfl TbOk.nil))
  refine Goes.run Γ_ok htb 100 false [false] rfl ?_ ?_
  · repeat' (first | exact trivial | rfl | apply And.intro)
    simp
  refine Goes.ret Γ_ok Try.func3 rfl rfl ?_
  exact ⟨rfl, Nat.le_refl _, rfl, rfl, rfl, trivial, rfl, rfl⟩
end Go.Proofs.Ytpdghhmpbakckaa

namespace Go.Proofs.Ytpdghhmpbakckaa.fnExactSamePasture
open Go Go.Eng Go.ChangeShapes Go.WideShapes Go.ChangeAt Go.RowKit
set_option linter.unusedVariables false
theorem own : ownKnob Try.prog.godebug = none := by kernel_rfl
theorem laidOut : laidOutB Try.prog = true := by kernel_rfl
set_option maxRecDepth 100000 in
theorem lifted (os : Os) (started : os.Started) (H : Type) (enc : TypeId × Value → H) :
    ReturnsInHanded {} Try.checked os 3 .any (Rows.fnExactSamePastureSpec.pre6 enc Try.prog Try.f3 Rows.fnExactSamePastureRow.domain false) (Rows.fnExactSamePastureSpec.post enc Try.prog Try.f3 false true false false) := by
  refine returnsInHanded_of_change_sized (C := Try.checked) own started (by kernel_rfl) Try.func3
    (ChangeSpec.witness6 (enc := enc) (C := Try.checked) false ⟨#[], #[zeroV .pas, zeroV .pas], []⟩ 8 (by kernel_rfl) (by kernel_rfl) (by kernel_rfl) (by kernel_rfl)) ?_
  intro W base args ds gs before hval0 hW hcnd hsz0 _
  have hval : ∀ (j : Nat) t v, Try.f3.params[j]? = some t → args[j]? = some v → Value.okWide Try.prog W .any base t v := hval0
  have hW' := hW
  obtain ⟨p, q, hA0, hV, rfl, hfz, hnd⟩ := hW
  have hA : DataW.TrodAll enc Try.prog W 0 (fun _ => true) true Try.f3.params.toList args.toList ds p := hA0
  rw [Try.params3] at hA hval
  obtain ⟨v0, vs0, d0, ds0, p0, q0, hargs, rfl, rfl, h0, r0⟩ := trodAll_cons hA
  obtain ⟨v1, vs1, d1, ds1, p1, q1, rfl, rfl, rfl, h1, r1⟩ := trodAll_cons r0
  obtain ⟨rfl, rfl, rfl⟩ := trodAll_nil r1
  obtain rfl : args = #[v0, v1] := by cases args; simp_all
  obtain ⟨rfl, rfl⟩ := trodVars_none hV
  obtain ⟨x0, e0, z0, l0, c0⟩ := open_agg Γ_ok (σ := .pas) rfl rfl (by decide) rfl (hval 0 _ v0 rfl rfl) h0
  obtain ⟨x1, e1, z1, l1, c1⟩ := open_agg Γ_ok (σ := .pas) rfl rfl (by decide) rfl (hval 1 _ v1 rfl rfl) h1
  subst z0 z1
  clear hA0 hval0 hsz0
  refine (l_SamePasture x0 x1 (fun _ => ⟨0, 0, 0, .none, 0⟩) [v0, v1] W ⟨⟨e0, l0, c0, rfl⟩, ⟨e1, l1, c1, rfl⟩, trivial⟩ mrel_nil (fun x hx i hi => (by simp at hx; rcases hx with rfl | rfl <;> cases hi))).mono fun e W' ⟨v, ρ', he, hv, hAft, _⟩ => ?_
  subst he
  obtain rfl : v = .bool true := hv
  have bel := hAft.below
  have t0 := Below.trod laidOut (by kernel_rfl) (by decide +kernel) h0 bel (fun x hx => (by cases hx))
  have t1 := Below.trod laidOut (by kernel_rfl) (by decide +kernel) h1 bel (fun x hx => (by cases hx))
  exact ⟨_, rfl, _, _, _, [], _, [], hW', trodAll_mk1 (shut_bool Try.underlying4 _), (trodAll_cons_mk t0 (trodAll_cons_mk t1 trodAll_mk0)), rfl, bel.frame _, fun h => (by cases h)⟩
theorem over : Rows.fnExactSamePastureRow.holds Try.pinned (OpenSpec.ofChange Rows.fnExactSamePastureSpec) :=
  OpenClaim.holds_of_wide 3 Try.f3 rfl rfl rfl rfl rfl rfl rfl ⟨rfl, rfl, rfl, rfl, rfl⟩ rfl rfl rfl rfl rfl (by kernel_rfl) Try.func3 (by kernel_rfl)
    (of_decide_eq_true (by kernel_rfl)) (by unfold Func.isWrapper; first | (rw [if_pos (by decide +kernel)]; kernel_rfl) | (rw [if_neg (by decide +kernel)]; exact ⟨rfl, rfl⟩))
    (fun os started H enc _ => lifted os started H enc)
end Go.Proofs.Ytpdghhmpbakckaa.fnExactSamePasture
namespace Go.Proofs.Ytpdghhmpbakckaa
theorem fnExactSamePasture_holds : Rows.FnExactSamePastureSaid := fnExactSamePasture.over
#print axioms fnExactSamePasture_holds
end Go.Proofs.Ytpdghhmpbakckaa
