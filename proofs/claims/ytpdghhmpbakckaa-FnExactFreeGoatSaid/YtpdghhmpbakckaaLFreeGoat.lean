/- The row FreeGoat: the spec and the program make the same free goat. -/
import Derived.Test.YtpdghhmpbakckaaEqs
import Derived.Test.YtpdghhmpbakckaaGrowth
namespace Go.Proofs.Ytpdghhmpbakckaa
open Go Go.Eng
set_option maxRecDepth 100000

def freeOk (eats likes : Int) : Prop := (0 ≤ eats ∧ eats ≤ 100) ∧ 0 ≤ likes ∧ likes ≤ 1
instance (eats likes : Int) : Decidable (freeOk eats likes) := by unfold freeOk; infer_instance

def freeS : Fun
  | [.ag .spot xs, .i .i64 eats, .i .i64 likes], [] => some (.t2 (.ag .goat (if freeOk eats likes then [xs.getD 0 0, xs.getD 1 0, 0, 0, -1, eats, likes] else List.replicate 7 0)) (.i .i64 (if freeOk eats likes then 0 else 2)), [], [])
  | _, _ => .none

theorem s_specFreeGoat : Sound Try.prog 21 freeS := by
  intro args M r M' vs h hvs
  unfold freeS at h
  split at h
  · rename_i xs eats likes
    cases h
    refine SpecOK.assume fun hA hM => ?_
    have hl : xs.length = 2 := hA.1
    have htb := TbOk.cons s_l00In Try.func54 rfl rfl TbOk.nil
    refine SpecOK.of_goes [] Try.func21 rfl ?_
    by_cases h1 : 0 ≤ eats ∧ eats ≤ 100
    · by_cases h2 : 0 ≤ likes ∧ likes ≤ 1
      · refine Goes.run Γ_ok htb 100 false [false, false, false] rfl ?_ ?_
        · simp only [allP, h1, h2, decide_true, Bool.not_true, and_true, true_and, rng, lo, hi, and_self]; omega
        refine Goes.ret Γ_ok Try.func21 rfl rfl ?_
        refine ⟨rfl, Nat.le_refl _, rfl, rfl, ?_, trivial, rfl, rfl⟩
        rw [if_pos ⟨h1, h2⟩, if_pos ⟨h1, h2⟩]
        match xs, hl with
        | [a, b], _ => exact sameA_refl _
      · refine Goes.run Γ_ok htb 100 false [false, true, true] rfl (by simp only [allP, h1, h2, decide_true, decide_false, Bool.not_true, Bool.not_false, and_self]) ?_
        refine Goes.ret Γ_ok Try.func21 rfl rfl ?_
        refine ⟨rfl, Nat.le_refl _, rfl, rfl, ?_, trivial, rfl, rfl⟩
        rw [if_neg (fun h => h2 h.2), if_neg (fun h => h2 h.2)]; exact sameA_refl _
    · refine Goes.run Γ_ok htb 100 false [true, true] rfl (by simp only [allP, h1, decide_true, decide_false, Bool.not_true, Bool.not_false, and_self]) ?_
      refine Goes.ret Γ_ok Try.func21 rfl rfl ?_
      refine ⟨rfl, Nat.le_refl _, rfl, rfl, ?_, trivial, rfl, rfl⟩
      rw [if_neg (fun h => h1 h.1), if_neg (fun h => h1 h.1)]; exact sameA_refl _
  · cases h

theorem s_implFreeGoat : Sound Try.prog 23 freeS := by
  intro args M r M' vs h hvs
  unfold freeS at h
  split at h
  · rename_i xs eats likes
    cases h
    refine SpecOK.assume fun hA hM => ?_
    have hl : xs.length = 2 := hA.1
    have htb := TbOk.cons s_within Try.func53 rfl rfl TbOk.nil
    refine SpecOK.of_goes [] Try.func23 rfl ?_
    by_cases h1 : 0 ≤ eats ∧ eats ≤ 100
    · by_cases h2 : 0 ≤ likes ∧ likes ≤ 1
      · refine Goes.run Γ_ok htb 100 false [false, false, false] rfl ?_ ?_
        · simp only [allP, h1, h2, decide_true, Bool.not_true, and_true, true_and, rng, lo, hi, and_self]; omega
        refine Goes.ret Γ_ok Try.func23 rfl rfl ?_
        refine ⟨rfl, Nat.le_refl _, rfl, rfl, ?_, trivial, rfl, rfl⟩
        rw [if_pos ⟨h1, h2⟩, if_pos ⟨h1, h2⟩]
        match xs, hl with
        | [a, b], _ => exact sameA_refl _
      · refine Goes.run Γ_ok htb 100 false [false, true, true] rfl (by simp only [allP, h1, h2, decide_true, decide_false, Bool.not_true, Bool.not_false, and_self]) ?_
        refine Goes.ret Γ_ok Try.func23 rfl rfl ?_
        refine ⟨rfl, Nat.le_refl _, rfl, rfl, ?_, trivial, rfl, rfl⟩
        rw [if_neg (fun h => h2 h.2), if_neg (fun h => h2 h.2)]; exact sameA_refl _
    · refine Goes.run Γ_ok htb 100 false [true, true] rfl (by simp only [allP, h1, decide_true, decide_false, Bool.not_true, Bool.not_false, and_self]) ?_
      refine Goes.ret Γ_ok Try.func23 rfl rfl ?_
      refine ⟨rfl, Nat.le_refl _, rfl, rfl, ?_, trivial, rfl, rfl⟩
      rw [if_neg (fun h => h1 h.1), if_neg (fun h => h1 h.1)]; exact sameA_refl _
  · cases h

theorem l_ExactFreeGoat (xs : List Int) (eats likes : Int) : SpecOK Try.prog 5 [.ag .spot xs, .i .i64 eats, .i .i64 likes] [] (.d true) [] := by
  refine SpecOK.of_goes [] Try.func5 rfl ?_
  have htb := TbOk.cons s_specFreeGoat Try.func21 rfl rfl (TbOk.cons s_implFreeGoat Try.func23 rfl rfl (TbOk.cons s_toSpot Try.func22 rfl rfl (TbOk.cons s_eqGoat Try.func24 rfl rfl TbOk.nil)))
  refine Goes.run Γ_ok htb 100 false [false, false] rfl ?_ ?_
  · repeat' (first | exact trivial | rfl | apply And.intro)
    all_goals simp
  refine Goes.ret Γ_ok Try.func5 rfl rfl ?_
  exact ⟨rfl, Nat.le_refl _, rfl, rfl, rfl, trivial, rfl, rfl⟩
end Go.Proofs.Ytpdghhmpbakckaa
namespace Go.Proofs.Ytpdghhmpbakckaa.fnExactFreeGoat
open Go Go.Eng Go.ChangeShapes Go.WideShapes Go.ChangeAt Go.RowKit
theorem own : ownKnob Try.prog.godebug = none := by kernel_rfl
theorem laidOut : laidOutB Try.prog = true := by kernel_rfl
set_option maxRecDepth 100000 in
theorem lifted (os : Os) (started : os.Started) (H : Type) (enc : TypeId × Value → H) :
    ReturnsInHanded {} Try.checked os 5 .any (Rows.fnExactFreeGoatSpec.pre6 enc Try.prog Try.f5 Rows.fnExactFreeGoatRow.domain false) (Rows.fnExactFreeGoatSpec.post enc Try.prog Try.f5 false true false false) := by
  refine returnsInHanded_of_change_sized (C := Try.checked) own started (by kernel_rfl) Try.func5
    (ChangeSpec.witness6 (enc := enc) (C := Try.checked) false ⟨#[], #[zeroV .spot, .int .i64 0, .int .i64 0], []⟩ 8 (by kernel_rfl) (by kernel_rfl) (by kernel_rfl) (by kernel_rfl)) ?_
  intro W base args ds gs before hval0 hW hcnd hsz0 _
  have hval : ∀ (j : Nat) t v, Try.f5.params[j]? = some t → args[j]? = some v → Value.okWide Try.prog W .any base t v := hval0
  have hW' := hW
  obtain ⟨p, q, hA0, hV, rfl, hfz, hnd⟩ := hW
  have hA : DataW.TrodAll enc Try.prog W 0 (fun _ => true) true Try.f5.params.toList args.toList ds p := hA0
  rw [Try.params5] at hA hval
  obtain ⟨v0, vs0, d0, ds0, p0, q0, hargs, rfl, rfl, h0, r0⟩ := trodAll_cons hA
  obtain ⟨v1, vs1, d1, ds1, p1, q1, rfl, rfl, rfl, h1, r1⟩ := trodAll_cons r0
  obtain ⟨v2, vs2, d2, ds2, p2, q2, rfl, rfl, rfl, h2, r2⟩ := trodAll_cons r1
  obtain ⟨rfl, rfl, rfl⟩ := trodAll_nil r2
  obtain rfl : args = #[v0, v1, v2] := by cases args; simp_all
  obtain ⟨rfl, rfl⟩ := trodVars_none hV
  obtain ⟨x0, e0, z0, l0, c0⟩ := open_agg Γ_ok (σ := .spot) rfl rfl (by decide) rfl (hval 0 _ v0 rfl rfl) h0
  obtain ⟨x1, e1, _, z1, w1⟩ := open_int Try.underlying2 (hval 1 _ v1 rfl rfl) h1
  obtain ⟨x2, e2, _, z2, w2⟩ := open_int Try.underlying2 (hval 2 _ v2 rfl rfl) h2
  subst z0 z1 z2
  clear hA0 hval0 hsz0
  refine (l_ExactFreeGoat x0 x1 x2 (fun _ => ⟨0, 0, 0, .none, 0⟩) [v0, v1, v2] W ⟨⟨e0, l0, c0, rfl⟩, ⟨e1, rng_wf w1⟩, ⟨e2, rng_wf w2⟩, trivial⟩ mrel_nil (fun x hx i hi => (by simp at hx; rcases hx with rfl | rfl | rfl <;> cases hi))).mono fun e W' ⟨v, ρ', he, hv, hAft, _⟩ => ?_
  subst he
  obtain rfl : v = .bool true := hv
  have bel := hAft.below
  have t0 := Below.trod laidOut (by kernel_rfl) (by decide +kernel) h0 bel (fun x hx => (by cases hx))
  have t1 := Below.trod laidOut (by kernel_rfl) (by decide +kernel) h1 bel (fun x hx => (by cases hx))
  have t2 := Below.trod laidOut (by kernel_rfl) (by decide +kernel) h2 bel (fun x hx => (by cases hx))
  exact ⟨_, rfl, _, _, _, [], _, [], hW', trodAll_mk1 (shut_bool Try.underlying4 _), (trodAll_cons_mk t0 (trodAll_cons_mk t1 (trodAll_cons_mk t2 trodAll_mk0))), rfl, bel.frame _, fun h => (by cases h)⟩
theorem over : Rows.fnExactFreeGoatRow.holds Try.pinned (OpenSpec.ofChange Rows.fnExactFreeGoatSpec) :=
  OpenClaim.holds_of_wide 5 Try.f5 rfl rfl rfl rfl rfl rfl rfl ⟨rfl, rfl, rfl, rfl, rfl⟩ rfl rfl rfl rfl rfl (by kernel_rfl) Try.func5 (by kernel_rfl)
    (of_decide_eq_true (by kernel_rfl)) (by unfold Func.isWrapper; first | (rw [if_pos (by decide +kernel)]; kernel_rfl) | (rw [if_neg (by decide +kernel)]; exact ⟨rfl, rfl⟩))
    (fun os started H enc _ => lifted os started H enc)
end Go.Proofs.Ytpdghhmpbakckaa.fnExactFreeGoat
namespace Go.Proofs.Ytpdghhmpbakckaa
theorem fnExactFreeGoat_holds : Rows.FnExactFreeGoatSaid := fnExactFreeGoat.over
#print axioms fnExactFreeGoat_holds
end Go.Proofs.Ytpdghhmpbakckaa

