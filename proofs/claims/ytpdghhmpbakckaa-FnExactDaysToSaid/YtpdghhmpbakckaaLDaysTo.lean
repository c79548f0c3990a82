/- The row DaysTo: the spec and the program count alike the days until there is so much grass. -/
import Derived.Test.YtpdghhmpbakckaaGrow2
namespace Go.Proofs.Ytpdghhmpbakckaa
open Go Go.Eng
set_option maxRecDepth 100000

theorem grown_rng {xs : List Int} (h : okG xs) {g : Int} (h0 : 0 ≤ g) (h1 : g ≤ 1000) : 0 ≤ grown xs g ∧ grown xs g ≤ 1000 := by
  have h2 := h.1 (g / 100).toNat (by omega)
  have h3 := h.2
  unfold grown
  split
  · omega
  · split <;> omega

def days (xs : List Int) (to : Int) : Nat → Int → Nat → Int × Int
  | 0, _, _ => (0, 6)
  | n + 1, g, d => if to ≤ g then ((d : Int), 0) else days xs to n (grown xs g) (d + 1)

def daysTo (xs : List Int) (g to : Int) : Int × Int :=
  if okG xs then (if (0 ≤ g ∧ g ≤ 1000) ∧ 0 ≤ to ∧ to ≤ 1000 then days xs to 366 g 0 else (0, 2)) else (0, 1)

def daysToS : Fun
  | [.ag .gro xs, .i .i64 g, .i .i64 to], [] => some (.t2 (.i .i64 (daysTo xs g to).1) (.i .i64 (daysTo xs g to).2), [], [])
  | _, _ => .none

theorem s_specDaysTo : Sound Try.prog 32 daysToS := by
  intro args M r M' vs h hvs
  unfold daysToS at h
  split at h
  · rename_i xs g to
    cases h
    have htb := TbOk.cons s_l04Ok Try.func49 rfl rfl (TbOk.cons s_l01Grass Try.func58 rfl rfl (TbOk.cons s_l04Cell Try.func59 rfl rfl TbOk.nil))
    refine SpecOK.of_goes [] Try.func32 rfl ?_
    by_cases h1 : okG xs
    · by_cases h2 : 0 ≤ g ∧ g ≤ 1000
      · by_cases h3 : 0 ≤ to ∧ to ≤ 1000
        · refine Goes.run Γ_ok htb 100 false [false, false, false] rfl (by simp [allP, h1, h2, h3]) ?_
          have hall : daysTo xs g to = days xs to 366 g 0 := by unfold daysTo; rw [if_pos h1, if_pos ⟨h2, h3⟩]
          refine Goes.loop0 (fun i : Nat × Int => 366 - i.1) (fun i => i.1 ≤ 366 ∧ (0 ≤ i.2 ∧ i.2 ≤ 1000) ∧ daysTo xs g to = days xs to (366 - i.1) i.2 i.1)
            (fun i => frOf 29 [(1, .i .i64 i.2), (2, .i .i64 to), (3, .pw 0 .gro), (8, .i .i64 (i.1:Int))])
            (fun i => [.c .gro xs]) (0, g) ⟨by omega, h2, hall⟩ (by repeat' (first | exact trivial | rfl | apply And.intro)) (by repeat' (first | exact trivial | rfl | apply And.intro)) fun ⟨d, f⟩ ⟨hd, hf, hall⟩ ih => ?_
          dsimp only at hd hf hall ⊢
          by_cases hlt : d < 366
          · have hstep : days xs to (366 - d) f d = if to ≤ f then ((d : Int), 0) else days xs to (366 - (d + 1)) (grown xs f) (d + 1) := by
              rw [show 366 - d = (366 - (d + 1)) + 1 from by omega]; rfl
            by_cases h4 : to ≤ f
            · refine Goes.run Γ_ok htb 100 false [true, true] rfl (by simp only [allP, decide_eq_true_eq, decide_eq_false_iff_not, Bool.not_eq_true', Bool.not_eq_false', and_true] <;> (try simp only [rng, lo, hi, Int.toNat_natCast, Sg.n, Nat.mul_one, Nat.zero_add, Nat.add_zero]) <;> omega) ?_
              refine Goes.ret Γ_ok Try.func32 rfl rfl ?_
              refine ⟨rfl, Nat.le_refl _, rfl, rfl, ?_, trivial, rfl, rfl⟩
              rw [hall, hstep, if_pos h4]; exact sameA_refl _
            · refine Goes.run Γ_ok htb 100 false [true, false] rfl (by simp only [allP, decide_eq_true_eq, decide_eq_false_iff_not, Bool.not_eq_true', Bool.not_eq_false', and_true] <;> (try simp only [rng, lo, hi, Int.toNat_natCast, Sg.n, Nat.mul_one, Nat.zero_add, Nat.add_zero]) <;> omega) ?_
              exact ih (d + 1, grown xs f) ⟨by dsimp only; omega, grown_rng h1 hf.1 hf.2, by dsimp only; rw [hall, hstep, if_neg h4]⟩ (by dsimp only; omega) _ _ (by repeat' (first | exact trivial | rfl | apply And.intro)) (by repeat' (first | exact trivial | rfl | apply And.intro))
          · refine Goes.run Γ_ok htb 100 false [false] rfl (by simp only [allP, decide_eq_true_eq, decide_eq_false_iff_not, Bool.not_eq_true', Bool.not_eq_false', and_true] <;> (try simp only [rng, lo, hi, Int.toNat_natCast, Sg.n, Nat.mul_one, Nat.zero_add, Nat.add_zero]) <;> omega) ?_
            refine Goes.ret Γ_ok Try.func32 rfl rfl ?_
            refine ⟨rfl, Nat.le_refl _, rfl, rfl, ?_, trivial, rfl, rfl⟩
            rw [hall, show 366 - d = 0 from by omega]; exact sameA_refl _
        · refine Goes.run Γ_ok htb 100 false [false, false, true] rfl (by simp only [allP, h1, h2, h3, decide_true, decide_false, Bool.not_true, Bool.not_false, and_self]) ?_
          refine Goes.ret Γ_ok Try.func32 rfl rfl ?_
          refine ⟨rfl, Nat.le_refl _, rfl, rfl, ?_, trivial, rfl, rfl⟩
          have e : daysTo xs g to = (0, 2) := by unfold daysTo; rw [if_pos h1, if_neg (fun h => h3 h.2)]
          rw [e]; exact sameA_refl _
      · refine Goes.run Γ_ok htb 100 false [false, true, true] rfl (by simp only [allP, h1, h2, decide_true, decide_false, Bool.not_true, Bool.not_false, and_self]) ?_
        refine Goes.ret Γ_ok Try.func32 rfl rfl ?_
        refine ⟨rfl, Nat.le_refl _, rfl, rfl, ?_, trivial, rfl, rfl⟩
        have e : daysTo xs g to = (0, 2) := by unfold daysTo; rw [if_pos h1, if_neg (fun h => h2 h.1)]
        rw [e]; exact sameA_refl _
    · refine Goes.run Γ_ok htb 100 false [true] rfl (by simp [allP, h1]) ?_
      refine Goes.ret Γ_ok Try.func32 rfl rfl ?_
      refine ⟨rfl, Nat.le_refl _, rfl, rfl, ?_, trivial, rfl, rfl⟩
      have e : daysTo xs g to = (0, 1) := by unfold daysTo; rw [if_neg h1]
      rw [e]; exact sameA_refl _
  · cases h

theorem s_implDaysTo : Sound Try.prog 33 daysToS := by
  intro args M r M' vs h hvs
  unfold daysToS at h
  split at h
  · rename_i xs g to
    cases h
    have htb := TbOk.cons s_implValidGrowth Try.func20 rfl rfl (TbOk.cons s_within Try.func53 rfl rfl (TbOk.cons s_grown Try.func60 rfl rfl TbOk.nil))
    refine SpecOK.of_goes [] Try.func33 rfl ?_
    by_cases h1 : okG xs
    · by_cases h2 : 0 ≤ g ∧ g ≤ 1000
      · by_cases h3 : 0 ≤ to ∧ to ≤ 1000
        · refine Goes.run Γ_ok htb 100 false [false, false, false] rfl (by simp [allP, h1, h2, h3]) ?_
          have hall : daysTo xs g to = days xs to 366 g 0 := by unfold daysTo; rw [if_pos h1, if_pos ⟨h2, h3⟩]
          refine Goes.loop0 (fun i : Nat × Int => 366 - i.1) (fun i => i.1 ≤ 366 ∧ (0 ≤ i.2 ∧ i.2 ≤ 1000) ∧ daysTo xs g to = days xs to (366 - i.1) i.2 i.1)
            (fun i => frOf 33 [(1, .i .i64 i.2), (2, .i .i64 to), (3, .pw 0 .gro), (22, .i .i64 (i.1:Int))])
            (fun i => [.c .gro xs]) (0, g) ⟨by omega, h2, hall⟩ (by repeat' (first | exact trivial | rfl | apply And.intro)) (by repeat' (first | exact trivial | rfl | apply And.intro)) fun ⟨d, f⟩ ⟨hd, hf, hall⟩ ih => ?_
          dsimp only at hd hf hall ⊢
          by_cases hlt : d < 366
          · have hstep : days xs to (366 - d) f d = if to ≤ f then ((d : Int), 0) else days xs to (366 - (d + 1)) (grown xs f) (d + 1) := by
              rw [show 366 - d = (366 - (d + 1)) + 1 from by omega]; rfl
            by_cases h4 : to ≤ f
            · refine Goes.run Γ_ok htb 100 false [true, true] rfl (by simp only [allP, decide_eq_true_eq, decide_eq_false_iff_not, Bool.not_eq_true', Bool.not_eq_false', and_true] <;> (try simp only [rng, lo, hi, Int.toNat_natCast, Sg.n, Nat.mul_one, Nat.zero_add, Nat.add_zero]) <;> omega) ?_
              refine Goes.ret Γ_ok Try.func33 rfl rfl ?_
              refine ⟨rfl, Nat.le_refl _, rfl, rfl, ?_, trivial, rfl, rfl⟩
              rw [hall, hstep, if_pos h4]; exact sameA_refl _
            · refine Goes.run Γ_ok htb 100 false [true, false] rfl (by simp only [allP, decide_eq_true_eq, decide_eq_false_iff_not, Bool.not_eq_true', Bool.not_eq_false', and_true] <;> (try simp only [rng, lo, hi, Int.toNat_natCast, Sg.n, Nat.mul_one, Nat.zero_add, Nat.add_zero]) <;> omega) ?_
              exact ih (d + 1, grown xs f) ⟨by dsimp only; omega, grown_rng h1 hf.1 hf.2, by dsimp only; rw [hall, hstep, if_neg h4]⟩ (by dsimp only; omega) _ _ (by repeat' (first | exact trivial | rfl | apply And.intro)) (by repeat' (first | exact trivial | rfl | apply And.intro))
          · refine Goes.run Γ_ok htb 100 false [false] rfl (by simp only [allP, decide_eq_true_eq, decide_eq_false_iff_not, Bool.not_eq_true', Bool.not_eq_false', and_true] <;> (try simp only [rng, lo, hi, Int.toNat_natCast, Sg.n, Nat.mul_one, Nat.zero_add, Nat.add_zero]) <;> omega) ?_
            refine Goes.ret Γ_ok Try.func33 rfl rfl ?_
            refine ⟨rfl, Nat.le_refl _, rfl, rfl, ?_, trivial, rfl, rfl⟩
            rw [hall, show 366 - d = 0 from by omega]; exact sameA_refl _
        · refine Goes.run Γ_ok htb 100 false [false, false, true] rfl (by simp only [allP, h1, h2, h3, decide_true, decide_false, Bool.not_true, Bool.not_false, and_self]) ?_
          refine Goes.ret Γ_ok Try.func33 rfl rfl ?_
          refine ⟨rfl, Nat.le_refl _, rfl, rfl, ?_, trivial, rfl, rfl⟩
          have e : daysTo xs g to = (0, 2) := by unfold daysTo; rw [if_pos h1, if_neg (fun h => h3 h.2)]
          rw [e]; exact sameA_refl _
      · refine Goes.run Γ_ok htb 100 false [false, true, true] rfl (by simp only [allP, h1, h2, decide_true, decide_false, Bool.not_true, Bool.not_false, and_self]) ?_
        refine Goes.ret Γ_ok Try.func33 rfl rfl ?_
        refine ⟨rfl, Nat.le_refl _, rfl, rfl, ?_, trivial, rfl, rfl⟩
        have e : daysTo xs g to = (0, 2) := by unfold daysTo; rw [if_pos h1, if_neg (fun h => h2 h.1)]
        rw [e]; exact sameA_refl _
    · refine Goes.run Γ_ok htb 100 false [true] rfl (by simp [allP, h1]) ?_
      refine Goes.ret Γ_ok Try.func33 rfl rfl ?_
      refine ⟨rfl, Nat.le_refl _, rfl, rfl, ?_, trivial, rfl, rfl⟩
      have e : daysTo xs g to = (0, 1) := by unfold daysTo; rw [if_neg h1]
      rw [e]; exact sameA_refl _
  · cases h

theorem l_ExactDaysTo (xs : List Int) (g to : Int) : SpecOK Try.prog 9 [.ag .gro xs, .i .i64 g, .i .i64 to] [] (.d true) [] := by
  refine SpecOK.of_goes [] Try.func9 rfl ?_
  have htb := TbOk.cons s_specDaysTo Try.func32 rfl rfl (TbOk.cons s_implDaysTo Try.func33 rfl rfl (TbOk.cons s_toGrowth Try.func19 rfl rfl TbOk.nil))
  refine Goes.run Γ_ok htb 100 false [false, false] rfl ?_ ?_
  · repeat' (first | exact trivial | rfl | apply And.intro)
    all_goals simp
  refine Goes.ret Γ_ok Try.func9 rfl rfl ?_
  exact ⟨rfl, Nat.le_refl _, rfl, rfl, rfl, trivial, rfl, rfl⟩
end Go.Proofs.Ytpdghhmpbakckaa
namespace Go.Proofs.Ytpdghhmpbakckaa.fnExactDaysTo
open Go Go.Eng Go.ChangeShapes Go.WideShapes Go.ChangeAt Go.RowKit
theorem own : ownKnob Try.prog.godebug = none := by kernel_rfl
theorem laidOut : laidOutB Try.prog = true := by kernel_rfl
set_option maxRecDepth 100000 in
theorem lifted (os : Os) (started : os.Started) (H : Type) (enc : TypeId × Value → H) :
    ReturnsInHanded {} Try.checked os 9 .any (Rows.fnExactDaysToSpec.pre6 enc Try.prog Try.f9 Rows.fnExactDaysToRow.domain false) (Rows.fnExactDaysToSpec.post enc Try.prog Try.f9 false true false false) := by
  refine returnsInHanded_of_change_sized (C := Try.checked) own started (by kernel_rfl) Try.func9
    (ChangeSpec.witness6 (enc := enc) (C := Try.checked) false ⟨#[], #[zeroV .gro, .int .i64 0, .int .i64 0], []⟩ 8 (by kernel_rfl) (by kernel_rfl) (by kernel_rfl) (by kernel_rfl)) ?_
  intro W base args ds gs before hval0 hW hcnd hsz0 _
  have hval : ∀ (j : Nat) t v, Try.f9.params[j]? = some t → args[j]? = some v → Value.okWide Try.prog W .any base t v := hval0
  have hW' := hW
  obtain ⟨p, q, hA0, hV, rfl, hfz, hnd⟩ := hW
  have hA : DataW.TrodAll enc Try.prog W 0 (fun _ => true) true Try.f9.params.toList args.toList ds p := hA0
  rw [Try.params9] at hA hval
  obtain ⟨v0, vs0, d0, ds0, p0, q0, hargs, rfl, rfl, h0, r0⟩ := trodAll_cons hA
  obtain ⟨v1, vs1, d1, ds1, p1, q1, rfl, rfl, rfl, h1, r1⟩ := trodAll_cons r0
  obtain ⟨v2, vs2, d2, ds2, p2, q2, rfl, rfl, rfl, h2, r2⟩ := trodAll_cons r1
  obtain ⟨rfl, rfl, rfl⟩ := trodAll_nil r2
  obtain rfl : args = #[v0, v1, v2] := by cases args; simp_all
  obtain ⟨rfl, rfl⟩ := trodVars_none hV
  obtain ⟨x0, e0, z0, l0, c0⟩ := open_agg Γ_ok (σ := .gro) rfl rfl (by decide) rfl (hval 0 _ v0 rfl rfl) h0
  obtain ⟨x1, e1, _, z1, w1⟩ := open_int Try.underlying2 (hval 1 _ v1 rfl rfl) h1
  obtain ⟨x2, e2, _, z2, w2⟩ := open_int Try.underlying2 (hval 2 _ v2 rfl rfl) h2
  subst z0 z1 z2
  clear hA0 hval0 hsz0
  refine (l_ExactDaysTo x0 x1 x2 (fun _ => ⟨0, 0, 0, .none, 0⟩) [v0, v1, v2] W ⟨⟨e0, l0, c0, rfl⟩, ⟨e1, rng_wf w1⟩, ⟨e2, rng_wf w2⟩, trivial⟩ mrel_nil (fun x hx i hi => (by simp at hx; rcases hx with rfl | rfl | rfl <;> cases hi))).mono fun e W' ⟨v, ρ', he, hv, hAft, _⟩ => ?_
  subst he
  obtain rfl : v = .bool true := hv
  have bel := hAft.below
  have t0 := Below.trod laidOut (by kernel_rfl) (by decide +kernel) h0 bel (fun x hx => (by cases hx))
  have t1 := Below.trod laidOut (by kernel_rfl) (by decide +kernel) h1 bel (fun x hx => (by cases hx))
  have t2 := Below.trod laidOut (by kernel_rfl) (by decide +kernel) h2 bel (fun x hx => (by cases hx))
  exact ⟨_, rfl, _, _, _, [], _, [], hW', trodAll_mk1 (shut_bool Try.underlying4 _), (trodAll_cons_mk t0 (trodAll_cons_mk t1 (trodAll_cons_mk t2 trodAll_mk0))), rfl, bel.frame _, fun h => (by cases h)⟩
theorem over : Rows.fnExactDaysToRow.holds Try.pinned (OpenSpec.ofChange Rows.fnExactDaysToSpec) :=
  OpenClaim.holds_of_wide 9 Try.f9 rfl rfl rfl rfl rfl rfl rfl ⟨rfl, rfl, rfl, rfl, rfl⟩ rfl rfl rfl rfl rfl (by kernel_rfl) Try.func9 (by kernel_rfl)
    (of_decide_eq_true (by kernel_rfl)) (by unfold Func.isWrapper; first | (rw [if_pos (by decide +kernel)]; kernel_rfl) | (rw [if_neg (by decide +kernel)]; exact ⟨rfl, rfl⟩))
    (fun os started H enc _ => lifted os started H enc)
end Go.Proofs.Ytpdghhmpbakckaa.fnExactDaysTo
namespace Go.Proofs.Ytpdghhmpbakckaa
theorem fnExactDaysTo_holds : Rows.FnExactDaysToSaid := fnExactDaysTo.over
#print axioms fnExactDaysTo_holds
end Go.Proofs.Ytpdghhmpbakckaa

