/- The row GrazeYard: the spec and the program graze a yard alike. -/
import Derived.Test.YtfelemoefhbphaaYard2
import Derived.Test.YtfelemoefhbphaaGraze
import Derived.Test.YtfelemoefhbphaaEqs
namespace Go.Proofs.Ytfelemoefhbphaa
open Go Go.Eng
set_option linter.unusedSimpArgs false
set_option linter.unusedVariables false
set_option maxRecDepth 100000
set_option maxHeartbeats 4000000

def grzC (p s : List Int) (l : Int) : Int := boundC p s (0 ≤ l ∧ l ≤ 100000)
noncomputable def grzYP (p s : List Int) (l : Int) : List Int := if grzC p s l = 0 then (grzK p (yardR p s) l (yardR p s).length).1 else List.replicate 122 0
noncomputable def grzYV (p s : List Int) (l : Int) : Int := if grzC p s l = 0 then (grzK p (yardR p s) l (yardR p s).length).2 else 0
noncomputable def grzYS : Fun
  | [.ag .pas p, .ag .spot s, .i .i64 l], [] => some (.t3 (.ag .pas (grzYP p s l)) (.i .i64 (grzYV p s l)) (.i .i64 (grzC p s l)), [], [])
  | _, _ => .none
theorem grz_facts {p s : List Int} {l : Int} (hl : p.length = 122) (h : grzC p s l = 0) : okD p ∧ isP p s = true ∧ grzOk p (yardR p s) l := by
  obtain ⟨h1, h2, h3, h4⟩ := boundC_ok h
  exact ⟨h1.1, h2, GR.of hl h1, fun s hs => (yardR_cells h1.1 s hs).1, h3, h4, by have := yardR_100 (s := s) h1.1; omega⟩

set_option maxRecDepth 100000 in
theorem s_specGrazeYard : Sound Try.prog 30 grzYS := by
  intro args M r M' vs h hvs
  unfold grzYS at h
  split at h
  case h_2 => cases h
  rename_i p s l
  cases h
  refine SpecOK.assume fun hA hM => ?_
  have htb := (TbOk.cons s_l01Asked Try.func54 rfl rfl (TbOk.cons s_l04Eats Try.func72 rfl rfl (TbOk.cons s_l01Yard Try.func55 rfl rfl (TbOk.cons s_l04Graze Try.func73 rfl rfl (TbOk.nil : TbOk Try.prog tb0)))))
  refine SpecOK.of_goes [] Try.func30 rfl ?_
  have hlen : p.length = 122 := hA.1
  have hok := fun h => grz_facts (p := p) (s := s) (l := l) hlen h
  have heq := boundC_eq p s (0 ≤ l ∧ l ≤ 100000)
  have hc : grzC p s l = boundC p s (0 ≤ l ∧ l ≤ 100000) := rfl
  clear hA hM
  refine Goes.tree Γ_ok htb 1000 false false Try.func30 rfl ?_
  ((try simp only [decide_eq_true_eq, decide_eq_false_iff_not, Bool.not_eq_true', Bool.not_eq_false', Bool.not_true, Bool.not_false, Bool.and_eq_true, Bool.or_eq_true, bne_iff_ne, beq_iff_eq, ne_eq]); (try simp only [rng, lo, hi, mnI, mxI, Int.toNat_natCast, Sg.n, Nat.mul_one, Nat.zero_add, Nat.add_zero, Nat.reduceAdd, List.getD_cons_zero, List.getD_cons_succ]))
  rw [← heq, ← hc]
  ((repeat' (first | (with_reducible apply And.intro) | intro _)); all_goals (first | exact trivial | (with_reducible assumption) | (show (_ : List Blk) = _; rfl) | (first | exact trivial | (with_reducible assumption) | omega | (split <;> omega) | (split <;> split <;> omega)) | skip); all_goals (try (refine ⟨rfl, (by first | exact Nat.le_refl _ | exact Nat.le_of_ble_eq_true rfl), rfl, rfl, ?_, (by repeat' (first | exact trivial | rfl | apply And.intro)), rfl, rfl⟩)))
  all_goals (try first | exact (hok (by assumption)).1 | exact (hok (by assumption)).2.1 | exact (hok (by assumption)).2.2)
  · rename_i h
    refine sameA_a3 ?_ ?_ rfl
    · rw [grzYP, if_neg h]
    · rw [grzYV, if_neg h]
  · rename_i h
    refine sameA_a3 ?_ ?_ h
    · rw [grzYP, if_pos h]
    · rw [grzYV, if_pos h]

set_option maxRecDepth 100000 in
theorem s_implGrazeYard : Sound Try.prog 31 grzYS := by
  intro args M r M' vs h hvs
  unfold grzYS at h
  split at h
  case h_2 => cases h
  rename_i p s l
  cases h
  refine SpecOK.assume fun hA hM => ?_
  have htb := (TbOk.cons s_cellCode Try.func58 rfl rfl (TbOk.cons s_within Try.func75 rfl rfl (TbOk.cons s_unless Try.func74 rfl rfl (TbOk.cons s_firstOf Try.func67 rfl rfl (TbOk.cons s_yard Try.func59 rfl rfl (TbOk.cons s_graze Try.func76 rfl rfl (TbOk.nil : TbOk Try.prog tb0)))))))
  refine SpecOK.of_goes [] Try.func31 rfl ?_
  have hlen : p.length = 122 := hA.1
  have hok := fun h => grz_facts (p := p) (s := s) (l := l) hlen h
  have heq := fst_bound p s (0 ≤ l ∧ l ≤ 100000)
  have hc : boundC p s (0 ≤ l ∧ l ≤ 100000) = grzC p s l := rfl
  clear hA hM
  refine Goes.tree Γ_ok htb 1000 false false Try.func31 rfl ?_
  ((try simp only [decide_eq_true_eq, decide_eq_false_iff_not, Bool.not_eq_true', Bool.not_eq_false', Bool.not_true, Bool.not_false, Bool.and_eq_true, Bool.or_eq_true, bne_iff_ne, beq_iff_eq, ne_eq]); (try simp only [rng, lo, hi, mnI, mxI, Int.toNat_natCast, Sg.n, Nat.mul_one, Nat.zero_add, Nat.add_zero, Nat.reduceAdd, List.getD_cons_zero, List.getD_cons_succ, one_row, two_rows, heq, hc]))
  ((repeat' (first | (with_reducible apply And.intro) | intro _)); all_goals (first | exact trivial | (with_reducible assumption) | (show (_ : List Blk) = _; rfl) | (first | exact trivial | (with_reducible assumption) | omega | (split <;> omega) | (split <;> split <;> omega)) | skip); all_goals (try (refine ⟨rfl, (by first | exact Nat.le_refl _ | exact Nat.le_of_ble_eq_true rfl), rfl, rfl, ?_, (by repeat' (first | exact trivial | rfl | apply And.intro)), rfl, rfl⟩)))
  all_goals (try first | exact (hok (by assumption)).1 | exact (hok (by assumption)).2.1 | exact (hok (by assumption)).2.2)
  · rename_i h
    refine sameA_a3 ?_ ?_ rfl
    · rw [grzYP, if_neg h]
    · rw [grzYV, if_neg h]
  · rename_i h
    refine sameA_a3 ?_ ?_ h
    · rw [grzYP, if_pos h]
    · rw [grzYV, if_pos h]

set_option maxRecDepth 100000 in
theorem l_ExactGrazeYard (x0 : List Int) (x1 : List Int) (x2 : Int) : SpecOK Try.prog 6 [.ag .pas x0, .ag .spot x1, .i .i64 x2] [] (.d true) [] := by
  have htb := (TbOk.cons s_specGrazeYard Try.func30 rfl rfl (TbOk.cons s_implGrazeYard Try.func31 rfl rfl (TbOk.cons s_toPasture Try.func16 rfl rfl (TbOk.cons s_toSpot Try.func17 rfl rfl (TbOk.cons s_eqPasture Try.func29 rfl rfl (TbOk.nil : TbOk Try.prog tb0))))))
  refine SpecOK.of_goes [] Try.func6 rfl ?_
  skip
  refine Goes.tree Γ_ok htb 1000 false false Try.func6 rfl ?_
  ((try simp only [decide_eq_true_eq, decide_eq_false_iff_not, Bool.not_eq_true', Bool.not_eq_false', Bool.not_true, Bool.not_false, Bool.and_eq_true, Bool.or_eq_true, bne_iff_ne, beq_iff_eq, ne_eq]); (try simp only [rng, lo, hi, mnI, mxI, Int.toNat_natCast, Sg.n, Nat.mul_one, Nat.zero_add, Nat.add_zero, Nat.reduceAdd, List.getD_cons_zero, List.getD_cons_succ]))
  (repeat' (first | (with_reducible apply And.intro) | intro _))
  all_goals (first | exact trivial | (show (_ : List Blk) = _; rfl) | (first | exact trivial | (with_reducible assumption) | omega | (split <;> omega) | (split <;> split <;> omega)) | ((refine ⟨rfl, (by first | exact Nat.le_refl _ | exact Nat.le_of_ble_eq_true rfl), rfl, rfl, ?_, (by repeat' (first | exact trivial | rfl | apply And.intro)), rfl, rfl⟩); first | exact sameA_refl _ | (exfalso; first | simp_all | simp_all)) | (simp_all) | simp_all)
end Go.Proofs.Ytfelemoefhbphaa
namespace Go.Proofs.Ytfelemoefhbphaa.fnExactGrazeYard
open Go Go.Eng Go.ChangeShapes Go.WideShapes Go.ChangeAt Go.RowKit
theorem own : ownKnob Try.prog.godebug = none := by kernel_rfl
theorem laidOut : laidOutB Try.prog = true := by kernel_rfl
set_option maxRecDepth 100000 in
theorem lifted (os : Os) (started : os.Started) (H : Type) (enc : TypeId × Value → H) :
    ReturnsInHanded {} Try.checked os 6 .any (Rows.fnExactGrazeYardSpec.pre6 enc Try.prog Try.f6 Rows.fnExactGrazeYardRow.domain false) (Rows.fnExactGrazeYardSpec.post enc Try.prog Try.f6 false true false false) := by
  refine returnsInHanded_of_change_sized (C := Try.checked) own started (by kernel_rfl) Try.func6
    (ChangeSpec.witness6 (enc := enc) (C := Try.checked) false ⟨#[], #[zeroV .pas, zeroV .spot, .int .i64 0], []⟩ 8 (by kernel_rfl) (by kernel_rfl) (by kernel_rfl) (by kernel_rfl)) ?_
  intro W base args ds gs before hval0 hW hcnd hsz0 _
  have hval : ∀ (j : Nat) t v, Try.f6.params[j]? = some t → args[j]? = some v → Value.okWide Try.prog W .any base t v := hval0
  have hW' := hW
  obtain ⟨p, q, hA0, hV, rfl, hfz, hnd⟩ := hW
  have hA : DataW.TrodAll enc Try.prog W 0 (fun _ => true) true Try.f6.params.toList args.toList ds p := hA0
  rw [Try.params6] at hA hval
  obtain ⟨v0, vs0, d0, ds0, p0, q0, hargs, rfl, rfl, h0, r0⟩ := trodAll_cons hA
  obtain ⟨v1, vs1, d1, ds1, p1, q1, rfl, rfl, rfl, h1, r1⟩ := trodAll_cons r0
  obtain ⟨v2, vs2, d2, ds2, p2, q2, rfl, rfl, rfl, h2, r2⟩ := trodAll_cons r1
  obtain ⟨rfl, rfl, rfl⟩ := trodAll_nil r2
  obtain rfl : args = #[v0, v1, v2] := by cases args; simp_all
  obtain ⟨rfl, rfl⟩ := trodVars_none hV
  obtain ⟨x0, e0, z0, l0, c0⟩ := open_agg Γ_ok (σ := .pas) rfl rfl (by decide) rfl (hval 0 _ v0 rfl rfl) h0
  obtain ⟨x1, e1, z1, l1, c1⟩ := open_agg Γ_ok (σ := .spot) rfl rfl (by decide) rfl (hval 1 _ v1 rfl rfl) h1
  obtain ⟨x2, e2, _, z2, w2⟩ := open_int Try.underlying2 (hval 2 _ v2 rfl rfl) h2
  subst z0 z1 z2
  clear hA0 hval0 hsz0
  refine (l_ExactGrazeYard x0 x1 x2 ⟨fun _ => ⟨0, 0, 0, .none, 0⟩, fun k => W.heap[k]?⟩ [v0, v1, v2] W ⟨⟨e0, l0, c0, rfl⟩, ⟨e1, l1, c1, rfl⟩, ⟨e2, rng_wf w2⟩, trivial⟩ (mrel_nil fun _ _ h => h) (fun x hx i hi => (by simp at hx; rcases hx with rfl | rfl | rfl <;> cases hi))).mono fun e W' ⟨v, ρ', he, hv, hAft, _⟩ => ?_
  subst he
  obtain rfl : v = .bool true := hv
  have bel := hAft.below
  have t0 := Below.trod laidOut (by kernel_rfl) (by decide +kernel) h0 bel (fun x hx => (by cases hx))
  have t1 := Below.trod laidOut (by kernel_rfl) (by decide +kernel) h1 bel (fun x hx => (by cases hx))
  have t2 := Below.trod laidOut (by kernel_rfl) (by decide +kernel) h2 bel (fun x hx => (by cases hx))
  exact ⟨_, rfl, _, _, _, [], _, [], hW', trodAll_mk1 (shut_bool Try.underlying4 _), (trodAll_cons_mk t0 (trodAll_cons_mk t1 (trodAll_cons_mk t2 trodAll_mk0))), rfl, bel.frame _, fun h => (by cases h)⟩
theorem over : Rows.fnExactGrazeYardRow.holds Try.pinned (OpenSpec.ofChange Rows.fnExactGrazeYardSpec) :=
  OpenClaim.holds_of_wide 6 Try.f6 rfl rfl rfl rfl rfl rfl rfl ⟨rfl, rfl, rfl, rfl, rfl⟩ rfl rfl rfl rfl rfl (by kernel_rfl) Try.func6 (by kernel_rfl)
    (of_decide_eq_true (by kernel_rfl)) (by unfold Func.isWrapper; first | (rw [if_pos (by decide +kernel)]; kernel_rfl) | (rw [if_neg (by decide +kernel)]; exact ⟨rfl, rfl⟩))
    (fun os started H enc _ => lifted os started H enc)
end Go.Proofs.Ytfelemoefhbphaa.fnExactGrazeYard
namespace Go.Proofs.Ytfelemoefhbphaa
theorem fnExactGrazeYard_holds : Rows.FnExactGrazeYardSaid := fnExactGrazeYard.over
#print axioms fnExactGrazeYard_holds
end Go.Proofs.Ytfelemoefhbphaa

