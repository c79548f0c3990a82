/- The row HasHurdle: the spec and the program tell alike whether a side of a cell is closed. -/
import Derived.Test.YtlnilfnbfbbckaaSide
namespace Go.Proofs.Ytlnilfnbfbbckaa
open Go Go.Eng
set_option linter.unusedSimpArgs false
set_option linter.unusedVariables false
set_option maxRecDepth 100000
set_option maxHeartbeats 4000000

theorem sideC_ok {p s : List Int} {d : Int} (h : sideC p s d = 0) : okP p ∧ isP p s = true ∧ 0 ≤ d ∧ d ≤ 3 := by
  unfold sideC at h
  split at h
  · rename_i hc
    obtain ⟨h1, h2⟩ := codeP_all hc
    split at h
    · rename_i hd; exact ⟨h1, h2 s (List.mem_singleton.2 rfl), hd.1, hd.2⟩
    · cases h
  · contradiction

def hasHS : Fun
  | [.ag .pas p, .ag .spot s, .i .i64 d], [] => some (.t2 (.b (if sideC p s d = 0 then !canGo p s d else false)) (.i .i64 (sideC p s d)), [], [])
  | _, _ => .none

theorem sideC_eq (p s : List Int) (d : Int) : sideC p s d = if (0 ≤ d ∧ d ≤ 3) then codeP p [s] else if okP p then 2 else 1 := by
  unfold sideC
  rw [codeP_one]
  split <;> split <;> simp_all

set_option maxRecDepth 100000 in
theorem s_specHasHurdle : Sound Try.prog 34 hasHS := by
  intro args M r M' vs h hvs
  unfold hasHS at h
  split at h
  case h_2 => cases h
  rename_i p s d
  cases h
  refine SpecOK.assume fun hA hM => ?_
  have htb := (TbOk.cons s_l01Asked Try.func67 rfl rfl (TbOk.cons s_l01Side Try.func74 rfl rfl (TbOk.cons s_l01Closed Try.func75 rfl rfl (TbOk.nil : TbOk Try.prog tb0))))
  refine SpecOK.of_goes [] Try.func34 rfl ?_
  have hok := fun h => sideC_ok (p := p) (s := s) (d := d) h
  have heq := sideC_eq p s d
  clear hA hM
  refine Goes.tree Γ_ok htb 1000 false false Try.func34 rfl ?_
  ((try simp only [decide_eq_true_eq, decide_eq_false_iff_not, Bool.not_eq_true', Bool.not_eq_false', Bool.not_true, Bool.not_false, Bool.and_eq_true, Bool.or_eq_true, bne_iff_ne, beq_iff_eq, ne_eq]); (try simp only [rng, lo, hi, mnI, mxI, Int.toNat_natCast, Sg.n, Nat.mul_one, Nat.zero_add, Nat.add_zero, Nat.reduceAdd, List.getD_cons_zero, List.getD_cons_succ]))
  rw [← heq]
  ((repeat' (first | (with_reducible apply And.intro) | intro _)); all_goals (first | exact trivial | (with_reducible assumption) | (show (_ : List Blk) = _; rfl) | (first | exact trivial | (with_reducible assumption) | omega | (split <;> omega) | (split <;> split <;> omega)) | skip); all_goals (try (refine ⟨rfl, (by first | exact Nat.le_refl _ | exact Nat.le_of_ble_eq_true rfl), rfl, rfl, ?_, (by repeat' (first | exact trivial | rfl | apply And.intro)), rfl, rfl⟩)))
  · refine sameA_dt ?_ rfl
    rw [if_neg ‹_›]
  · exact (hok ‹_›).1.1
  · exact (hok ‹_›).2.1
  · rename_i h
    rw [if_pos h, h]; exact sameA_refl _

set_option maxRecDepth 100000 in
theorem s_implHasHurdle : Sound Try.prog 35 hasHS := by
  intro args M r M' vs h hvs
  unfold hasHS at h
  split at h
  case h_2 => cases h
  rename_i p s d
  cases h
  refine SpecOK.assume fun hA hM => ?_
  have htb := (TbOk.cons s_sideCode Try.func76 rfl rfl (TbOk.cons s_canGo Try.func77 rfl rfl (TbOk.nil : TbOk Try.prog tb0)))
  refine SpecOK.of_goes [] Try.func35 rfl ?_
  have hok := fun h => sideC_ok (p := p) (s := s) (d := d) h
  clear hA hM
  refine Goes.tree Γ_ok htb 1000 false false Try.func35 rfl ?_
  ((try simp only [decide_eq_true_eq, decide_eq_false_iff_not, Bool.not_eq_true', Bool.not_eq_false', Bool.not_true, Bool.not_false, Bool.and_eq_true, Bool.or_eq_true, bne_iff_ne, beq_iff_eq, ne_eq]); (try simp only [rng, lo, hi, mnI, mxI, Int.toNat_natCast, Sg.n, Nat.mul_one, Nat.zero_add, Nat.add_zero, Nat.reduceAdd, List.getD_cons_zero, List.getD_cons_succ]))
  ((repeat' (first | (with_reducible apply And.intro) | intro _)); all_goals (first | exact trivial | (with_reducible assumption) | (show (_ : List Blk) = _; rfl) | (first | exact trivial | (with_reducible assumption) | omega | (split <;> omega) | (split <;> split <;> omega)) | skip); all_goals (try (refine ⟨rfl, (by first | exact Nat.le_refl _ | exact Nat.le_of_ble_eq_true rfl), rfl, rfl, ?_, (by repeat' (first | exact trivial | rfl | apply And.intro)), rfl, rfl⟩)))
  · refine sameA_dt ?_ rfl
    rw [if_neg ‹_›]
  · exact (hok ‹_›).1.1
  · exact (hok ‹_›).2.1
  · rename_i h
    rw [if_pos h, h]; exact sameA_refl _

set_option maxRecDepth 100000 in
theorem l_ExactHasHurdle (x0 : List Int) (x1 : List Int) (x2 : Int) : SpecOK Try.prog 8 [.ag .pas x0, .ag .spot x1, .i .i64 x2] [] (.d true) [] := by
  have htb := (TbOk.cons s_specHasHurdle Try.func34 rfl rfl (TbOk.cons s_implHasHurdle Try.func35 rfl rfl (TbOk.cons s_toPasture Try.func16 rfl rfl (TbOk.cons s_toSpot Try.func31 rfl rfl (TbOk.nil : TbOk Try.prog tb0)))))
  refine SpecOK.of_goes [] Try.func8 rfl ?_
  skip
  refine Goes.tree Γ_ok htb 1000 false false Try.func8 rfl ?_
  ((try simp only [decide_eq_true_eq, decide_eq_false_iff_not, Bool.not_eq_true', Bool.not_eq_false', Bool.not_true, Bool.not_false, Bool.and_eq_true, Bool.or_eq_true, bne_iff_ne, beq_iff_eq, ne_eq]); (try simp only [rng, lo, hi, mnI, mxI, Int.toNat_natCast, Sg.n, Nat.mul_one, Nat.zero_add, Nat.add_zero, Nat.reduceAdd, List.getD_cons_zero, List.getD_cons_succ]))
  (repeat' (first | (with_reducible apply And.intro) | intro _))
  all_goals (first | exact trivial | (show (_ : List Blk) = _; rfl) | (first | exact trivial | (with_reducible assumption) | omega | (split <;> omega) | (split <;> split <;> omega)) | ((refine ⟨rfl, (by first | exact Nat.le_refl _ | exact Nat.le_of_ble_eq_true rfl), rfl, rfl, ?_, (by repeat' (first | exact trivial | rfl | apply And.intro)), rfl, rfl⟩); first | exact sameA_refl _ | (exfalso; first | simp_all | simp_all)) | (simp_all) | simp_all)
end Go.Proofs.Ytlnilfnbfbbckaa
namespace Go.Proofs.Ytlnilfnbfbbckaa.fnExactHasHurdle
open Go Go.Eng Go.ChangeShapes Go.WideShapes Go.ChangeAt Go.RowKit
theorem own : ownKnob Try.prog.godebug = none := by kernel_rfl
theorem laidOut : laidOutB Try.prog = true := by kernel_rfl
set_option maxRecDepth 100000 in
theorem lifted (os : Os) (started : os.Started) (H : Type) (enc : TypeId × Value → H) :
    ReturnsInHanded {} Try.checked os 8 .any (Rows.fnExactHasHurdleSpec.pre6 enc Try.prog Try.f8 Rows.fnExactHasHurdleRow.domain false) (Rows.fnExactHasHurdleSpec.post enc Try.prog Try.f8 false true false false) := by
  refine returnsInHanded_of_change_sized (C := Try.checked) own started (by kernel_rfl) Try.func8
    (ChangeSpec.witness6 (enc := enc) (C := Try.checked) false ⟨#[], #[zeroV .pas, zeroV .spot, .int .i64 0], []⟩ 8 (by kernel_rfl) (by kernel_rfl) (by kernel_rfl) (by kernel_rfl)) ?_
  intro W base args ds gs before hval0 hW hcnd hsz0 _
  have hval : ∀ (j : Nat) t v, Try.f8.params[j]? = some t → args[j]? = some v → Value.okWide Try.prog W .any base t v := hval0
  have hW' := hW
  obtain ⟨p, q, hA0, hV, rfl, hfz, hnd⟩ := hW
  have hA : DataW.TrodAll enc Try.prog W 0 (fun _ => true) true Try.f8.params.toList args.toList ds p := hA0
  rw [Try.params8] at hA hval
  obtain ⟨v0, vs0, d0, ds0, p0, q0, hargs, rfl, rfl, h0, r0⟩ := trodAll_cons hA
  obtain ⟨v1, vs1, d1, ds1, p1, q1, rfl, rfl, rfl, h1, r1⟩ := trodAll_cons r0
  obtain ⟨v2, vs2, d2, ds2, p2, q2, rfl, rfl, rfl, h2, r2⟩ := trodAll_cons r1
  obtain ⟨rfl, rfl, rfl⟩ := trodAll_nil r2
  obtain rfl : args = #[v0, v1, v2] := by cases args; simp_all
  obtain ⟨rfl, rfl⟩ := trodVars_none hV
  obtain ⟨x0, e0, z0, l0, c0⟩ := open_agg Γ_ok (σ := .pas) rfl rfl (by decide) rfl (hval 0 _ v0 rfl rfl) h0
  obtain ⟨x1, e1, z1, l1, c1⟩ := open_agg Γ_ok (σ := .spot) rfl rfl (by decide) rfl (hval 1 _ v1 rfl rfl) h1
  obtain ⟨x2, e2, _, z2, w2⟩ := open_int Try.underlying2 (hval 2 _ v2 rfl rfl) h2
  subst z0 z1 z2
  clear hA0 hval0 hsz0
  refine (l_ExactHasHurdle x0 x1 x2 ⟨fun _ => ⟨0, 0, 0, .none, 0⟩, fun k => W.heap[k]?⟩ [v0, v1, v2] W ⟨⟨e0, l0, c0, rfl⟩, ⟨e1, l1, c1, rfl⟩, ⟨e2, rng_wf w2⟩, trivial⟩ (mrel_nil fun _ _ h => h) (fun x hx i hi => (by simp at hx; rcases hx with rfl | rfl | rfl <;> cases hi))).mono fun e W' ⟨v, ρ', he, hv, hAft, _⟩ => ?_
  subst he
  obtain rfl : v = .bool true := hv
  have bel := hAft.below
  have t0 := Below.trod laidOut (by kernel_rfl) (by decide +kernel) h0 bel (fun x hx => (by cases hx))
  have t1 := Below.trod laidOut (by kernel_rfl) (by decide +kernel) h1 bel (fun x hx => (by cases hx))
  have t2 := Below.trod laidOut (by kernel_rfl) (by decide +kernel) h2 bel (fun x hx => (by cases hx))
  exact ⟨_, rfl, _, _, _, [], _, [], hW', trodAll_mk1 (shut_bool Try.underlying4 _), (trodAll_cons_mk t0 (trodAll_cons_mk t1 (trodAll_cons_mk t2 trodAll_mk0))), rfl, bel.frame _, fun h => (by cases h)⟩
theorem over : Rows.fnExactHasHurdleRow.holds Try.pinned (OpenSpec.ofChange Rows.fnExactHasHurdleSpec) :=
  OpenClaim.holds_of_wide 8 Try.f8 rfl rfl rfl rfl rfl rfl rfl ⟨rfl, rfl, rfl, rfl, rfl⟩ rfl rfl rfl rfl rfl (by kernel_rfl) Try.func8 (by kernel_rfl)
    (of_decide_eq_true (by kernel_rfl)) (by unfold Func.isWrapper; first | (rw [if_pos (by decide +kernel)]; kernel_rfl) | (rw [if_neg (by decide +kernel)]; exact ⟨rfl, rfl⟩))
    (fun os started H enc _ => lifted os started H enc)
end Go.Proofs.Ytlnilfnbfbbckaa.fnExactHasHurdle
namespace Go.Proofs.Ytlnilfnbfbbckaa
theorem fnExactHasHurdle_holds : Rows.FnExactHasHurdleSaid := fnExactHasHurdle.over
#print axioms fnExactHasHurdle_holds
end Go.Proofs.Ytlnilfnbfbbckaa

