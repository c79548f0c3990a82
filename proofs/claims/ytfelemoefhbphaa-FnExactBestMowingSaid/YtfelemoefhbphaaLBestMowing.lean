/- The row BestMowing: the spec and the program choose the same day. -/
import Derived.Test.YtfelemoefhbphaaMax
import Derived.Test.YtfelemoefhbphaaEqs
namespace Go.Proofs.Ytfelemoefhbphaa
open Go Go.Eng
set_option linter.unusedSimpArgs false
set_option linter.unusedVariables false
set_option maxRecDepth 100000
set_option maxHeartbeats 4000000

noncomputable def bmD (p g s : List Int) (d l : Int) : Int := if hayC p g s d l = 0 then ((bestK (hayAt p g (yardR p s) l) d.toNat).1 : Nat) else 0
noncomputable def bmV (p g s : List Int) (d l : Int) : Int := if hayC p g s d l = 0 then (bestK (hayAt p g (yardR p s) l) d.toNat).2 else 0
noncomputable def bmS : Fun
  | [.ag .pas p, .ag .gro g, .ag .spot s, .i .i64 d, .i .i64 l], [] => some (.t3 (.i .i64 (bmD p g s d l)) (.i .i64 (bmV p g s d l)) (.i .i64 (hayC p g s d l)), [], [])
  | _, _ => .none
theorem sameA_i3 {k k' k'' : IntKind} {a b c d e f : Int} (h : a = b) (h' : c = d) (h'' : e = f) : sameA (.t3 (.i k'' a) (.i k c) (.i k' e)) (.t3 (.i k'' b) (.i k d) (.i k' f)) := by subst h; subst h'; subst h''; exact sameA_refl _

set_option maxRecDepth 100000 in
theorem s_implBestMowing : Sound Try.prog 40 bmS := by
  intro args M r M' vs h hvs
  unfold bmS at h
  split at h
  case h_2 => cases h
  rename_i p g s d l
  cases h
  refine SpecOK.assume fun hA hM => ?_
  have htb := (TbOk.cons s_hayCode Try.func91 rfl rfl (TbOk.cons s_yardZ Try.func59 rfl rfl (TbOk.cons s_hays Try.func92 rfl rfl (TbOk.cons s_maxR Try.func94 rfl rfl (TbOk.cons s_idxI Try.func95 rfl rfl (TbOk.nil : TbOk Try.prog tb0))))))
  refine SpecOK.of_goes [] Try.func40 rfl ?_
  have hlen : p.length = 122 := hA.1
  have hok := fun h => hay_facts (p := p) (g := g) (s := s) (d := d) (l := l) hlen h
  clear hA hM
  have hp := fun h : hayC p g s d l = 0 => (hok h).2.2
  have hg := fun h : hayC p g s d l = 0 => by
    obtain ⟨-, -, a1, a2, a3, a4, a5, a6, a7, a8, a9⟩ := hok h
    have e1 : (haysL p g (yardR p s) l (d + 1).toNat).length = d.toNat + 1 := by rw [haysL_len]; omega
    have e2 : ∀ i, i < d.toNat + 1 → (haysL p g (yardR p s) l (d + 1).toNat).getD i [] = [hayAt p g (yardR p s) l i] := fun i hi => haysL_get _ _ _ _ _ _ (by omega)
    have e3 := maxK_best (hayAt p g (yardR p s) l) _ e2 d.toNat (by omega)
    have e4 := findI_best (hayAt p g (yardR p s) l) _ e1 e2
    exact (show (haysL p g (yardR p s) l (d + 1).toNat).length = d.toNat + 1 ∧ maxK (haysL p g (yardR p s) l (d + 1).toNat) ((haysL p g (yardR p s) l (d + 1).toNat).length - 1) = (bestK (hayAt p g (yardR p s) l) d.toNat).2 ∧ findI (isI (maxK (haysL p g (yardR p s) l (d + 1).toNat) ((haysL p g (yardR p s) l (d + 1).toNat).length - 1))) (haysL p g (yardR p s) l (d + 1).toNat) = ((bestK (hayAt p g (yardR p s) l) d.toNat).1 : Nat) by
      rw [e1, Nat.add_sub_cancel, e3]
      exact ⟨rfl, rfl, e4⟩)
  refine Goes.tree Γ_ok htb 1000 false false Try.func40 rfl ?_
  ((try simp only [decide_eq_true_eq, decide_eq_false_iff_not, Bool.not_eq_true', Bool.not_eq_false', Bool.not_true, Bool.not_false, Bool.and_eq_true, Bool.or_eq_true, bne_iff_ne, beq_iff_eq, ne_eq]); (try simp only [rng, lo, hi, mnI, mxI, Int.toNat_natCast, Sg.n, Nat.mul_one, Nat.zero_add, Nat.add_zero, Nat.reduceAdd, List.getD_cons_zero, List.getD_cons_succ]))
  ((repeat' (first | (with_reducible apply And.intro) | intro _)); all_goals (first | exact trivial | (with_reducible assumption) | (show (_ : List Blk) = _; rfl) | (first | exact trivial | (with_reducible assumption) | omega | (split <;> omega) | (split <;> split <;> omega)) | skip); all_goals (try (refine ⟨rfl, (by first | exact Nat.le_refl _ | exact Nat.le_of_ble_eq_true rfl), rfl, rfl, ?_, (by repeat' (first | exact trivial | rfl | apply And.intro)), rfl, rfl⟩)))
  all_goals (try first | exact (hok (by assumption)).1 | exact (hok (by assumption)).2.1 | exact hp (by assumption) | (have := (hg (by assumption)).1; omega))
  · rename_i h
    refine sameA_i3 ?_ ?_ rfl
    · rw [bmD, if_neg h]
    · rw [bmV, if_neg h]
  · rename_i h
    refine sameA_i3 ?_ ?_ h
    · rw [bmD, if_pos h, (hg h).2.2]
    · rw [bmV, if_pos h, (hg h).2.1]

set_option maxRecDepth 100000 in
theorem s_specBestMowing : Sound Try.prog 39 bmS := by
  intro args M r M' vs h hvs
  unfold bmS at h
  split at h
  case h_2 => cases h
  rename_i p g s d l
  cases h
  refine SpecOK.assume fun hA hM => ?_
  have htb := (TbOk.cons s_l04Mowed Try.func88 rfl rfl (TbOk.cons s_l01Yard Try.func55 rfl rfl (TbOk.cons s_l04Mow Try.func66 rfl rfl (TbOk.cons s_l04GrowN Try.func93 rfl rfl (TbOk.nil : TbOk Try.prog tb0)))))
  refine SpecOK.of_goes [] Try.func39 rfl ?_
  have hlen : p.length = 122 := hA.1
  have hok := fun h => hay_facts (p := p) (g := g) (s := s) (d := d) (l := l) hlen h
  clear hA hM
  have hp := fun h : hayC p g s d l = 0 => (hok h).2.2
  have hm := fun (h : hayC p g s d l = 0) (i : Nat) => by
    obtain ⟨-, -, a1, a2, a3, a4, a5, a6, a7, a8, a9⟩ := hok h
    exact (show mowOk (growN g p i) (yardR p s) l ∧ growOk (growN g p i) g [] from ⟨⟨(growN_ok a3 a1 a2 _).1, fun r hr => (a4 r hr).1, a8, a9, by omega⟩, (growN_ok a3 a1 a2 _).1, (growN_ok a3 a1 a2 _).2, a3, cellsR_nil, by simp⟩)
  refine Goes.tree Γ_ok htb 1000 false false Try.func39 rfl ?_
  ((try simp only [decide_eq_true_eq, decide_eq_false_iff_not, Bool.not_eq_true', Bool.not_eq_false', Bool.not_true, Bool.not_false, Bool.and_eq_true, Bool.or_eq_true, bne_iff_ne, beq_iff_eq, ne_eq]); (try simp only [rng, lo, hi, mnI, mxI, Int.toNat_natCast, Sg.n, Nat.mul_one, Nat.zero_add, Nat.add_zero, Nat.reduceAdd, List.getD_cons_zero, List.getD_cons_succ]))
  ((repeat' (first | (with_reducible apply And.intro) | intro _)); all_goals (first | exact trivial | (with_reducible assumption) | (show (_ : List Blk) = _; rfl) | (first | exact trivial | (with_reducible assumption) | omega | (split <;> omega) | (split <;> split <;> omega)) | skip); all_goals (try (refine ⟨rfl, (by first | exact Nat.le_refl _ | exact Nat.le_of_ble_eq_true rfl), rfl, rfl, ?_, (by repeat' (first | exact trivial | rfl | apply And.intro)), rfl, rfl⟩)))
  all_goals (try first | exact (hok (by assumption)).1 | exact (hok (by assumption)).2.1 | exact (hm (by assumption) 0).1)
  · rename_i h
    refine sameA_i3 ?_ ?_ rfl
    · rw [bmD, if_neg h]
    · rw [bmV, if_neg h]
  rename_i h
  refine ⟨?_⟩
  have hd : 0 ≤ d ∧ d ≤ 365 := by
    have := hp h
    unfold hayOk at this
    omega
  refine Goes.loopR (fun i : Nat => d.toNat - i) (fun i => i ≤ d.toNat) (fun i => (.any :: .any :: .any :: .i .i64 d :: .i .i64 l :: .pw 0 .pas :: .pw 1 .gro :: .any :: .any :: .any :: .any :: .any :: .any :: .any :: .fs .spot (yardR p s) :: .i .i64 ((bestK (hayAt p g (yardR p s) l) i).1 : Nat) :: .any :: .i .i64 (bestK (hayAt p g (yardR p s) l) i).2 :: .pw 2 .pas :: .i .i64 ((i:Int) + 1) :: .any :: .any :: .any :: .any :: .any :: .any :: .any :: .any :: .any :: .any :: .any :: .any :: .any :: .any :: .any :: .any :: .any :: .any :: .any :: .any :: .any :: .any :: .any :: .any :: .any :: .any :: .any :: .any :: .any :: .any :: .any :: .any :: .any :: .any :: .any :: .any :: .any :: .any :: .any :: .any :: []))
    (fun i => [.c .pas p, .c .gro g, .c .pas (growN g p i)]) 0 [0, 1, 4] (Nat.zero_le _) ⟨rfl, rfl, rfl, (by repeat' (first | exact trivial | rfl | apply And.intro)), (by repeat' (first | exact trivial | rfl | apply And.intro)), rfl, rfl, rfl⟩ fun i hle ih => ?_
  obtain ⟨m1, m2⟩ := hm h i
  have m3 := (hm h (i + 1)).1
  have e1 : bestK (hayAt p g (yardR p s) l) (i + 1) = if (bestK (hayAt p g (yardR p s) l) i).2 < hayAt p g (yardR p s) l (i + 1) then (i + 1, hayAt p g (yardR p s) l (i + 1)) else bestK (hayAt p g (yardR p s) l) i := rfl
  have hyes : (bestK (hayAt p g (yardR p s) l) i).2 < hayAt p g (yardR p s) l (i + 1) → bestK (hayAt p g (yardR p s) l) (i + 1) = (i + 1, hayAt p g (yardR p s) l (i + 1)) := fun h => by rw [e1, if_pos h]
  have hno : ¬ (bestK (hayAt p g (yardR p s) l) i).2 < hayAt p g (yardR p s) l (i + 1) → bestK (hayAt p g (yardR p s) l) (i + 1) = bestK (hayAt p g (yardR p s) l) i := fun h => by rw [e1, if_neg h]
  by_cases hlt : (i : Int) + 1 ≤ d
  · refine Goes.tree Γ_ok htb 1000 false false Try.func39 rfl ?_
    ((try simp only [decide_eq_true_eq, decide_eq_false_iff_not, Bool.not_eq_true', Bool.not_eq_false', Bool.not_true, Bool.not_false, Bool.and_eq_true, Bool.or_eq_true, bne_iff_ne, beq_iff_eq, ne_eq]); (try simp only [rng, lo, hi, mnI, mxI, Int.toNat_natCast, Sg.n, Nat.mul_one, Nat.zero_add, Nat.add_zero, Nat.reduceAdd, List.getD_cons_zero, List.getD_cons_succ]))
    ((repeat' (first | (with_reducible apply And.intro) | intro _)); all_goals (first | exact trivial | (with_reducible assumption) | (show (_ : List Blk) = _; rfl) | (first | exact trivial | (with_reducible assumption) | omega | (split <;> omega) | (split <;> split <;> omega)) | skip); all_goals (try (refine ⟨rfl, (by first | exact Nat.le_refl _ | exact Nat.le_of_ble_eq_true rfl), rfl, rfl, ?_, (by repeat' (first | exact trivial | rfl | apply And.intro)), rfl, rfl⟩)))
    all_goals (try first | exact m1 | exact m2 | exact m3)
    · refine ⟨ih (i + 1) (by omega) (by omega) [0, 1, 2] _ _ ?_⟩
      rw [hyes (by assumption)]
      exact ⟨rfl, rfl, rfl, (by repeat' (first | exact trivial | rfl | apply And.intro)), (by repeat' (first | exact trivial | rfl | apply And.intro)), rfl, rfl, rfl⟩
    · refine ⟨ih (i + 1) (by omega) (by omega) [0, 1, 2] _ _ ?_⟩
      rw [hno (by assumption)]
      exact ⟨rfl, rfl, rfl, (by repeat' (first | exact trivial | rfl | apply And.intro)), (by repeat' (first | exact trivial | rfl | apply And.intro)), rfl, rfl, rfl⟩
  · obtain rfl : i = d.toNat := by omega
    clear ih
    refine Goes.tree Γ_ok htb 1000 false false Try.func39 rfl ?_
    ((try simp only [decide_eq_true_eq, decide_eq_false_iff_not, Bool.not_eq_true', Bool.not_eq_false', Bool.not_true, Bool.not_false, Bool.and_eq_true, Bool.or_eq_true, bne_iff_ne, beq_iff_eq, ne_eq]); (try simp only [rng, lo, hi, mnI, mxI, Int.toNat_natCast, Sg.n, Nat.mul_one, Nat.zero_add, Nat.add_zero, Nat.reduceAdd, List.getD_cons_zero, List.getD_cons_succ]))
    ((repeat' (first | (with_reducible apply And.intro) | intro _)); all_goals (first | exact trivial | (with_reducible assumption) | (show (_ : List Blk) = _; rfl) | (first | exact trivial | (with_reducible assumption) | omega | (split <;> omega) | (split <;> split <;> omega)) | skip); all_goals (try (refine ⟨rfl, (by first | exact Nat.le_refl _ | exact Nat.le_of_ble_eq_true rfl), rfl, rfl, ?_, (by repeat' (first | exact trivial | rfl | apply And.intro)), rfl, rfl⟩)))
    all_goals (first | contradiction | skip)
    refine sameA_i3 ?_ ?_ h
    · rw [bmD, if_pos h]
    · rw [bmV, if_pos h]

set_option maxRecDepth 100000 in
theorem l_ExactBestMowing (x0 : List Int) (x1 : List Int) (x2 : List Int) (x3 : Int) (x4 : Int) : SpecOK Try.prog 10 [.ag .pas x0, .ag .gro x1, .ag .spot x2, .i .i64 x3, .i .i64 x4] [] (.d true) [] := by
  have htb := (TbOk.cons s_specBestMowing Try.func39 rfl rfl (TbOk.cons s_implBestMowing Try.func40 rfl rfl (TbOk.cons s_toPasture Try.func16 rfl rfl (TbOk.cons s_toGrowth Try.func37 rfl rfl (TbOk.cons s_toSpot Try.func17 rfl rfl (TbOk.nil : TbOk Try.prog tb0))))))
  refine SpecOK.of_goes [] Try.func10 rfl ?_
  skip
  refine Goes.tree Γ_ok htb 1000 false false Try.func10 rfl ?_
  ((try simp only [decide_eq_true_eq, decide_eq_false_iff_not, Bool.not_eq_true', Bool.not_eq_false', Bool.not_true, Bool.not_false, Bool.and_eq_true, Bool.or_eq_true, bne_iff_ne, beq_iff_eq, ne_eq]); (try simp only [rng, lo, hi, mnI, mxI, Int.toNat_natCast, Sg.n, Nat.mul_one, Nat.zero_add, Nat.add_zero, Nat.reduceAdd, List.getD_cons_zero, List.getD_cons_succ]))
  (repeat' (first | (with_reducible apply And.intro) | intro _))
  all_goals (first | exact trivial | (show (_ : List Blk) = _; rfl) | (first | exact trivial | (with_reducible assumption) | omega | (split <;> omega) | (split <;> split <;> omega)) | ((refine ⟨rfl, (by first | exact Nat.le_refl _ | exact Nat.le_of_ble_eq_true rfl), rfl, rfl, ?_, (by repeat' (first | exact trivial | rfl | apply And.intro)), rfl, rfl⟩); first | exact sameA_refl _ | (exfalso; first | simp_all | simp_all)) | (simp_all) | simp_all)
end Go.Proofs.Ytfelemoefhbphaa
namespace Go.Proofs.Ytfelemoefhbphaa.fnExactBestMowing
open Go Go.Eng Go.ChangeShapes Go.WideShapes Go.ChangeAt Go.RowKit
theorem own : ownKnob Try.prog.godebug = none := by kernel_rfl
theorem laidOut : laidOutB Try.prog = true := by kernel_rfl
set_option maxRecDepth 100000 in
theorem lifted (os : Os) (started : os.Started) (H : Type) (enc : TypeId × Value → H) :
    ReturnsInHanded {} Try.checked os 10 .any (Rows.fnExactBestMowingSpec.pre6 enc Try.prog Try.f10 Rows.fnExactBestMowingRow.domain false) (Rows.fnExactBestMowingSpec.post enc Try.prog Try.f10 false true false false) := by
  refine returnsInHanded_of_change_sized (C := Try.checked) own started (by kernel_rfl) Try.func10
    (ChangeSpec.witness6 (enc := enc) (C := Try.checked) false ⟨#[], #[zeroV .pas, zeroV .gro, zeroV .spot, .int .i64 0, .int .i64 0], []⟩ 8 (by kernel_rfl) (by kernel_rfl) (by kernel_rfl) (by kernel_rfl)) ?_
  intro W base args ds gs before hval0 hW hcnd hsz0 _
  have hval : ∀ (j : Nat) t v, Try.f10.params[j]? = some t → args[j]? = some v → Value.okWide Try.prog W .any base t v := hval0
  have hW' := hW
  obtain ⟨p, q, hA0, hV, rfl, hfz, hnd⟩ := hW
  have hA : DataW.TrodAll enc Try.prog W 0 (fun _ => true) true Try.f10.params.toList args.toList ds p := hA0
  rw [Try.params10] at hA hval
  obtain ⟨v0, vs0, d0, ds0, p0, q0, hargs, rfl, rfl, h0, r0⟩ := trodAll_cons hA
  obtain ⟨v1, vs1, d1, ds1, p1, q1, rfl, rfl, rfl, h1, r1⟩ := trodAll_cons r0
  obtain ⟨v2, vs2, d2, ds2, p2, q2, rfl, rfl, rfl, h2, r2⟩ := trodAll_cons r1
  obtain ⟨v3, vs3, d3, ds3, p3, q3, rfl, rfl, rfl, h3, r3⟩ := trodAll_cons r2
  obtain ⟨v4, vs4, d4, ds4, p4, q4, rfl, rfl, rfl, h4, r4⟩ := trodAll_cons r3
  obtain ⟨rfl, rfl, rfl⟩ := trodAll_nil r4
  obtain rfl : args = #[v0, v1, v2, v3, v4] := by cases args; simp_all
  obtain ⟨rfl, rfl⟩ := trodVars_none hV
  obtain ⟨x0, e0, z0, l0, c0⟩ := open_agg Γ_ok (σ := .pas) rfl rfl (by decide) rfl (hval 0 _ v0 rfl rfl) h0
  obtain ⟨x1, e1, z1, l1, c1⟩ := open_agg Γ_ok (σ := .gro) rfl rfl (by decide) rfl (hval 1 _ v1 rfl rfl) h1
  obtain ⟨x2, e2, z2, l2, c2⟩ := open_agg Γ_ok (σ := .spot) rfl rfl (by decide) rfl (hval 2 _ v2 rfl rfl) h2
  obtain ⟨x3, e3, _, z3, w3⟩ := open_int Try.underlying2 (hval 3 _ v3 rfl rfl) h3
  obtain ⟨x4, e4, _, z4, w4⟩ := open_int Try.underlying2 (hval 4 _ v4 rfl rfl) h4
  subst z0 z1 z2 z3 z4
  clear hA0 hval0 hsz0
  refine (l_ExactBestMowing x0 x1 x2 x3 x4 ⟨fun _ => ⟨0, 0, 0, .none, 0⟩, fun k => W.heap[k]?⟩ [v0, v1, v2, v3, v4] W ⟨⟨e0, l0, c0, rfl⟩, ⟨e1, l1, c1, rfl⟩, ⟨e2, l2, c2, rfl⟩, ⟨e3, rng_wf w3⟩, ⟨e4, rng_wf w4⟩, trivial⟩ (mrel_nil fun _ _ h => h) (fun x hx i hi => (by simp at hx; rcases hx with rfl | rfl | rfl | rfl | rfl <;> cases hi))).mono fun e W' ⟨v, ρ', he, hv, hAft, _⟩ => ?_
  subst he
  obtain rfl : v = .bool true := hv
  have bel := hAft.below
  have t0 := Below.trod laidOut (by kernel_rfl) (by decide +kernel) h0 bel (fun x hx => (by cases hx))
  have t1 := Below.trod laidOut (by kernel_rfl) (by decide +kernel) h1 bel (fun x hx => (by cases hx))
  have t2 := Below.trod laidOut (by kernel_rfl) (by decide +kernel) h2 bel (fun x hx => (by cases hx))
  have t3 := Below.trod laidOut (by kernel_rfl) (by decide +kernel) h3 bel (fun x hx => (by cases hx))
  have t4 := Below.trod laidOut (by kernel_rfl) (by decide +kernel) h4 bel (fun x hx => (by cases hx))
  exact ⟨_, rfl, _, _, _, [], _, [], hW', trodAll_mk1 (shut_bool Try.underlying4 _), (trodAll_cons_mk t0 (trodAll_cons_mk t1 (trodAll_cons_mk t2 (trodAll_cons_mk t3 (trodAll_cons_mk t4 trodAll_mk0))))), rfl, bel.frame _, fun h => (by cases h)⟩
theorem over : Rows.fnExactBestMowingRow.holds Try.pinned (OpenSpec.ofChange Rows.fnExactBestMowingSpec) :=
  OpenClaim.holds_of_wide 10 Try.f10 rfl rfl rfl rfl rfl rfl rfl ⟨rfl, rfl, rfl, rfl, rfl⟩ rfl rfl rfl rfl rfl (by kernel_rfl) Try.func10 (by kernel_rfl)
    (of_decide_eq_true (by kernel_rfl)) (by unfold Func.isWrapper; first | (rw [if_pos (by decide +kernel)]; kernel_rfl) | (rw [if_neg (by decide +kernel)]; exact ⟨rfl, rfl⟩))
    (fun os started H enc _ => lifted os started H enc)
end Go.Proofs.Ytfelemoefhbphaa.fnExactBestMowing
namespace Go.Proofs.Ytfelemoefhbphaa
theorem fnExactBestMowing_holds : Rows.FnExactBestMowingSaid := fnExactBestMowing.over
#print axioms fnExactBestMowing_holds
end Go.Proofs.Ytfelemoefhbphaa

