/- The row BalanceOf: the spec and the program strike the same balance. -/
import Derived.Test.YtpdghhmpbakckaaCell
namespace Go.Proofs.Ytpdghhmpbakckaa
open Go Go.Eng
set_option maxRecDepth 100000
set_option maxHeartbeats 4000000

def inB (n : Int) : Prop := 0 ≤ n ∧ n ≤ 1000000000
instance (n : Int) : Decidable (inB n) := by unfold inB; infer_instance
def balC (a b : List Int) (g e m : Int) : Int :=
  if okP a ∧ okP b then (if a.getD 0 0 = b.getD 0 0 ∧ a.getD 1 0 = b.getD 1 0 then (if inB g ∧ inB e ∧ inB m then 0 else 2) else 4) else 1

def balS : Fun
  | [.ag .pas a, .ag .pas b, .i .i64 g, .i .i64 e, .i .i64 m], [] => some (.t2 (.i .i64 (if balC a b g e m = 0 then sumA b 10 - (sumA a 10 + g - e - m) else 0)) (.i .i64 (balC a b g e m)), [], [])
  | _, _ => .none

set_option maxRecDepth 100000 in
theorem s_specBalance : Sound Try.prog 45 balS := by
  intro args M r M' vs h hvs
  unfold balS at h
  split at h
  case h_2 => cases h
  rename_i a b g e m
  cases h
  refine SpecOK.assume fun hA hM => ?_
  have htb := (TbOk.cons s_l01Ok Try.func66 rfl rfl (TbOk.cons s_l00In Try.func54 rfl rfl (TbOk.cons s_l01Sum Try.func69 rfl rfl (TbOk.nil : TbOk Try.prog tb0))))
  refine SpecOK.of_goes [] Try.func45 rfl ?_
  have ha : PasOk a := ⟨hA.1, hA.2.1⟩
  have hb : PasOk b := ⟨hA.2.2.1, hA.2.2.2.1⟩
  have ra := sumA_rng ha 10 (by omega)
  have rb := sumA_rng hb 10 (by omega)
  clear hA hM
  refine Goes.tree Γ_ok htb 1000 false false Try.func45 rfl ?_
  ((try simp only [decide_eq_true_eq, decide_eq_false_iff_not, Bool.not_eq_true', Bool.not_eq_false', Bool.not_true, Bool.not_false, Bool.and_eq_true, Bool.or_eq_true, bne_iff_ne, beq_iff_eq, ne_eq]); (try simp only [rng, lo, hi, mnI, mxI, Int.toNat_natCast, Sg.n, Nat.mul_one, Nat.zero_add, Nat.add_zero, Nat.reduceAdd, List.getD_cons_zero, List.getD_cons_succ]))
  ((repeat' (first | (with_reducible apply And.intro) | intro _)); all_goals (first | exact trivial | (with_reducible assumption) | (show (_ : List Blk) = _; rfl) | (first | exact trivial | (with_reducible assumption) | omega | (split <;> omega) | (split <;> split <;> omega)) | skip); all_goals (try (refine ⟨rfl, (by first | exact Nat.le_refl _ | exact Nat.le_of_ble_eq_true rfl), rfl, rfl, ?_, (by repeat' (first | exact trivial | rfl | apply And.intro)), rfl, rfl⟩)))
  all_goals (refine sameA_t2 ?_ ?_ <;> simp [balC, inB, *, -List.getD_eq_getElem?_getD])

set_option maxRecDepth 100000 in
theorem s_implBalance : Sound Try.prog 46 balS := by
  intro args M r M' vs h hvs
  unfold balS at h
  split at h
  case h_2 => cases h
  rename_i a b g e m
  cases h
  refine SpecOK.assume fun hA hM => ?_
  have htb := (TbOk.cons s_ValidPasture Try.func40 rfl rfl (TbOk.cons s_within Try.func53 rfl rfl (TbOk.cons s_all Try.func61 rfl rfl (TbOk.cons s_sumOf Try.func70 rfl rfl (TbOk.nil : TbOk Try.prog tb0)))))
  refine SpecOK.of_goes [] Try.func46 rfl ?_
  have ha : PasOk a := ⟨hA.1, hA.2.1⟩
  have hb : PasOk b := ⟨hA.2.2.1, hA.2.2.2.1⟩
  have ra := sumA_rng ha 10 (by omega)
  have rb := sumA_rng hb 10 (by omega)
  clear hA hM
  refine Goes.tree Γ_ok htb 1000 false false Try.func46 rfl ?_
  ((try simp only [decide_eq_true_eq, decide_eq_false_iff_not, Bool.not_eq_true', Bool.not_eq_false', Bool.not_true, Bool.not_false, Bool.and_eq_true, Bool.or_eq_true, bne_iff_ne, beq_iff_eq, ne_eq]); (try simp only [rng, lo, hi, mnI, mxI, Int.toNat_natCast, Sg.n, Nat.mul_one, Nat.zero_add, Nat.add_zero, Nat.reduceAdd, List.getD_cons_zero, List.getD_cons_succ]))
  ((repeat' (first | (with_reducible apply And.intro) | intro _)); all_goals (first | exact trivial | (with_reducible assumption) | (show (_ : List Blk) = _; rfl) | (first | exact trivial | (with_reducible assumption) | omega | (split <;> omega) | (split <;> split <;> omega)) | skip); all_goals (try (refine ⟨rfl, (by first | exact Nat.le_refl _ | exact Nat.le_of_ble_eq_true rfl), rfl, rfl, ?_, (by repeat' (first | exact trivial | rfl | apply And.intro)), rfl, rfl⟩)))
  case' right.right.right.right =>
    rename_i h1 h2 h3 h4
    refine ⟨?_⟩
    refine Goes.loopR (fun i : Nat => 3 - i) (fun i => i ≤ 3 ∧ ∀ j, j < i → inB (([[g], [e], [m]].getD j []).getD 0 0)) (fun i => (.any :: .any :: .i .i64 g :: .i .i64 e :: .i .i64 m :: .pw 0 .pas :: .pw 1 .pas :: .any :: .any :: .any :: .any :: .any :: .any :: .any :: .any :: .any :: .any :: .any :: .any :: .any :: .any :: .any :: .any :: .any :: .any :: .any :: .any :: .any :: .any :: .any :: .any :: .any :: .any :: .any :: .any :: .any :: .any :: .any :: .any :: .ow 2 3 .i64 2 :: .i .i64 3 :: .i .i64 (i:Int) :: .any :: .any :: .any :: .any :: .any :: .any :: .any :: .any :: .any :: .any :: .any :: .any :: .any :: .any :: .any :: .any :: .any :: .any :: .any :: .any :: .any :: .any :: [])) (fun i => [.c .pas a, .c .pas b, .l .i64 [[g], [e], [m]]]) 0 [0, 1, 2] ⟨by omega, fun j hj => by omega⟩ ⟨rfl, rfl, rfl, (by repeat' (first | exact trivial | rfl | apply And.intro)), (by repeat' (first | exact trivial | rfl | apply And.intro)), rfl, rfl, rfl⟩ fun i ⟨hle, hr⟩ ih => ?_
    have hin : i = 3 → inB g ∧ inB e ∧ inB m := fun h => by subst h; exact ⟨hr 0 (by omega), hr 1 (by omega), hr 2 (by omega)⟩
    have hin' := hin
    unfold inB at hin'
    obtain ⟨la, ia⟩ := spots_ok h1.1
    obtain ⟨lb, ib⟩ := spots_ok h2.1
    have sa := sum_spots h1
    have sb := sum_spots h2
    refine Goes.tree Γ_ok htb 1000 false false Try.func46 rfl ?_
    ((try simp only [decide_eq_true_eq, decide_eq_false_iff_not, Bool.not_eq_true', Bool.not_eq_false', Bool.not_true, Bool.not_false, Bool.and_eq_true, Bool.or_eq_true, bne_iff_ne, beq_iff_eq, ne_eq]); (try simp only [rng, lo, hi, mnI, mxI, Int.toNat_natCast, Sg.n, Nat.mul_one, Nat.zero_add, Nat.add_zero, Nat.reduceAdd, List.getD_cons_zero, List.getD_cons_succ, sa, sb]))
    ((repeat' (first | (with_reducible apply And.intro) | intro _)); all_goals (first | exact trivial | (with_reducible assumption) | (show (_ : List Blk) = _; rfl) | (first | exact trivial | (with_reducible assumption) | omega | (split <;> omega) | (split <;> split <;> omega)) | skip); all_goals (try (refine ⟨rfl, (by first | exact Nat.le_refl _ | exact Nat.le_of_ble_eq_true rfl), rfl, rfl, ?_, (by repeat' (first | exact trivial | rfl | apply And.intro)), rfl, rfl⟩)))
    · rename_i hi3 hno
      have hn : ¬ (inB g ∧ inB e ∧ inB m) := fun h => by
        have : i = 0 ∨ i = 1 ∨ i = 2 := by omega
        rcases this with rfl | rfl | rfl
        · exact hno h.1
        · exact hno h.2.1
        · exact hno h.2.2
      have hc : balC a b g e m = 2 := by unfold balC; rw [if_pos ⟨h1, h2⟩, if_pos ⟨h3, h4⟩, if_neg hn]
      rw [hc]; exact sameA_refl _
    · rename_i hi3 hyes
      refine ⟨ih (i + 1) ⟨by omega, fun j hj => ?_⟩ (by omega) [0, 1, 2] _ _ ⟨rfl, rfl, rfl, (by repeat' (first | exact trivial | rfl | apply And.intro)), (by repeat' (first | exact trivial | rfl | apply And.intro)), rfl, rfl, rfl⟩⟩
      by_cases hji : j = i
      · subst hji; exact hyes
      · exact hr j (by omega)
    · exact ib _ ‹_›
    · exact ia _ ‹_›
    · have hc : balC a b g e m = 0 := by unfold balC; rw [if_pos ⟨h1, h2⟩, if_pos ⟨h3, h4⟩, if_pos (hin (by omega))]
      rw [if_pos hc, hc]; exact sameA_refl _
  all_goals (refine sameA_t2 ?_ ?_ <;> simp [balC, inB, *, -List.getD_eq_getElem?_getD])
set_option maxRecDepth 100000 in
theorem l_ExactBalanceOf (x0 : List Int) (x1 : List Int) (x2 : Int) (x3 : Int) (x4 : Int) : SpecOK Try.prog 14 [.ag .pas x0, .ag .pas x1, .i .i64 x2, .i .i64 x3, .i .i64 x4] [] (.d true) [] := by
  have htb := (TbOk.cons s_specBalance Try.func45 rfl rfl (TbOk.cons s_implBalance Try.func46 rfl rfl (TbOk.cons s_toPasture Try.func16 rfl rfl (TbOk.nil : TbOk Try.prog tb0))))
  refine SpecOK.of_goes [] Try.func14 rfl ?_
  refine Goes.tree Γ_ok htb 1000 false false Try.func14 rfl ?_
  (repeat' (first | (with_reducible apply And.intro) | intro _))
  all_goals (first | exact trivial | (show (_ : List Blk) = _; rfl) | ((refine ⟨rfl, (by first | exact Nat.le_refl _ | exact Nat.le_of_ble_eq_true rfl), rfl, rfl, ?_, (by repeat' (first | exact trivial | rfl | apply And.intro)), rfl, rfl⟩); first | exact sameA_refl _ | (exfalso; simp_all)) | (simp_all))
end Go.Proofs.Ytpdghhmpbakckaa
namespace Go.Proofs.Ytpdghhmpbakckaa.fnExactBalanceOf
open Go Go.Eng Go.ChangeShapes Go.WideShapes Go.ChangeAt Go.RowKit
theorem own : ownKnob Try.prog.godebug = none := by kernel_rfl
theorem laidOut : laidOutB Try.prog = true := by kernel_rfl
set_option maxRecDepth 100000 in
theorem lifted (os : Os) (started : os.Started) (H : Type) (enc : TypeId × Value → H) :
    ReturnsInHanded {} Try.checked os 14 .any (Rows.fnExactBalanceOfSpec.pre6 enc Try.prog Try.f14 Rows.fnExactBalanceOfRow.domain false) (Rows.fnExactBalanceOfSpec.post enc Try.prog Try.f14 false true false false) := by
  refine returnsInHanded_of_change_sized (C := Try.checked) own started (by kernel_rfl) Try.func14
    (ChangeSpec.witness6 (enc := enc) (C := Try.checked) false ⟨#[], #[zeroV .pas, zeroV .pas, .int .i64 0, .int .i64 0, .int .i64 0], []⟩ 8 (by kernel_rfl) (by kernel_rfl) (by kernel_rfl) (by kernel_rfl)) ?_
  intro W base args ds gs before hval0 hW hcnd hsz0 _
  have hval : ∀ (j : Nat) t v, Try.f14.params[j]? = some t → args[j]? = some v → Value.okWide Try.prog W .any base t v := hval0
  have hW' := hW
  obtain ⟨p, q, hA0, hV, rfl, hfz, hnd⟩ := hW
  have hA : DataW.TrodAll enc Try.prog W 0 (fun _ => true) true Try.f14.params.toList args.toList ds p := hA0
  rw [Try.params14] at hA hval
  obtain ⟨v0, vs0, d0, ds0, p0, q0, hargs, rfl, rfl, h0, r0⟩ := trodAll_cons hA
  obtain ⟨v1, vs1, d1, ds1, p1, q1, rfl, rfl, rfl, h1, r1⟩ := trodAll_cons r0
  obtain ⟨v2, vs2, d2, ds2, p2, q2, rfl, rfl, rfl, h2, r2⟩ := trodAll_cons r1
  obtain ⟨v3, vs3, d3, ds3, p3, q3, rfl, rfl, rfl, h3, r3⟩ := trodAll_cons r2
  obtain ⟨v4, vs4, d4, ds4, p4, q4, rfl, rfl, rfl, h4, r4⟩ := trodAll_cons r3
  obtain ⟨rfl, rfl, rfl⟩ := trodAll_nil r4
  obtain rfl : args = #[v0, v1, v2, v3, v4] := by cases args; simp_all
  obtain ⟨rfl, rfl⟩ := trodVars_none hV
  obtain ⟨x0, e0, z0, l0, c0⟩ := open_agg Γ_ok (σ := .pas) rfl rfl (by decide) rfl (hval 0 _ v0 rfl rfl) h0
  obtain ⟨x1, e1, z1, l1, c1⟩ := open_agg Γ_ok (σ := .pas) rfl rfl (by decide) rfl (hval 1 _ v1 rfl rfl) h1
  obtain ⟨x2, e2, _, z2, w2⟩ := open_int Try.underlying2 (hval 2 _ v2 rfl rfl) h2
  obtain ⟨x3, e3, _, z3, w3⟩ := open_int Try.underlying2 (hval 3 _ v3 rfl rfl) h3
  obtain ⟨x4, e4, _, z4, w4⟩ := open_int Try.underlying2 (hval 4 _ v4 rfl rfl) h4
  subst z0 z1 z2 z3 z4
  clear hA0 hval0 hsz0
  refine (l_ExactBalanceOf x0 x1 x2 x3 x4 ⟨fun _ => ⟨0, 0, 0, .none, 0⟩, fun k => W.heap[k]?⟩ [v0, v1, v2, v3, v4] W ⟨⟨e0, l0, c0, rfl⟩, ⟨e1, l1, c1, rfl⟩, ⟨e2, rng_wf w2⟩, ⟨e3, rng_wf w3⟩, ⟨e4, rng_wf w4⟩, trivial⟩ (mrel_nil fun _ _ h => h) (fun x hx i hi => (by simp at hx; rcases hx with rfl | rfl | rfl | rfl | rfl <;> cases hi))).mono fun e W' ⟨v, ρ', he, hv, hAft, _⟩ => ?_
  subst he
  obtain rfl : v = .bool true := hv
  have bel := hAft.below
  have t0 := Below.trod laidOut (by kernel_rfl) (by decide +kernel) h0 bel (fun x hx => (by cases hx))
  have t1 := Below.trod laidOut (by kernel_rfl) (by decide +kernel) h1 bel (fun x hx => (by cases hx))
  have t2 := Below.trod laidOut (by kernel_rfl) (by decide +kernel) h2 bel (fun x hx => (by cases hx))
  have t3 := Below.trod laidOut (by kernel_rfl) (by decide +kernel) h3 bel (fun x hx => (by cases hx))
  have t4 := Below.trod laidOut (by kernel_rfl) (by decide +kernel) h4 bel (fun x hx => (by cases hx))
  exact ⟨_, rfl, _, _, _, [], _, [], hW', trodAll_mk1 (shut_bool Try.underlying4 _), (trodAll_cons_mk t0 (trodAll_cons_mk t1 (trodAll_cons_mk t2 (trodAll_cons_mk t3 (trodAll_cons_mk t4 trodAll_mk0))))), rfl, bel.frame _, fun h => (by cases h)⟩
theorem over : Rows.fnExactBalanceOfRow.holds Try.pinned (OpenSpec.ofChange Rows.fnExactBalanceOfSpec) :=
  OpenClaim.holds_of_wide 14 Try.f14 rfl rfl rfl rfl rfl rfl rfl ⟨rfl, rfl, rfl, rfl, rfl⟩ rfl rfl rfl rfl rfl (by kernel_rfl) Try.func14 (by kernel_rfl)
    (of_decide_eq_true (by kernel_rfl)) (by unfold Func.isWrapper; first | (rw [if_pos (by decide +kernel)]; kernel_rfl) | (rw [if_neg (by decide +kernel)]; exact ⟨rfl, rfl⟩))
    (fun os started H enc _ => lifted os started H enc)
end Go.Proofs.Ytpdghhmpbakckaa.fnExactBalanceOf
namespace Go.Proofs.Ytpdghhmpbakckaa
theorem fnExactBalanceOf_holds : Rows.FnExactBalanceOfSaid := fnExactBalanceOf.over
#print axioms fnExactBalanceOf_holds
end Go.Proofs.Ytpdghhmpbakckaa

