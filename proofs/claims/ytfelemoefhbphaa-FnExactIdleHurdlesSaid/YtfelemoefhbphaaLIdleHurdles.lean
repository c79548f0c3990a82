/- The row IdleHurdles: the spec and the program count the same hurdles. -/
import Derived.Test.YtfelemoefhbphaaIdl
import Derived.Test.YtfelemoefhbphaaEqs
namespace Go.Proofs.Ytfelemoefhbphaa
open Go Go.Eng
set_option linter.unusedSimpArgs false
set_option linter.unusedVariables false
set_option maxRecDepth 100000
set_option maxHeartbeats 4000000

def bitsS : Fun
  | [.i .u16 v], [] => some (.i .i64 (cJ v 16), [], [0 ≤ v ∧ v ≤ 65535])
  | _, _ => .none
theorem cJ_rng {v : Int} (h0 : 0 ≤ v) (h1 : v ≤ 65535) : ∀ j, 0 ≤ cJ v j ∧ cJ v j ≤ j := by
  intro j
  induction j with
  | zero => simp [cJ]
  | succ j ih =>
    have h2 := vJ_rng h0 h1 j
    unfold cJ
    rw [and_one h2.1 (by omega)]
    omega
set_option maxRecDepth 100000 in
theorem s_l01Bits : Sound Try.prog 131 bitsS := by
  intro args M r M' vs h hvs
  unfold bitsS at h
  split at h
  case h_2 => cases h
  rename_i v
  cases h
  refine SpecOK.assume fun hA hM => ?_
  have htb := (TbOk.nil : TbOk Try.prog tb0)
  refine SpecOK.of_goes [] Try.func131 rfl ?_
  obtain ⟨⟨h0, h1⟩, -⟩ := hvs
  clear hA hM
  refine Goes.tree Γ_ok htb 1000 false false Try.func131 rfl ?_
  refine ⟨?_⟩
  refine Goes.loopR (fun i : Nat => 16 - i) (fun i => i ≤ 16) (fun i => (.i .u16 (vJ v i) :: .any :: .any :: .i .i64 (cJ v i) :: .any :: .any :: .any :: .any :: .any :: .any :: .any :: .any :: .any :: .any :: [])) (fun _ => []) 0 [] (Nat.zero_le _) ⟨rfl, rfl, rfl, (by repeat' (first | exact trivial | rfl | apply And.intro)), (by repeat' (first | exact trivial | rfl | apply And.intro)), rfl, rfl, rfl⟩ fun i hle ih => ?_
  have r1 := vJ_rng h0 h1 i
  have r2 := cJ_rng h0 h1 i
  have a1 := and_one (m := vJ v i) r1.1 (by omega)
  have hb : 0 ≤ bitsI .and .u16 (vJ v i) 1 ∧ bitsI .and .u16 (vJ v i) 1 ≤ 1 := by rw [a1]; omega
  have r3 := vJ_rng h0 h1 (i + 1)
  have e3 : vJ v (i + 1) = (vJ v i).fdiv (2 ^ (min 1 IntKind.u16.bits)) := rfl
  have hend := vJ_end h0 h1
  have h16 : i = 16 → vJ v i = 0 := fun h => by rw [h]; exact hend
  rw [e3] at r3
  refine Goes.tree Γ_ok htb 1000 false false Try.func131 rfl ?_
  ((try simp only [decide_eq_true_eq, decide_eq_false_iff_not, Bool.not_eq_true', Bool.not_eq_false', Bool.not_true, Bool.not_false, Bool.and_eq_true, Bool.or_eq_true, bne_iff_ne, beq_iff_eq, ne_eq]); (try simp only [rng, lo, hi, mnI, mxI, Int.toNat_natCast, Sg.n, Nat.mul_one, Nat.zero_add, Nat.add_zero, Nat.reduceAdd, List.getD_cons_zero, List.getD_cons_succ]))
  ((repeat' (first | (with_reducible apply And.intro) | intro _)); all_goals (first | exact trivial | (with_reducible assumption) | (show (_ : List Blk) = _; rfl) | (first | exact trivial | (with_reducible assumption) | omega | (split <;> omega) | (split <;> split <;> omega)) | skip); all_goals (try (refine ⟨rfl, (by first | exact Nat.le_refl _ | exact Nat.le_of_ble_eq_true rfl), rfl, rfl, ?_, (by repeat' (first | exact trivial | rfl | apply And.intro)), rfl, rfl⟩)))
  · exact r3.1
  · exact r3.2
  · exact ⟨ih (i + 1) (by omega) (by omega) [] _ _ ⟨rfl, rfl, rfl, (by repeat' (first | exact trivial | rfl | apply And.intro)), (by repeat' (first | exact trivial | rfl | apply And.intro)), rfl, rfl, rfl⟩⟩
  · have hz : vJ v i = 0 := by omega
    refine sameA_i ?_
    exact (cJ_stop h0 h1 hle hz).symm

def hurdlesNS : Fun
  | [.pw 0 .pas], [.c .pas p] => some (.i .i64 (sN (cntY p) 10), [.c .pas p], [])
  | _, _ => .none
set_option maxRecDepth 100000 in
theorem s_l01Hurdles : Sound Try.prog 85 hurdlesNS := by
  intro args M r M' vs h hvs
  unfold hurdlesNS at h
  split at h
  case h_2 => cases h
  rename_i p
  cases h
  refine SpecOK.assume fun hA hM => ?_
  have htb := (TbOk.cons s_l01Bits Try.func131 rfl rfl (TbOk.nil : TbOk Try.prog tb0))
  refine SpecOK.of_goes [0] Try.func85 rfl ?_
  have hp := PasOk.of hA.1 hM.1
  clear hA hM
  refine Goes.tree Γ_ok htb 1000 false false Try.func85 rfl ?_
  refine ⟨?_⟩
  refine Goes.loopR (fun y : Nat => 10 - y) (fun y => y ≤ 10 ∧ 0 ≤ sN (cntY p) y ∧ sN (cntY p) y ≤ 32 * y) (fun y => (.pw 0 .pas :: .any :: .any :: .i .i64 (sN (cntY p) y) :: .i .i64 (y:Int) :: .any :: .any :: .any :: .any :: .any :: .any :: .any :: .any :: .any :: .any :: .any :: .any :: .any :: .any :: .any :: .any :: .any :: .any :: .any :: .any :: .any :: .any :: [])) (fun _ => [.c .pas p]) 0 [0] ⟨Nat.zero_le _, by simp [sN], by simp [sN]⟩ ⟨rfl, rfl, rfl, (by repeat' (first | exact trivial | rfl | apply And.intro)), (by repeat' (first | exact trivial | rfl | apply And.intro)), rfl, rfl, rfl⟩ fun y ⟨hle, hs0, hs1⟩ ih => ?_
  by_cases hlt : y < 10
  · have e := hp.e' hlt
    have s := hp.s' hlt
    have c1 := cJ_rng e.1 e.2 16
    have c2 := cJ_rng s.1 s.2 16
    have en : sN (cntY p) (y + 1) = sN (cntY p) y + (cJ (p.getD (102 + y) 0) 16 + cJ (p.getD (112 + y) 0) 16) := rfl
    refine Goes.tree Γ_ok htb 1000 false false Try.func85 rfl ?_
    ((try simp only [decide_eq_true_eq, decide_eq_false_iff_not, Bool.not_eq_true', Bool.not_eq_false', Bool.not_true, Bool.not_false, Bool.and_eq_true, Bool.or_eq_true, bne_iff_ne, beq_iff_eq, ne_eq]); (try simp only [rng, lo, hi, mnI, mxI, Int.toNat_natCast, Sg.n, Nat.mul_one, Nat.zero_add, Nat.add_zero, Nat.reduceAdd, List.getD_cons_zero, List.getD_cons_succ]))
    ((repeat' (first | (with_reducible apply And.intro) | intro _)); all_goals (first | exact trivial | (with_reducible assumption) | (show (_ : List Blk) = _; rfl) | (first | exact trivial | (with_reducible assumption) | omega | (split <;> omega) | (split <;> split <;> omega)) | skip); all_goals (try (refine ⟨rfl, (by first | exact Nat.le_refl _ | exact Nat.le_of_ble_eq_true rfl), rfl, rfl, ?_, (by repeat' (first | exact trivial | rfl | apply And.intro)), rfl, rfl⟩)))
    all_goals (try omega)
    exact ⟨ih (y + 1) ⟨by omega, by rw [en]; omega, by rw [en]; omega⟩ (by omega) [0] _ _ ⟨rfl, rfl, rfl, (by repeat' (first | exact trivial | rfl | apply And.intro)), (by repeat' (first | exact trivial | rfl | apply And.intro)), rfl, rfl, rfl⟩⟩
  · obtain rfl : y = 10 := by omega
    clear ih
    refine Goes.tree Γ_ok htb 1000 false false Try.func85 rfl ?_
    ((try simp only [decide_eq_true_eq, decide_eq_false_iff_not, Bool.not_eq_true', Bool.not_eq_false', Bool.not_true, Bool.not_false, Bool.and_eq_true, Bool.or_eq_true, bne_iff_ne, beq_iff_eq, ne_eq]); (try simp only [rng, lo, hi, mnI, mxI, Int.toNat_natCast, Sg.n, Nat.mul_one, Nat.zero_add, Nat.add_zero, Nat.reduceAdd, List.getD_cons_zero, List.getD_cons_succ]))
    ((repeat' (first | (with_reducible apply And.intro) | intro _)); all_goals (first | exact trivial | (with_reducible assumption) | (show (_ : List Blk) = _; rfl) | (first | exact trivial | (with_reducible assumption) | omega | (split <;> omega) | (split <;> split <;> omega)) | skip); all_goals (try (refine ⟨rfl, (by first | exact Nat.le_refl _ | exact Nat.le_of_ble_eq_true rfl), rfl, rfl, ?_, (by repeat' (first | exact trivial | rfl | apply And.intro)), rfl, rfl⟩)))
    all_goals (first | contradiction | exact sameA_refl _ | trace_state)

set_option maxRecDepth 100000 in
theorem s_specIdle : Sound Try.prog 34 idlS := by
  intro args M r M' vs h hvs
  unfold idlS at h
  split at h
  case h_2 => cases h
  rename_i p
  cases h
  refine SpecOK.assume fun hA hM => ?_
  have htb := (TbOk.cons s_l01Ok Try.func61 rfl rfl (TbOk.cons s_l01Dropped Try.func84 rfl rfl (TbOk.cons s_l01Hurdles Try.func85 rfl rfl (TbOk.nil : TbOk Try.prog tb0))))
  refine SpecOK.of_goes [] Try.func34 rfl ?_
  have hp : PasOk p := ⟨hA.1, hA.2.1⟩
  have hc := fun h => idle_eq hp h
  have hl : okP p → (idleL p).length ≤ 200 := fun h => Nat.le_trans (List.length_filter_le _ _) (hurRows_len h.1)
  clear hA hM
  refine Goes.tree Γ_ok htb 1000 false false Try.func34 rfl ?_
  ((try simp only [decide_eq_true_eq, decide_eq_false_iff_not, Bool.not_eq_true', Bool.not_eq_false', Bool.not_true, Bool.not_false, Bool.and_eq_true, Bool.or_eq_true, bne_iff_ne, beq_iff_eq, ne_eq]); (try simp only [rng, lo, hi, mnI, mxI, Int.toNat_natCast, Sg.n, Nat.mul_one, Nat.zero_add, Nat.add_zero, Nat.reduceAdd, List.getD_cons_zero, List.getD_cons_succ]))
  ((repeat' (first | (with_reducible apply And.intro) | intro _)); all_goals (first | exact trivial | (with_reducible assumption) | (show (_ : List Blk) = _; rfl) | (first | exact trivial | (with_reducible assumption) | omega | (split <;> omega) | (split <;> split <;> omega)) | skip); all_goals (try (refine ⟨rfl, (by first | exact Nat.le_refl _ | exact Nat.le_of_ble_eq_true rfl), rfl, rfl, ?_, (by repeat' (first | exact trivial | rfl | apply And.intro)), rfl, rfl⟩)))
  all_goals (try first | exact (‹okP p›).1 | (have := hc (by assumption); have := hl (by assumption); omega))
  · rename_i h
    refine sameA_t2 ?_ ?_ <;> rw [if_neg h]
  · rename_i h
    refine sameA_t2 ?_ ?_ <;> rw [if_pos h]
    exact (hc h).symm

set_option maxRecDepth 100000 in
theorem l_ExactIdleHurdles (x0 : List Int) : SpecOK Try.prog 8 [.ag .pas x0] [] (.d true) [] := by
  have htb := (TbOk.cons s_specIdle Try.func34 rfl rfl (TbOk.cons s_implIdle Try.func35 rfl rfl (TbOk.cons s_toPasture Try.func16 rfl rfl (TbOk.nil : TbOk Try.prog tb0))))
  refine SpecOK.of_goes [] Try.func8 rfl ?_
  skip
  refine Goes.tree Γ_ok htb 1000 false false Try.func8 rfl ?_
  ((try simp only [decide_eq_true_eq, decide_eq_false_iff_not, Bool.not_eq_true', Bool.not_eq_false', Bool.not_true, Bool.not_false, Bool.and_eq_true, Bool.or_eq_true, bne_iff_ne, beq_iff_eq, ne_eq]); (try simp only [rng, lo, hi, mnI, mxI, Int.toNat_natCast, Sg.n, Nat.mul_one, Nat.zero_add, Nat.add_zero, Nat.reduceAdd, List.getD_cons_zero, List.getD_cons_succ]))
  (repeat' (first | (with_reducible apply And.intro) | intro _))
  all_goals (first | exact trivial | (show (_ : List Blk) = _; rfl) | (first | exact trivial | (with_reducible assumption) | omega | (split <;> omega) | (split <;> split <;> omega)) | ((refine ⟨rfl, (by first | exact Nat.le_refl _ | exact Nat.le_of_ble_eq_true rfl), rfl, rfl, ?_, (by repeat' (first | exact trivial | rfl | apply And.intro)), rfl, rfl⟩); first | exact sameA_refl _ | (exfalso; first | simp_all | simp_all)) | (simp_all) | simp_all)
end Go.Proofs.Ytfelemoefhbphaa
namespace Go.Proofs.Ytfelemoefhbphaa.fnExactIdleHurdles
open Go Go.Eng Go.ChangeShapes Go.WideShapes Go.ChangeAt Go.RowKit
theorem own : ownKnob Try.prog.godebug = none := by kernel_rfl
theorem laidOut : laidOutB Try.prog = true := by kernel_rfl
set_option maxRecDepth 100000 in
theorem lifted (os : Os) (started : os.Started) (H : Type) (enc : TypeId × Value → H) :
    ReturnsInHanded {} Try.checked os 8 .any (Rows.fnExactIdleHurdlesSpec.pre6 enc Try.prog Try.f8 Rows.fnExactIdleHurdlesRow.domain false) (Rows.fnExactIdleHurdlesSpec.post enc Try.prog Try.f8 false true false false) := by
  refine returnsInHanded_of_change_sized (C := Try.checked) own started (by kernel_rfl) Try.func8
    (ChangeSpec.witness6 (enc := enc) (C := Try.checked) false ⟨#[], #[zeroV .pas], []⟩ 8 (by kernel_rfl) (by kernel_rfl) (by kernel_rfl) (by kernel_rfl)) ?_
  intro W base args ds gs before hval0 hW hcnd hsz0 _
  have hval : ∀ (j : Nat) t v, Try.f8.params[j]? = some t → args[j]? = some v → Value.okWide Try.prog W .any base t v := hval0
  have hW' := hW
  obtain ⟨p, q, hA0, hV, rfl, hfz, hnd⟩ := hW
  have hA : DataW.TrodAll enc Try.prog W 0 (fun _ => true) true Try.f8.params.toList args.toList ds p := hA0
  rw [Try.params8] at hA hval
  obtain ⟨v0, vs0, d0, ds0, p0, q0, hargs, rfl, rfl, h0, r0⟩ := trodAll_cons hA
  obtain ⟨rfl, rfl, rfl⟩ := trodAll_nil r0
  obtain rfl : args = #[v0] := by cases args; simp_all
  obtain ⟨rfl, rfl⟩ := trodVars_none hV
  obtain ⟨x0, e0, z0, l0, c0⟩ := open_agg Γ_ok (σ := .pas) rfl rfl (by decide) rfl (hval 0 _ v0 rfl rfl) h0
  subst z0
  clear hA0 hval0 hsz0
  refine (l_ExactIdleHurdles x0 ⟨fun _ => ⟨0, 0, 0, .none, 0⟩, fun k => W.heap[k]?⟩ [v0] W ⟨⟨e0, l0, c0, rfl⟩, trivial⟩ (mrel_nil fun _ _ h => h) (fun x hx i hi => (by simp at hx; subst hx; cases hi))).mono fun e W' ⟨v, ρ', he, hv, hAft, _⟩ => ?_
  subst he
  obtain rfl : v = .bool true := hv
  have bel := hAft.below
  have t0 := Below.trod laidOut (by kernel_rfl) (by decide +kernel) h0 bel (fun x hx => (by cases hx))
  exact ⟨_, rfl, _, _, _, [], _, [], hW', trodAll_mk1 (shut_bool Try.underlying4 _), (trodAll_cons_mk t0 trodAll_mk0), rfl, bel.frame _, fun h => (by cases h)⟩
theorem over : Rows.fnExactIdleHurdlesRow.holds Try.pinned (OpenSpec.ofChange Rows.fnExactIdleHurdlesSpec) :=
  OpenClaim.holds_of_wide 8 Try.f8 rfl rfl rfl rfl rfl rfl rfl ⟨rfl, rfl, rfl, rfl, rfl⟩ rfl rfl rfl rfl rfl (by kernel_rfl) Try.func8 (by kernel_rfl)
    (of_decide_eq_true (by kernel_rfl)) (by unfold Func.isWrapper; first | (rw [if_pos (by decide +kernel)]; kernel_rfl) | (rw [if_neg (by decide +kernel)]; exact ⟨rfl, rfl⟩))
    (fun os started H enc _ => lifted os started H enc)
end Go.Proofs.Ytfelemoefhbphaa.fnExactIdleHurdles
namespace Go.Proofs.Ytfelemoefhbphaa
theorem fnExactIdleHurdles_holds : Rows.FnExactIdleHurdlesSaid := fnExactIdleHurdles.over
#print axioms fnExactIdleHurdles_holds
end Go.Proofs.Ytfelemoefhbphaa

