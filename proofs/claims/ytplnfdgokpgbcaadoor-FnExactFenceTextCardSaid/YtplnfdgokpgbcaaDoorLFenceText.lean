/- The row FenceText: the spec and the program write the same text of a fence. -/
import Derived.Test.YtplnfdgokpgbcaaDoorFen
import Derived.Test.YtplnfdgokpgbcaaDoorCards
import Derived.Test.YtplnfdgokpgbcaaDoorTie
import Derived.OpenShut
import Derived.Deep.DeepHandedRow
import Derived.Lib.LaidTab
import Derived.Lay
namespace Go.Proofs.YtplnfdgokpgbcaaDoor
open Go Go.Eng
set_option linter.unusedSimpArgs false
set_option linter.unusedVariables false
set_option maxRecDepth 100000
set_option maxHeartbeats 4000000

set_option maxRecDepth 100000 in
theorem l_ExactFenceText (x0 : List (List Int)) : SpecOK Tryd.prog 5 [.fs .hur x0] [] (.d true) [] := by
  have htb := (TbOk.cons s_szHurdleS Tryd.func17 rfl rfl (TbOk.cons s_toHurdleS Tryd.func19 rfl rfl (TbOk.cons s_specFence Tryd.func18 rfl rfl (TbOk.cons s_implFence Tryd.func20 rfl rfl (TbOk.cons s_eqHurdleE Tryd.func21 rfl rfl (TbOk.nil : TbOk Tryd.prog tb0))))))
  refine SpecOK.of_goes [] Tryd.func5 rfl ?_
  have kz0 := szN_ok (1048576) x0.length
  refine Goes.tree Γ_ok htb 1000 false false Tryd.func5 rfl ?_
  ((try simp only [decide_eq_true_eq, decide_eq_false_iff_not, Bool.not_eq_true', Bool.not_eq_false', Bool.not_true, Bool.not_false, Bool.and_eq_true, Bool.or_eq_true, bne_iff_ne, beq_iff_eq, ne_eq]); (try simp only [rng, lo, hi, mnI, mxI, Int.toNat_natCast, Sg.n, Nat.mul_one, Nat.zero_add, Nat.add_zero, Nat.reduceAdd, List.getD_cons_zero, List.getD_cons_succ]))
  (repeat' (first | (with_reducible apply And.intro) | intro _))
  all_goals (first | exact trivial | (show (_ : List Blk) = _; rfl) | (first | exact trivial | (with_reducible assumption) | omega | (split <;> omega) | (split <;> split <;> omega)) | ((refine ⟨rfl, (by first | exact Nat.le_refl _ | exact Nat.le_of_ble_eq_true rfl), rfl, rfl, ?_, (by repeat' (first | exact trivial | rfl | apply And.intro)), rfl, rfl⟩); first | exact sameA_refl _ | (exfalso; first | omega | simp_all)) | (omega) | simp_all)
end Go.Proofs.YtplnfdgokpgbcaaDoor
namespace Go.Proofs.YtplnfdgokpgbcaaDoor.fnExactFenceText
open Go Go.Eng Go.ChangeShapes Go.WideShapes Go.ChangeAt Go.RowKit
theorem own : ownKnob Tryd.prog.godebug = none := by kernel_rfl
theorem laidOut : laidOutB Tryd.prog = true := by kernel_rfl
theorem laid_met (os : Os) : laidMet Tryd.prog Rows.fnExactFenceTextRow.laid ((World.laidAll Tryd.prog os Rows.fnExactFenceTextRow.laid).forCall (fun _ _ => 0) ⟨#[], #[.slice none 0 0], []⟩).memory :=
  laidMet_laidAll _ (by kernel_rfl) (by kernel_rfl)
theorem reads (os : Os) {H : Type} (enc : TypeId × Value → H) : ∃ ds places, DataW.whole enc Tryd.prog ((World.laidAll Tryd.prog os Rows.fnExactFenceTextRow.laid).forCall (fun _ _ => 0) ⟨#[], #[.slice none 0 0], []⟩).memory Tryd.f5.params.toList Rows.fnExactFenceTextSpec.vars false (#[.slice none 0 0] : Array Value).toList 8 = some (ds, [], places) := by
  have h : (DataW.whole enc Tryd.prog ((World.laidAll Tryd.prog os Rows.fnExactFenceTextRow.laid).forCall (fun _ _ => 0) ⟨#[], #[.slice none 0 0], []⟩).memory Tryd.f5.params.toList Rows.fnExactFenceTextSpec.vars false (#[.slice none 0 0] : Array Value).toList 8).map (fun x => x.2.1.length) = some 0 := by kernel_rfl
  obtain ⟨⟨ds, gs, pl⟩, h1, h2⟩ := Option.map_eq_some_iff.1 h
  obtain rfl : gs = [] := List.eq_nil_of_length_eq_zero h2
  exact ⟨ds, pl, h1⟩
set_option maxRecDepth 100000 in
theorem lifted (os : Os) (started : os.Started) (H : Type) (enc : TypeId × Value → H) (F : Stop.Interp) :
    ReturnsInHanded {} Tryd.checked os 5 .any ((OpenSpec.ofChange Rows.fnExactFenceTextSpec).preRow enc Tryd.prog Tryd.f5 Rows.fnExactFenceTextRow.domain false Rows.fnExactFenceTextRow.laid) (((OpenSpec.ofChange Rows.fnExactFenceTextSpec).at F).post enc Tryd.prog Tryd.f5 false true false false) := by
  obtain ⟨ds0, places, hx⟩ := reads os enc
  refine returnsInHanded_of_row (C := Tryd.checked) (s := OpenSpec.ofChange Rows.fnExactFenceTextSpec) own started (by kernel_rfl) Tryd.func5
    (witness_row_at (enc := enc) (C := Tryd.checked) false (World.laidAll Tryd.prog os Rows.fnExactFenceTextRow.laid) #[.slice none 0 0] (World.laidAll_os _ _ _) (by kernel_rfl) (by kernel_rfl) (by kernel_rfl)
      (OpenSpec.preRow_of_cond 8 hx (by kernel_rfl) (fun k hk => by cases hk) (by kernel_rfl) (laid_met os))) ?_
  intro W base args ds gs before hval0 hW _ _ _ hL _ _
  have hval : ∀ (j : Nat) t v, Tryd.f5.params[j]? = some t → args[j]? = some v → Value.okWide Tryd.prog W .any base t v := hval0
  have hW' := hW
  obtain ⟨p, q, hA0, hV, rfl, hfz, hnd⟩ := hW
  have hA : DataW.TrodAll enc Tryd.prog W 0 (fun _ => true) true Tryd.f5.params.toList args.toList ds p := hA0
  rw [Tryd.params5] at hA hval
  obtain ⟨v0, vs0, d0, ds0, p0, q0, hargs, rfl, rfl, h0, r0⟩ := trodAll_cons hA
  obtain ⟨rfl, rfl, rfl⟩ := trodAll_nil r0
  obtain rfl : args = #[v0] := by cases args; simp_all
  obtain ⟨rfl, rfl⟩ := trodVars_none hV
  obtain ⟨x0, g0, m0⟩ := open_rows Γ_ok (σ := .hur) Tryd.underlying38 rfl rfl (by decide) (hval 0 _ v0 rfl rfl) h0
  have z0 := trod_lt' h0

  clear hA0 hval0
  refine (l_ExactFenceText x0 ⟨fun _ => ⟨0, 0, 0, .none, 0⟩, fun k => W.heap[k]?⟩ [v0] W ⟨den_fs g0 rfl, trivial⟩ (mrel_nil fun _ _ h => h) (fun x hx i hi => (by simp at hx; subst hx; cases hi))).mono fun e W' ⟨v, ρ', he, hv, hAft, _⟩ => ?_
  subst he
  obtain rfl : v = .bool true := hv
  have bel := hAft.below
  have t0 := Below.trod laidOut (by kernel_rfl) (by decide +kernel) h0 bel z0
  exact ⟨_, rfl, _, _, _, [], _, [], hW', trodAll_mk1 (shut_bool Tryd.underlying4 _), (trodAll_cons_mk t0 trodAll_mk0), rfl, bel.frame _, fun h => (by cases h)⟩
theorem and_t {a b : Bool} (h : a = true) (h' : b = true) : (a && b) = true := by rw [h, h']; rfl
set_option maxHeartbeats 4000000 in
theorem facts : joinedFacts Tryd.pinned.checked.prog 5 Tryd.f5 Rows.fnExactFenceTextSpec Rows.fnExactFenceTextRow = true := by
  unfold joinedFacts
  repeat' (with_reducible apply and_t)
  all_goals (as_aux_lemma => kernel_rfl)
theorem over : Rows.FnExactFenceTextSaid :=
  OpenClaim.holds_of_cond 5 Tryd.f5 rfl rfl rfl rfl rfl rfl rfl ⟨rfl, rfl, rfl, rfl, rfl⟩ rfl rfl rfl rfl rfl (by kernel_rfl) Tryd.func5 facts
    (of_decide_eq_true (by kernel_rfl)) (by unfold Func.isWrapper; first | (rw [if_pos (by decide +kernel)]; kernel_rfl) | (rw [if_neg (by decide +kernel)]; exact ⟨rfl, rfl⟩))
    (fun os started H enc _ F => by rw [OpenClaim.pre_eq_preRow]; exact lifted os started H enc F)
theorem plain (f : FuncId) (fn : Func) (hf : Tryd.pinned.checked.prog.funcNamed "loop.example/g01345/laws.FnExactFenceText" = some f) (hfn : Tryd.pinned.checked.prog.funcs[f]? = some fn) :
    true = Tryd.pinned.checked.prog.looks [] ∧ ∀ (j : Nat) t, fn.params[j]? = some t → Tryd.pinned.checked.prog.wantsStandIn t = false := by
  obtain rfl : f = 5 := Option.some.inj ((show Tryd.prog.funcNamed "loop.example/g01345/laws.FnExactFenceText" = some 5 by kernel_rfl).symm.trans hf) |>.symm
  obtain rfl : fn = Tryd.f5 := (Option.some.inj (Tryd.func5.symm.trans hfn)).symm
  refine ⟨by kernel_rfl, fun j t ht => ?_⟩
  have hall : (Tryd.f5.params.toList.all fun u => !Tryd.prog.wantsStandIn u) = true := by kernel_rfl
  exact (show Tryd.prog.wantsStandIn t = false by simpa using List.all_eq_true.1 hall t (Array.mem_toList_iff.2 (Array.mem_of_getElem? ht)))
theorem card : Rows.FnExactFenceTextCardSaid :=
  Claim7.holds_tied_plain_at .later [] _ _ _ _ over (fun _ h => by cases h) (by kernel_rfl) (fun _ h => by cases h) fnExactFenceText_row_tie rfl ⟨rfl, rfl⟩ (by kernel_rfl) rfl plain (by kernel_rfl)
end Go.Proofs.YtplnfdgokpgbcaaDoor.fnExactFenceText
namespace Go.Proofs.YtplnfdgokpgbcaaDoor
theorem fnExactFenceText_holds : Rows.FnExactFenceTextCardSaid := fnExactFenceText.card
#print axioms fnExactFenceText_holds
end Go.Proofs.YtplnfdgokpgbcaaDoor

