/- The row ReadGoats: the spec and the program read the same goats from a text. -/
import Derived.Test.YtplnfdgokpgbcaaDoorLnF
import Derived.Test.YtplnfdgokpgbcaaDoorRgF
import Derived.Test.YtplnfdgokpgbcaaDoorMarksG
import Derived.Test.YtplnfdgokpgbcaaDoorCards
import Derived.Test.YtplnfdgokpgbcaaDoorTie
import Derived.OpenShut
import Derived.Deep.DeepHandedRow
import Derived.Deep.DeepWitnessRowRef
import Derived.Stop.LaidErr
import Derived.Shelf.Vars
import Derived.Lib.LaidTab
import Derived.Lay
import Derived.ChangeMaps5
namespace Go.Proofs.YtplnfdgokpgbcaaDoor
open Go Go.Eng
set_option linter.unusedSimpArgs false
set_option linter.unusedVariables false
set_option maxRecDepth 100000
set_option maxHeartbeats 4000000

theorem l_ExactReadGoats (x0 : ByteArray) : SpecOK Tryd.prog 8 [.s x0] [] (.d true) [] := by
  by_cases hc : gsP x0
  · have hlen : (gsV (splL x0 10) (gsN x0)).length ≤ 20 := by
      have hpos := splL_pos x0 10
      rw [gsV_len (by unfold gsN; omega)]; exact hc.2.1
    have htb := (TbOk.cons s_specReadGoats Tryd.func29 rfl rfl (TbOk.cons s_readGoatsOk Tryd.func30 rfl rfl (TbOk.cons s_eqGoatO Tryd.func16 rfl rfl (TbOk.cons s_markGoatS Tryd.func31 rfl rfl (TbOk.cons s_heldGoatS Tryd.func32 rfl rfl (TbOk.nil : TbOk Tryd.prog tb0))))))
    refine SpecOK.of_goes [] Tryd.func8 rfl ?_
    refine Goes.tree Γ_ok htb 1000 false false Tryd.func8 rfl ?_
    ((try simp only [decide_eq_true_eq, decide_eq_false_iff_not, Bool.not_eq_true', Bool.not_eq_false', Bool.not_true, Bool.not_false, Bool.and_eq_true, Bool.or_eq_true, bne_iff_ne, beq_iff_eq, ne_eq]); (try simp only [rng, lo, hi, mnI, mxI, Int.toNat_natCast, Sg.n, Nat.mul_one, Nat.zero_add, Nat.add_zero, Nat.reduceAdd, List.getD_cons_zero, List.getD_cons_succ, if_pos hc]))
    (repeat' (first | (with_reducible apply And.intro) | intro _))
    all_goals (first | exact trivial | exact absurd trivial (by assumption) | (first | exact trivial | (with_reducible assumption) | omega | (split <;> omega) | (split <;> split <;> omega)) | exact hc | skip)
    all_goals (try (refine ⟨rfl, (by first | exact Nat.le_refl _ | exact Nat.le_of_ble_eq_true rfl), rfl, rfl, ?_, (by repeat' (first | exact trivial | rfl | apply And.intro)), rfl, rfl⟩))
    all_goals (first | exact sameA_refl _ | omega | exact Nat.zero_le _ | exact absurd rfl (by assumption) | exact hc (by assumption) | exact absurd hc (by assumption))
  · have htb := (TbOk.cons s_specReadGoats Tryd.func29 rfl rfl (TbOk.cons s_readGoatsErr Tryd.func30 rfl rfl (TbOk.cons s_eqNilGoat Tryd.func16 rfl rfl (TbOk.cons s_markNilG Tryd.func31 rfl rfl (TbOk.cons s_heldNilG Tryd.func32 rfl rfl (TbOk.nil : TbOk Tryd.prog tb0))))))
    refine SpecOK.of_goes [] Tryd.func8 rfl ?_
    refine Goes.tree Γ_ok htb 1000 false false Tryd.func8 rfl ?_
    ((try simp only [decide_eq_true_eq, decide_eq_false_iff_not, Bool.not_eq_true', Bool.not_eq_false', Bool.not_true, Bool.not_false, Bool.and_eq_true, Bool.or_eq_true, bne_iff_ne, beq_iff_eq, ne_eq]); (try simp only [rng, lo, hi, mnI, mxI, Int.toNat_natCast, Sg.n, Nat.mul_one, Nat.zero_add, Nat.add_zero, Nat.reduceAdd, List.getD_cons_zero, List.getD_cons_succ, if_neg hc]))
    (repeat' (first | (with_reducible apply And.intro) | intro _))
    all_goals (first | exact trivial | exact absurd trivial (by assumption) | (first | exact trivial | (with_reducible assumption) | omega | (split <;> omega) | (split <;> split <;> omega)) | exact hc | skip)
    all_goals (try (refine ⟨rfl, (by first | exact Nat.le_refl _ | exact Nat.le_of_ble_eq_true rfl), rfl, rfl, ?_, (by repeat' (first | exact trivial | rfl | apply And.intro)), rfl, rfl⟩))
    all_goals (first | exact sameA_refl _ | omega | exact Nat.zero_le _ | exact absurd rfl (by assumption) | exact hc (by assumption) | exact absurd hc (by assumption))
end Go.Proofs.YtplnfdgokpgbcaaDoor
namespace Go.Proofs.YtplnfdgokpgbcaaDoor.fnExactReadGoats
open Go Go.Eng Go.ChangeShapes Go.WideShapes Go.ChangeAt Go.RowKit
theorem own : ownKnob Tryd.prog.godebug = none := by kernel_rfl
theorem laidOut : laidOutB Tryd.prog = true := by kernel_rfl
theorem pow10_data : (Rows.laid_internal_strconv_uint64pow10 : DataW Unit) = Lib.tabData .u64 Lib.pow10Tab := by kernel_rfl
theorem table {W : World} (h : laidMetH Tryd.prog Rows.fnExactReadGoatsRow.laid W) : Lib.TabIs Tryd.prog W "internal/strconv.uint64pow10" .u64 Lib.pow10Tab := by
  rw [MakeChecks.laidMetH_plain _ _ _ (by kernel_rfl)] at h
  have h2 : laidMet Tryd.prog (("internal/strconv.uint64pow10", Rows.laid_internal_strconv_uint64pow10) :: _) W := laid_tail (laid_tail h)
  rw [pow10_data] at h2
  exact Lib.tabIs_of_head (g := 0) (by kernel_rfl) (by kernel_rfl) Tryd.underlying171 Tryd.underlying159 (by kernel_rfl) (by kernel_rfl) h2
theorem star : "*" ++ "errors.errorString" = "*errors.errorString" := by decide
theorem rowE (u : TypeId) (h : Tryd.prog.typeName? 3 u = some "*errors.errorString") : u = 196 :=
  typeName_ptr_named (nm := "errors.errorString") (by rw [star]; kernel_rfl) (by kernel_rfl) (by decide) u (by rw [star]; exact h)
theorem globAll {W : World} (h : laidMetH Tryd.prog Rows.fnExactReadGoatsRow.laid W) (hS : W.ShapedOpen Tryd.prog) : globFacts W := by
  refine ⟨table h, Go.Proofs.cell_of_shapedOpen_int (zero := #[.int .i64 0]) (t := 3) hS (of_decide_eq_true (by kernel_rfl)) (by kernel_rfl) rfl (by kernel_rfl) (by kernel_rfl) Tryd.underlying3, ?_, ?_⟩
  all_goals rw [MakeChecks.laidMetH_plain _ _ _ (by kernel_rfl)] at h
  · have h2 : laidMet Tryd.prog (("strconv.ErrSyntax", Rows.laid_strconv_ErrSyntax) :: _) W := laid_tail (laid_tail (laid_tail (laid_tail (laid_tail h))))
    obtain ⟨a, _, hv, _⟩ := laid_sentinel h2 (g := 4) (by kernel_rfl) (by kernel_rfl) Tryd.underlying88 rowE Tryd.underlying196 Tryd.underlying198 rfl rfl Tryd.underlying9 (by kernel_rfl) (by kernel_rfl)
    exact ⟨_, _, hv⟩
  · have h2 : laidMet Tryd.prog (("strconv.ErrRange", Rows.laid_strconv_ErrRange) :: _) W := laid_tail (laid_tail (laid_tail (laid_tail h)))
    obtain ⟨a, _, hv, _⟩ := laid_sentinel h2 (g := 5) (by kernel_rfl) (by kernel_rfl) Tryd.underlying88 rowE Tryd.underlying196 Tryd.underlying198 rfl rfl Tryd.underlying9 (by kernel_rfl) (by kernel_rfl)
    exact ⟨_, _, hv⟩
theorem laid_met (os : Os) : laidMet Tryd.prog Rows.fnExactReadGoatsRow.laid ((World.laidAll Tryd.prog os Rows.fnExactReadGoatsRow.laid).forCall (fun _ _ => 0) ⟨#[], #[.string ByteArray.empty], []⟩).memory :=
  laidMet_laidAll _ (by kernel_rfl) (by kernel_rfl)
theorem reads (os : Os) {H : Type} (enc : TypeId × Value → H) : ∃ ds places, DataW.whole enc Tryd.prog ((World.laidAll Tryd.prog os Rows.fnExactReadGoatsRow.laid).forCall (fun _ _ => 0) ⟨#[], #[.string ByteArray.empty], []⟩).memory Tryd.f8.params.toList Rows.fnExactReadGoatsSpec.vars false (#[.string ByteArray.empty] : Array Value).toList 8 = some (ds, [], places) := by
  have h : (DataW.whole enc Tryd.prog ((World.laidAll Tryd.prog os Rows.fnExactReadGoatsRow.laid).forCall (fun _ _ => 0) ⟨#[], #[.string ByteArray.empty], []⟩).memory Tryd.f8.params.toList Rows.fnExactReadGoatsSpec.vars false (#[.string ByteArray.empty] : Array Value).toList 8).map (fun x => x.2.1.length) = some 0 := by kernel_rfl
  obtain ⟨⟨ds, gs, pl⟩, h1, h2⟩ := Option.map_eq_some_iff.1 h
  obtain rfl : gs = [] := List.eq_nil_of_length_eq_zero h2
  exact ⟨ds, pl, h1⟩
set_option maxRecDepth 100000 in
theorem lifted (os : Os) (started : os.Started) (H : Type) (enc : TypeId × Value → H) (F : Stop.Interp) :
    ReturnsInHanded {} Tryd.checked os 8 .any ((OpenSpec.ofChange Rows.fnExactReadGoatsSpec).preRow enc Tryd.prog Tryd.f8 Rows.fnExactReadGoatsRow.domain false Rows.fnExactReadGoatsRow.laid) (((OpenSpec.ofChange Rows.fnExactReadGoatsSpec).at F).post enc Tryd.prog Tryd.f8 false true false false) := by
  obtain ⟨ds0, places, hx⟩ := reads os enc
  refine returnsInHanded_of_row (C := Tryd.checked) (s := OpenSpec.ofChange Rows.fnExactReadGoatsSpec) own started (by kernel_rfl) Tryd.func8
    (witness_row_atRef (enc := enc) (C := Tryd.checked) false (World.laidAll Tryd.prog os Rows.fnExactReadGoatsRow.laid) #[.string ByteArray.empty] (World.laidAll_os _ _ _) (by kernel_rfl) (by kernel_rfl) (by kernel_rfl)
      (OpenSpec.preRow_of_cond 8 hx (by kernel_rfl) (fun k hk => by cases hk) (by kernel_rfl) (laid_met os))) ?_
  intro W base args ds gs before hval0 hW _ _ _ hL hSh _
  have hval : ∀ (j : Nat) t v, Tryd.f8.params[j]? = some t → args[j]? = some v → Value.okWide Tryd.prog W .any base t v := hval0
  have hW' := hW
  obtain ⟨p, q, hA0, hV, rfl, hfz, hnd⟩ := hW
  have hA : DataW.TrodAll enc Tryd.prog W 0 (fun _ => true) true Tryd.f8.params.toList args.toList ds p := hA0
  rw [Tryd.params8] at hA hval
  obtain ⟨v0, vs0, d0, ds0, p0, q0, hargs, rfl, rfl, h0, r0⟩ := trodAll_cons hA
  obtain ⟨rfl, rfl, rfl⟩ := trodAll_nil r0
  obtain rfl : args = #[v0] := by cases args; simp_all
  obtain ⟨rfl, rfl⟩ := trodVars_none hV
  obtain ⟨x0, e0, _, z0, w0⟩ := Go.ChangeMaps.open_string Tryd.underlying9 (hval 0 _ v0 rfl rfl) h0
  subst z0
  clear hA0 hval0
  refine (l_ExactReadGoats x0 ⟨fun _ => ⟨0, 0, 0, .none, 0⟩, fun k => W.heap[k]?, globW (globAll hL hSh)⟩ [v0] W ⟨⟨e0, w0⟩, trivial⟩ (mrel_nil fun _ _ h => h) (fun x hx i hi => (by simp at hx; subst hx; cases hi))).mono fun e W' ⟨v, ρ', he, hv, hAft, _⟩ => ?_
  subst he
  obtain rfl : v = .bool true := hv
  have bel := hAft.below
  have t0 := Below.trod laidOut (by kernel_rfl) (by decide +kernel) h0 bel (fun x hx => (by cases hx))
  exact ⟨_, rfl, _, _, _, [], _, [], hW', trodAll_mk1 (shut_bool Tryd.underlying4 _), (trodAll_cons_mk t0 trodAll_mk0), rfl, bel.frame _, fun h => (by cases h)⟩
theorem and_t {a b : Bool} (h : a = true) (h' : b = true) : (a && b) = true := by rw [h, h']; rfl
set_option maxHeartbeats 4000000 in
theorem facts : joinedFacts Tryd.pinned.checked.prog 8 Tryd.f8 Rows.fnExactReadGoatsSpec Rows.fnExactReadGoatsRow = true := by
  unfold joinedFacts
  repeat' (with_reducible apply and_t)
  all_goals (as_aux_lemma => kernel_rfl)
theorem over : Rows.FnExactReadGoatsSaid :=
  OpenClaim.holds_of_cond 8 Tryd.f8 rfl rfl rfl rfl rfl rfl rfl ⟨rfl, rfl, rfl, rfl, rfl⟩ rfl rfl rfl rfl rfl (by kernel_rfl) Tryd.func8 facts
    (of_decide_eq_true (by kernel_rfl)) (by unfold Func.isWrapper; first | (rw [if_pos (by decide +kernel)]; kernel_rfl) | (rw [if_neg (by decide +kernel)]; exact ⟨rfl, rfl⟩))
    (fun os started H enc _ F => by rw [OpenClaim.pre_eq_preRow]; exact lifted os started H enc F)
theorem plain (f : FuncId) (fn : Func) (hf : Tryd.pinned.checked.prog.funcNamed "loop.example/g01345/laws.FnExactReadGoats" = some f) (hfn : Tryd.pinned.checked.prog.funcs[f]? = some fn) :
    true = Tryd.pinned.checked.prog.looks [] ∧ ∀ (j : Nat) t, fn.params[j]? = some t → Tryd.pinned.checked.prog.wantsStandIn t = false := by
  obtain rfl : f = 8 := Option.some.inj ((show Tryd.prog.funcNamed "loop.example/g01345/laws.FnExactReadGoats" = some 8 by kernel_rfl).symm.trans hf) |>.symm
  obtain rfl : fn = Tryd.f8 := (Option.some.inj (Tryd.func8.symm.trans hfn)).symm
  refine ⟨by kernel_rfl, fun j t ht => ?_⟩
  have hall : (Tryd.f8.params.toList.all fun u => !Tryd.prog.wantsStandIn u) = true := by kernel_rfl
  exact (show Tryd.prog.wantsStandIn t = false by simpa using List.all_eq_true.1 hall t (Array.mem_toList_iff.2 (Array.mem_of_getElem? ht)))
theorem card : Rows.FnExactReadGoatsCardSaid :=
  Claim7.holds_tied_plain_at .later [] _ _ _ _ over (fun _ h => by cases h) (by kernel_rfl) (fun _ h => by cases h) fnExactReadGoats_row_tie rfl ⟨rfl, rfl⟩ (by kernel_rfl) rfl plain (by kernel_rfl)
end Go.Proofs.YtplnfdgokpgbcaaDoor.fnExactReadGoats
namespace Go.Proofs.YtplnfdgokpgbcaaDoor
theorem fnExactReadGoats_holds : Rows.FnExactReadGoatsCardSaid := fnExactReadGoats.card
#print axioms fnExactReadGoats_holds
end Go.Proofs.YtplnfdgokpgbcaaDoor

