/- The row PartCells: the spec and the program list the same open sides of the cells near the source. -/
import Derived.Test.YtjbgjgkogmlpfaaGreatOpnI
import Derived.Test.YtjbgjgkogmlpfaaGreatPartI
import Derived.Test.YtjbgjgkogmlpfaaGreatNearS
import Derived.Test.YtjbgjgkogmlpfaaGreatMarksH
namespace Go.Proofs.YtjbgjgkogmlpfaaGreat
open Go Go.Eng
set_option linter.unusedSimpArgs false
set_option linter.unusedVariables false
set_option maxRecDepth 100000
set_option maxHeartbeats 4000000

noncomputable def sPartS : Fun
  | [.ag .pas p, .fs .spot A, .fs .spot G], [] => some (.t2 (.fs .hur (if partC p A G = 0 then openR p (nearL p A G) else [])) (.i .i64 (partC p A G)), [], [A.length ≤ 10000000 ∧ G.length ≤ 10000000])
  | _, _ => .none
set_option maxRecDepth 100000 in
theorem s_specPart : Sound Tryz.prog 5 sPartS := by
  intro args M r M' vs h hvs
  unfold sPartS at h
  split at h
  case h_2 => cases h
  rename_i p A G
  cases h
  refine SpecOK.assume fun hA hM => ?_
  have htb := (TbOk.cons s_l03Parted Tryz.func14 rfl rfl (TbOk.cons s_l03Near Tryz.func15 rfl rfl (TbOk.cons s_l03Open Tryz.func16 rfl rfl (TbOk.nil : TbOk Tryz.prog tb0))))
  refine SpecOK.of_goes [] Tryz.func5 rfl ?_
  obtain ⟨⟨hl1, hl2⟩, -⟩ := hvs
  clear hA hM
  by_cases hc : partC p A G = 0
  · obtain ⟨c1, c2, c3⟩ := partC_zero.1 hc
    have hd : okD p := (codeP_all c1).1.1
    have hAp : inP p A := fun s hs => (codeP_all c1).2 s hs
    have hGp : inP p G := fun s hs => (codeP_all c2).2 s hs
    rw [if_pos hc, hc]
    have hT := openT_near hd A G
    rw [← hT]
    refine Goes.tree Γ_ok htb 1000 true false Tryz.func5 rfl ?_
    ((try simp only [decide_eq_true_eq, decide_eq_false_iff_not, Bool.not_eq_true', Bool.not_eq_false', Bool.not_true, Bool.not_false, Bool.and_eq_true, Bool.or_eq_true, bne_iff_ne, beq_iff_eq, ne_eq]); (try simp only [rng, lo, hi, mnI, mxI, Int.toNat_natCast, Sg.n, Nat.mul_one, Nat.zero_add, Nat.add_zero, Nat.reduceAdd, List.getD_cons_zero, List.getD_cons_succ, hc]))
    (repeat' (first | (with_reducible apply And.intro) | intro _))
    all_goals (try with_reducible exact no_nt (by with_reducible assumption))
    all_goals (try first | exact trivial | exact hd | exact hAp _ (by assumption) | exact hGp _ (by assumption) | exact c3 _ (by assumption) (by assumption) | (first | exact trivial | (with_reducible assumption) | omega | (split <;> omega) | (split <;> split <;> omega)))
    all_goals (try (refine ⟨rfl, (by first | exact Nat.le_refl _ | exact Nat.le_of_ble_eq_true rfl), rfl, rfl, ?_, (by repeat' (first | exact trivial | rfl | apply And.intro)), rfl, rfl⟩))
    all_goals (first | exact sameA_refl _ | trace_state)
  · rw [if_neg hc]
    refine Goes.tree Γ_ok htb 1000 true false Tryz.func5 rfl ?_
    ((try simp only [decide_eq_true_eq, decide_eq_false_iff_not, Bool.not_eq_true', Bool.not_eq_false', Bool.not_true, Bool.not_false, Bool.and_eq_true, Bool.or_eq_true, bne_iff_ne, beq_iff_eq, ne_eq]); (try simp only [rng, lo, hi, mnI, mxI, Int.toNat_natCast, Sg.n, Nat.mul_one, Nat.zero_add, Nat.add_zero, Nat.reduceAdd, List.getD_cons_zero, List.getD_cons_succ]))
    (repeat' (first | (with_reducible apply And.intro) | intro _))
    all_goals (try with_reducible exact absurd (by with_reducible assumption) hc)
    ((repeat' (first | (with_reducible apply And.intro) | intro _)); all_goals (first | exact trivial | (with_reducible assumption) | (show (_ : List Blk) = _; rfl) | (first | exact trivial | (with_reducible assumption) | omega | (split <;> omega) | (split <;> split <;> omega)) | skip); all_goals (try (refine ⟨rfl, (by first | exact Nat.le_refl _ | exact Nat.le_of_ble_eq_true rfl), rfl, rfl, ?_, (by repeat' (first | exact trivial | rfl | apply And.intro)), rfl, rfl⟩)))
    all_goals (first | exact sameA_refl _ | trace_state)
noncomputable def iPartOkS : Fun
  | [.ag .pas p, .fs .spot A, .fs .spot G], [] => some (.t2 (.ow 0 (openR p (nearL p A G)).length .hur 62) (.i .i64 0), [.l .hur (openR p (nearL p A G))], [partC p A G = 0 ∧ A.length ≤ 10000000 ∧ G.length ≤ 10000000])
  | _, _ => .none
def iPartErrS : Fun
  | [.ag .pas p, .fs .spot A, .fs .spot G], [] => some (.t2 .nsl (.i .i64 (partC p A G)), [], [¬ partC p A G = 0 ∧ A.length ≤ 10000000 ∧ G.length ≤ 10000000])
  | _, _ => .none
set_option maxRecDepth 100000 in
theorem s_iPartOk : Sound Tryz.prog 8 iPartOkS := by
  intro args M r M' vs h hvs
  unfold iPartOkS at h
  split at h
  case h_2 => cases h
  rename_i p A G
  cases h
  refine SpecOK.assume fun hA hM => ?_
  have htb := (TbOk.cons s_partCode Tryz.func20 rfl rfl (TbOk.cons s_nearSide Tryz.func22 rfl rfl (TbOk.cons s_openSidesL Tryz.func21 rfl rfl (TbOk.nil : TbOk Tryz.prog tb0))))
  refine SpecOK.of_goes [2] Tryz.func8 rfl ?_
  obtain ⟨⟨hc, hl1, hl2⟩, -⟩ := hvs
  obtain ⟨c1, c2, c3⟩ := partC_zero.1 hc
  have hp : okP p := (codeP_all c1).1
  have hd : okD p := hp.1
  have hAp : inP p A := fun s hs => (codeP_all c1).2 s hs
  have hGp : inP p G := fun s hs => (codeP_all c2).2 s hs
  have hn := fun s (h : s ∈ nearL p A G) => (near_in hd h).1
  have hnl := nearL_len hd A G
  clear hA hM
  refine Goes.tree Γ_ok htb 1000 false false Tryz.func8 rfl ?_
  ((try simp only [decide_eq_true_eq, decide_eq_false_iff_not, Bool.not_eq_true', Bool.not_eq_false', Bool.not_true, Bool.not_false, Bool.and_eq_true, Bool.or_eq_true, bne_iff_ne, beq_iff_eq, ne_eq]); (try simp only [rng, lo, hi, mnI, mxI, Int.toNat_natCast, Sg.n, Nat.mul_one, Nat.zero_add, Nat.add_zero, Nat.reduceAdd, List.getD_cons_zero, List.getD_cons_succ, hc, not_true_eq_false, false_implies]))
  ((repeat' (first | (with_reducible apply And.intro) | intro _)); all_goals (first | exact trivial | (with_reducible assumption) | (show (_ : List Blk) = _; rfl) | (first | exact trivial | (with_reducible assumption) | omega | (split <;> omega) | (split <;> split <;> omega)) | skip); all_goals (try (refine ⟨rfl, (by first | exact Nat.le_refl _ | exact Nat.le_of_ble_eq_true rfl), rfl, rfl, ?_, (by repeat' (first | exact trivial | rfl | apply And.intro)), rfl, rfl⟩)))
  all_goals (first | contradiction | exact hp | exact hd | exact hAp _ (by assumption) | exact hGp _ (by assumption) | exact c3 _ (by assumption) (by assumption) | exact hn _ (by assumption) | exact sameA_refl _ | omega | trace_state)
set_option maxRecDepth 100000 in
theorem s_iPartErr : Sound Tryz.prog 8 iPartErrS := by
  intro args M r M' vs h hvs
  unfold iPartErrS at h
  split at h
  case h_2 => cases h
  rename_i p A G
  cases h
  refine SpecOK.assume fun hA hM => ?_
  have htb := (TbOk.cons s_partCode Tryz.func20 rfl rfl (TbOk.cons s_nearSide Tryz.func22 rfl rfl (TbOk.cons s_openSidesL Tryz.func21 rfl rfl (TbOk.nil : TbOk Tryz.prog tb0))))
  refine SpecOK.of_goes [] Tryz.func8 rfl ?_
  obtain ⟨⟨hc, hl1, hl2⟩, -⟩ := hvs
  clear hA hM
  refine Goes.tree Γ_ok htb 1000 false false Tryz.func8 rfl ?_
  ((try simp only [decide_eq_true_eq, decide_eq_false_iff_not, Bool.not_eq_true', Bool.not_eq_false', Bool.not_true, Bool.not_false, Bool.and_eq_true, Bool.or_eq_true, bne_iff_ne, beq_iff_eq, ne_eq]); (try simp only [rng, lo, hi, mnI, mxI, Int.toNat_natCast, Sg.n, Nat.mul_one, Nat.zero_add, Nat.add_zero, Nat.reduceAdd, List.getD_cons_zero, List.getD_cons_succ]))
  ((repeat' (first | (with_reducible apply And.intro) | intro _)); all_goals (first | exact trivial | (with_reducible assumption) | (show (_ : List Blk) = _; rfl) | (first | exact trivial | (with_reducible assumption) | omega | (split <;> omega) | (split <;> split <;> omega)) | skip); all_goals (try (refine ⟨rfl, (by first | exact Nat.le_refl _ | exact Nat.le_of_ble_eq_true rfl), rfl, rfl, ?_, (by repeat' (first | exact trivial | rfl | apply And.intro)), rfl, rfl⟩)))
  all_goals (first | contradiction | exact sameA_refl _ | omega | trace_state)
noncomputable def iPartOkLS : Fun
  | [.ag .pas p, .ow 0 _ .spot 54, .ow 1 _ .spot 54], [.l .spot A, .l .spot G] => some (.t2 (.ow 2 (openR p (nearL p A G)).length .hur 62) (.i .i64 0), [.l .spot A, .l .spot G, .l .hur (openR p (nearL p A G))], [partC p A G = 0 ∧ A.length ≤ 10000000 ∧ G.length ≤ 10000000])
  | _, _ => .none
def iPartErrLS : Fun
  | [.ag .pas p, .ow 0 _ .spot 54, .ow 1 _ .spot 54], [.l .spot A, .l .spot G] => some (.t2 .nsl (.i .i64 (partC p A G)), [.l .spot A, .l .spot G], [¬ partC p A G = 0 ∧ A.length ≤ 10000000 ∧ G.length ≤ 10000000])
  | _, _ => .none
theorem s_iPartOkL : Sound Tryz.prog 8 iPartOkLS := by
  intro args M r M' vs h hvs
  unfold iPartOkLS at h
  split at h
  case h_2 => cases h
  rename_i p n m A G
  cases h
  have h1 := lend (pre := [.ag .pas p, .fs .spot A]) (post := []) (σ := .spot) (rows := G) (M := []) (r := .t2 (.ow 0 (openR p (nearL p A G)).length .hur 62) (.i .i64 0)) (N := [.l .hur (openR p (nearL p A G))]) (n := m) (e := 54) (s_iPartOk _ _ _ _ _ rfl hvs) rfl (fun x hx => by cases hx) (fun x hx => by rw [List.mem_singleton] at hx; subst hx; rfl)
  exact lend (pre := [.ag .pas p]) (post := [.ow 0 m .spot 54]) (σ := .spot) (rows := A) (n := n) (e := 54) h1 rfl (fun x hx => by rw [List.mem_singleton] at hx; subst hx; rfl) (fun x hx => by
    simp only [List.mem_cons, List.not_mem_nil, or_false] at hx
    rcases hx with rfl | rfl <;> rfl)
theorem s_iPartErrL : Sound Tryz.prog 8 iPartErrLS := by
  intro args M r M' vs h hvs
  unfold iPartErrLS at h
  split at h
  case h_2 => cases h
  rename_i p n m A G
  cases h
  have h1 := lend (pre := [.ag .pas p, .fs .spot A]) (post := []) (σ := .spot) (rows := G) (M := []) (r := .t2 .nsl (.i .i64 (partC p A G))) (N := []) (n := m) (e := 54) (s_iPartErr _ _ _ _ _ rfl hvs) rfl (fun x hx => by cases hx) (fun x hx => by cases hx)
  exact lend (pre := [.ag .pas p]) (post := [.ow 0 m .spot 54]) (σ := .spot) (rows := A) (n := n) (e := 54) h1 rfl (fun x hx => by rw [List.mem_singleton] at hx; subst hx; rfl) (fun x hx => by rw [List.mem_singleton] at hx; subst hx; rfl)
set_option maxRecDepth 100000 in
theorem l_ExactPartCells (x0 : List Int) (x1 x2 : List (List Int)) : SpecOK Tryz.prog 3 [.ag .pas x0, .fs .spot x1, .fs .spot x2] [] (.d true) [] := by
  have kz1 := szN_ok 1048576 x1.length
  have kz2 := szN_ok (szN 1048576 x1.length) x2.length
  by_cases hc : partC x0 x1 x2 = 0
  · have hlen := openR_len (codeP_all (partC_zero.1 hc).1).1.1 (nearL x0 x1 x2)
    have htb := (TbOk.cons s_szSpotS Tryz.func4 rfl rfl (TbOk.cons s_specPart Tryz.func5 rfl rfl (TbOk.cons s_iPartOkL Tryz.func8 rfl rfl (TbOk.cons s_toPasture Tryz.func6 rfl rfl (TbOk.cons s_toSpO Tryz.func7 rfl rfl (TbOk.cons s_eqSpOO Tryz.func10 rfl rfl (TbOk.cons s_eqHurdleO Tryz.func9 rfl rfl (TbOk.cons s_markSpotS Tryz.func11 rfl rfl (TbOk.cons s_markHurdleS Tryz.func12 rfl rfl (TbOk.cons s_heldHurdleS Tryz.func13 rfl rfl (TbOk.nil : TbOk Tryz.prog tb0)))))))))))
    refine SpecOK.of_goes [] Tryz.func3 rfl ?_
    refine Goes.tree Γ_ok htb 1000 false false Tryz.func3 rfl ?_
    ((try simp only [decide_eq_true_eq, decide_eq_false_iff_not, Bool.not_eq_true', Bool.not_eq_false', Bool.not_true, Bool.not_false, Bool.and_eq_true, Bool.or_eq_true, bne_iff_ne, beq_iff_eq, ne_eq]); (try simp only [rng, lo, hi, mnI, mxI, Int.toNat_natCast, Sg.n, Nat.mul_one, Nat.zero_add, Nat.add_zero, Nat.reduceAdd, List.getD_cons_zero, List.getD_cons_succ, hc, if_pos]))
    ((repeat' (first | (with_reducible apply And.intro) | intro _)); all_goals (first | exact trivial | (with_reducible assumption) | (show (_ : List Blk) = _; rfl) | (first | exact trivial | (with_reducible assumption) | omega | (split <;> omega) | (split <;> split <;> omega)) | skip); all_goals (try (refine ⟨rfl, (by first | exact Nat.le_refl _ | exact Nat.le_of_ble_eq_true rfl), rfl, rfl, ?_, (by repeat' (first | exact trivial | rfl | apply And.intro)), rfl, rfl⟩)))
    all_goals (first | exact absurd trivial (by assumption) | exact sameA_refl _ | omega | (simp; done) | trace_state)
  · have htb := (TbOk.cons s_szSpotS Tryz.func4 rfl rfl (TbOk.cons s_specPart Tryz.func5 rfl rfl (TbOk.cons s_iPartErrL Tryz.func8 rfl rfl (TbOk.cons s_toPasture Tryz.func6 rfl rfl (TbOk.cons s_toSpO Tryz.func7 rfl rfl (TbOk.cons s_eqSpOO Tryz.func10 rfl rfl (TbOk.cons s_eqNilHur Tryz.func9 rfl rfl (TbOk.cons s_markSpotS Tryz.func11 rfl rfl (TbOk.cons s_markNilH Tryz.func12 rfl rfl (TbOk.cons s_heldNilH Tryz.func13 rfl rfl (TbOk.nil : TbOk Tryz.prog tb0)))))))))))
    refine SpecOK.of_goes [] Tryz.func3 rfl ?_
    refine Goes.tree Γ_ok htb 1000 false false Tryz.func3 rfl ?_
    ((try simp only [decide_eq_true_eq, decide_eq_false_iff_not, Bool.not_eq_true', Bool.not_eq_false', Bool.not_true, Bool.not_false, Bool.and_eq_true, Bool.or_eq_true, bne_iff_ne, beq_iff_eq, ne_eq]); (try simp only [rng, lo, hi, mnI, mxI, Int.toNat_natCast, Sg.n, Nat.mul_one, Nat.zero_add, Nat.add_zero, Nat.reduceAdd, List.getD_cons_zero, List.getD_cons_succ, hc, if_neg]))
    ((repeat' (first | (with_reducible apply And.intro) | intro _)); all_goals (first | exact trivial | (with_reducible assumption) | (show (_ : List Blk) = _; rfl) | (first | exact trivial | (with_reducible assumption) | omega | (split <;> omega) | (split <;> split <;> omega)) | skip); all_goals (try (refine ⟨rfl, (by first | exact Nat.le_refl _ | exact Nat.le_of_ble_eq_true rfl), rfl, rfl, ?_, (by repeat' (first | exact trivial | rfl | apply And.intro)), rfl, rfl⟩)))
    all_goals (first | exact absurd trivial (by assumption) | exact sameA_refl _ | omega | (simp; done) | trace_state)
end Go.Proofs.YtjbgjgkogmlpfaaGreat
namespace Go.Proofs.YtjbgjgkogmlpfaaGreat.fnExactPartCells
open Go Go.Eng Go.ChangeShapes Go.WideShapes Go.ChangeAt Go.RowKit
theorem own : ownKnob Tryz.prog.godebug = none := by kernel_rfl
theorem laidOut : laidOutB Tryz.prog = true := by kernel_rfl
set_option maxRecDepth 100000 in
theorem lifted (os : Os) (started : os.Started) (H : Type) (enc : TypeId × Value → H) :
    ReturnsInHanded {} Tryz.checked os 3 .any (Rows.fnExactPartCellsSpec.pre6 enc Tryz.prog Tryz.f3 Rows.fnExactPartCellsRow.domain false) (Rows.fnExactPartCellsSpec.post enc Tryz.prog Tryz.f3 false true false false) := by
  refine returnsInHanded_of_change_sized (C := Tryz.checked) own started (by kernel_rfl) Tryz.func3
    (ChangeSpec.witness6 (enc := enc) (C := Tryz.checked) false ⟨#[], #[zeroV .pas, .slice none 0 0, .slice none 0 0], []⟩ 8 (by kernel_rfl) (by kernel_rfl) (by kernel_rfl) (by kernel_rfl)) ?_
  intro W base args ds gs before hval0 hW hcnd hsz0 _
  have hval : ∀ (j : Nat) t v, Tryz.f3.params[j]? = some t → args[j]? = some v → Value.okWide Tryz.prog W .any base t v := hval0
  have hW' := hW
  obtain ⟨p, q, hA0, hV, rfl, hfz, hnd⟩ := hW
  have hA : DataW.TrodAll enc Tryz.prog W 0 (fun _ => true) true Tryz.f3.params.toList args.toList ds p := hA0
  rw [Tryz.params3] at hA hval
  obtain ⟨v0, vs0, d0, ds0, p0, q0, hargs, rfl, rfl, h0, r0⟩ := trodAll_cons hA
  obtain ⟨v1, vs1, d1, ds1, p1, q1, rfl, rfl, rfl, h1, r1⟩ := trodAll_cons r0
  obtain ⟨v2, vs2, d2, ds2, p2, q2, rfl, rfl, rfl, h2, r2⟩ := trodAll_cons r1
  obtain ⟨rfl, rfl, rfl⟩ := trodAll_nil r2
  obtain rfl : args = #[v0, v1, v2] := by cases args; simp_all
  obtain ⟨rfl, rfl⟩ := trodVars_none hV
  obtain ⟨x0, e0, z0, l0, c0⟩ := open_agg Γ_ok (σ := .pas) rfl rfl (by decide) rfl (hval 0 _ v0 rfl rfl) h0
  obtain ⟨x1, g1, m1⟩ := open_rows Γ_ok (σ := .spot) Tryz.underlying30 rfl rfl (by decide) (hval 1 _ v1 rfl rfl) h1
  have z1 := trod_lt' h1
  obtain ⟨x2, g2, m2⟩ := open_rows Γ_ok (σ := .spot) Tryz.underlying30 rfl rfl (by decide) (hval 2 _ v2 rfl rfl) h2
  have z2 := trod_lt' h2
  subst z0
  clear hA0 hval0 hsz0
  refine (l_ExactPartCells x0 x1 x2 ⟨fun _ => ⟨0, 0, 0, .none, 0⟩, fun k => W.heap[k]?, globW W⟩ [v0, v1, v2] W ⟨⟨e0, l0, c0, rfl⟩, den_fs g1 rfl, den_fs g2 rfl, trivial⟩ (mrel_nil fun _ _ h => h) (fun x hx i hi => (by simp at hx; rcases hx with rfl | rfl | rfl <;> cases hi))).mono fun e W' ⟨v, ρ', he, hv, hAft, _⟩ => ?_
  subst he
  obtain rfl : v = .bool true := hv
  have bel := hAft.below
  have t0 := Below.trod laidOut (by kernel_rfl) (by decide +kernel) h0 bel (fun x hx => (by cases hx))
  have t1 := Below.trod laidOut (by kernel_rfl) (by decide +kernel) h1 bel z1
  have t2 := Below.trod laidOut (by kernel_rfl) (by decide +kernel) h2 bel z2
  exact ⟨_, rfl, _, _, _, [], _, [], hW', trodAll_mk1 (shut_bool Tryz.underlying4 _), (trodAll_cons_mk t0 (trodAll_cons_mk t1 (trodAll_cons_mk t2 trodAll_mk0))), rfl, bel.frame _, fun h => (by cases h)⟩
theorem and_t {a b : Bool} (h : a = true) (h' : b = true) : (a && b) = true := by rw [h, h']; rfl
set_option maxHeartbeats 4000000 in
theorem facts : joinedFacts Tryz.pinned.checked.prog 3 Tryz.f3 Rows.fnExactPartCellsSpec Rows.fnExactPartCellsRow = true := by
  unfold joinedFacts
  repeat' (with_reducible apply and_t)
  all_goals (as_aux_lemma => kernel_rfl)
theorem over : Rows.fnExactPartCellsRow.holds Tryz.pinned (OpenSpec.ofChange Rows.fnExactPartCellsSpec) :=
  OpenClaim.holds_of_wide 3 Tryz.f3 rfl rfl rfl rfl rfl rfl rfl ⟨rfl, rfl, rfl, rfl, rfl⟩ rfl rfl rfl rfl rfl (by kernel_rfl) Tryz.func3 facts
    (of_decide_eq_true (by kernel_rfl)) (by unfold Func.isWrapper; first | (rw [if_pos (by decide +kernel)]; kernel_rfl) | (rw [if_neg (by decide +kernel)]; exact ⟨rfl, rfl⟩))
    (fun os started H enc _ => lifted os started H enc)
end Go.Proofs.YtjbgjgkogmlpfaaGreat.fnExactPartCells
namespace Go.Proofs.YtjbgjgkogmlpfaaGreat
theorem fnExactPartCells_holds : Rows.FnExactPartCellsSaid := fnExactPartCells.over
#print axioms fnExactPartCells_holds
end Go.Proofs.YtjbgjgkogmlpfaaGreat

