/- The way between two cells: the program. -/
import Derived.Test.YtfelemoefhbphaaWay3
import Derived.Test.YtfelemoefhbphaaPair
namespace Go.Proofs.Ytfelemoefhbphaa
open Go Go.Eng
set_option linter.unusedSimpArgs false
set_option linter.unusedVariables false
set_option maxRecDepth 100000
set_option maxHeartbeats 4000000

noncomputable def stepC (p a b : List Int) : Int := if codeP p [a, b] = 0 then (if (bfsD p [a]).getD (cx b) 0 = 0 then 6 else 0) else codeP p [a, b]
noncomputable def stepV (p a b : List Int) : Int := if codeP p [a, b] = 0 then (if (bfsD p [a]).getD (cx b) 0 = 0 then 0 else (bfsD p [a]).getD (cx b) 0 - 1) else 0
noncomputable def stepBS : Fun
  | [.ag .pas p, .ag .spot a, .ag .spot b], [] => some (.t2 (.i .i64 (stepV p a b)) (.i .i64 (stepC p a b)), [], [])
  | _, _ => .none

set_option maxRecDepth 100000 in
theorem s_implStepsBetween : Sound Try.prog 81 stepBS := by
  intro args M r M' vs h hvs
  unfold stepBS at h
  split at h
  case h_2 => cases h
  rename_i p a b
  cases h
  refine SpecOK.assume fun hA hM => ?_
  have htb := (TbOk.cons s_cellCode Try.func58 rfl rfl (TbOk.cons s_far Try.func82 rfl rfl (TbOk.cons s_stepAt Try.func110 rfl rfl (TbOk.nil : TbOk Try.prog tb0))))
  refine SpecOK.of_goes [] Try.func81 rfl ?_
  have hok := fun h => codeP_pair (p := p) (a := a) (b := b) h
  have hin := fun h => inG_of' (hok h).1 (hok h).2.2
  have hw := fun h => m1_get (l := bfsD p [a]) (j := cx b) (by rw [(bfsD_wf (p := p) (rows := [a]) (hok h).1 (one_isP (hok h).2.1)).1]; exact cx_lt (hin h))
  have hw2 := fun h => (bfsD_wf (p := p) (rows := [a]) (hok h).1 (one_isP (hok h).2.1)).2 (cx b)
  have hr := fun h => m1_rng (p := p) (rows := [a]) (hok h).1 (one_isP (hok h).2.1)
  clear hA hM
  refine Goes.tree Γ_ok htb 1000 false false Try.func81 rfl ?_
  ((try simp only [decide_eq_true_eq, decide_eq_false_iff_not, Bool.not_eq_true', Bool.not_eq_false', Bool.not_true, Bool.not_false, Bool.and_eq_true, Bool.or_eq_true, bne_iff_ne, beq_iff_eq, ne_eq]); (try simp only [rng, lo, hi, mnI, mxI, Int.toNat_natCast, Sg.n, Nat.mul_one, Nat.zero_add, Nat.add_zero, Nat.reduceAdd, List.getD_cons_zero, List.getD_cons_succ, one_row, two_rows]))
  ((repeat' (first | (with_reducible apply And.intro) | intro _)); all_goals (first | exact trivial | (with_reducible assumption) | (show (_ : List Blk) = _; rfl) | (first | exact trivial | (with_reducible assumption) | omega | (split <;> omega) | (split <;> split <;> omega)) | skip); all_goals (try (refine ⟨rfl, (by first | exact Nat.le_refl _ | exact Nat.le_of_ble_eq_true rfl), rfl, rfl, ?_, (by repeat' (first | exact trivial | rfl | apply And.intro)), rfl, rfl⟩)))
  all_goals (try first | exact (hok (by assumption)).1 | exact one_isP (hok (by assumption)).2.1 _ (by assumption) | exact one_len.1 | exact one_len.2 | exact hin (by assumption) | exact (hr (by assumption) _).1 | exact (hr (by assumption) _).2)
  · rename_i h
    refine sameA_t2 ?_ ?_ <;> simp only [stepV, stepC, if_neg h]
  · rename_i h h'
    have g1 := hw h
    have g2 := hw2 h
    have h' : (bfsD p [a]).getD (cx b) 0 = 0 := by omega
    refine sameA_t2 ?_ ?_ <;> simp only [stepV, stepC, if_pos h, if_pos h']
  · rename_i h h'
    have g1 := hw h
    have g2 := hw2 h
    have h' : ¬ (bfsD p [a]).getD (cx b) 0 = 0 := by omega
    refine sameA_t2 ?_ ?_ <;> simp only [stepV, stepC, if_pos h, if_neg h', g1]


noncomputable def wbOkS : Fun
  | [.ag .pas p, .ag .spot a, .ag .spot b], [] => some (.t2 (.ow 0 (wayL p a b).length .spot 37) (.i .i64 0), [.l .spot (wayL p a b)], [stepC p a b = 0])
  | _, _ => .none
noncomputable def wbErrS : Fun
  | [.ag .pas p, .ag .spot a, .ag .spot b], [] => some (.t2 .nsl (.i .i64 (stepC p a b)), [], [¬ stepC p a b = 0])
  | _, _ => .none
structure WbOk (p a b : List Int) : Prop where
  dm : okD p
  ga : isP p a = true
  gb : isP p b = true
  la : a.length = 2
  lb : b.length = 2
  far : 0 < (bfsD p [b]).getD (cx a) 0
theorem wb_ok {p a b : List Int} (la : a.length = 2) (lb : b.length = 2) (h : stepC p a b = 0) : WbOk p a b := by
  unfold stepC at h
  split at h
  · rename_i hc
    obtain ⟨h1, h2, h3⟩ := codeP_pair hc
    split at h
    · cases h
    · rename_i hz
      have hr := (bfsD_wf h1 (one_isP h2)).2 (cx b)
      exact ⟨h1, h2, h3, la, lb, bfs_sym h1 h2 la h3 lb (by omega)⟩
  · contradiction
theorem wb_far {p a b : List Int} (h : WbOk p a b) : (m1 (bfsD p [b])).getD (cx a) 0 = (bfsD p [b]).getD (cx a) 0 - 1 :=
  m1_get (by rw [(bfsD_wf h.dm (one_isP h.gb)).1]; exact cx_lt (inG_isP h.dm h.ga))
set_option maxRecDepth 100000 in
theorem s_wbOk : Sound Try.prog 33 wbOkS := by
  intro args M r M' vs h hvs
  unfold wbOkS at h
  split at h
  case h_2 => cases h
  rename_i p a b
  cases h
  refine SpecOK.assume fun hA hM => ?_
  have htb := (TbOk.cons s_implStepsBetween Try.func81 rfl rfl (TbOk.cons s_far Try.func82 rfl rfl (TbOk.cons s_way Try.func83 rfl rfl (TbOk.nil : TbOk Try.prog tb0))))
  refine SpecOK.of_goes [5] Try.func33 rfl ?_
  obtain ⟨hc, -⟩ := hvs
  have hW := wb_ok hA.2.2.1 hA.2.2.2.2.1 hc
  have hf := wb_far hW
  have hp := hW.far
  clear hA hM
  unfold wayL
  refine Goes.tree Γ_ok htb 1000 false false Try.func33 rfl ?_
  ((try simp only [decide_eq_true_eq, decide_eq_false_iff_not, Bool.not_eq_true', Bool.not_eq_false', Bool.not_true, Bool.not_false, Bool.and_eq_true, Bool.or_eq_true, bne_iff_ne, beq_iff_eq, ne_eq]); (try simp only [rng, lo, hi, mnI, mxI, Int.toNat_natCast, Sg.n, Nat.mul_one, Nat.zero_add, Nat.add_zero, Nat.reduceAdd, List.getD_cons_zero, List.getD_cons_succ, one_row, hc, not_true_eq_false, false_implies]))
  ((repeat' (first | (with_reducible apply And.intro) | intro _)); all_goals (first | exact trivial | (with_reducible assumption) | (show (_ : List Blk) = _; rfl) | (first | exact trivial | (with_reducible assumption) | omega | (split <;> omega) | (split <;> split <;> omega)) | skip); all_goals (try (refine ⟨rfl, (by first | exact Nat.le_refl _ | exact Nat.le_of_ble_eq_true rfl), rfl, rfl, ?_, (by repeat' (first | exact trivial | rfl | apply And.intro)), rfl, rfl⟩)))
  all_goals (try first | contradiction | exact ⟨b, hW.gb, hW.lb, rfl, by omega⟩ | exact sameA_refl _ | exact hW.dm | exact hW.ga | exact one_isP hW.gb _ (by assumption) | exact one_len.1 | exact one_len.2)
  all_goals trace_state
set_option maxRecDepth 100000 in
theorem s_wbErr : Sound Try.prog 33 wbErrS := by
  intro args M r M' vs h hvs
  unfold wbErrS at h
  split at h
  case h_2 => cases h
  rename_i p a b
  cases h
  refine SpecOK.assume fun hA hM => ?_
  have htb := (TbOk.cons s_implStepsBetween Try.func81 rfl rfl (TbOk.cons s_far Try.func82 rfl rfl (TbOk.cons s_way Try.func83 rfl rfl (TbOk.nil : TbOk Try.prog tb0))))
  refine SpecOK.of_goes [] Try.func33 rfl ?_
  obtain ⟨hc, -⟩ := hvs
  clear hA hM
  refine Goes.tree Γ_ok htb 1000 false false Try.func33 rfl ?_
  ((try simp only [decide_eq_true_eq, decide_eq_false_iff_not, Bool.not_eq_true', Bool.not_eq_false', Bool.not_true, Bool.not_false, Bool.and_eq_true, Bool.or_eq_true, bne_iff_ne, beq_iff_eq, ne_eq]); (try simp only [rng, lo, hi, mnI, mxI, Int.toNat_natCast, Sg.n, Nat.mul_one, Nat.zero_add, Nat.add_zero, Nat.reduceAdd, List.getD_cons_zero, List.getD_cons_succ, one_row]))
  ((repeat' (first | (with_reducible apply And.intro) | intro _)); all_goals (first | exact trivial | (with_reducible assumption) | (show (_ : List Blk) = _; rfl) | (first | exact trivial | (with_reducible assumption) | omega | (split <;> omega) | (split <;> split <;> omega)) | skip); all_goals (try (refine ⟨rfl, (by first | exact Nat.le_refl _ | exact Nat.le_of_ble_eq_true rfl), rfl, rfl, ?_, (by repeat' (first | exact trivial | rfl | apply And.intro)), rfl, rfl⟩)))
  all_goals (first | contradiction | exact sameA_refl _ | trace_state)
end Go.Proofs.Ytfelemoefhbphaa
