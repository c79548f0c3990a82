/- impl.NearSide. -/
import Derived.Test.YtjbgjgkogmlpfaaPartI
import Derived.Test.YtjbgjgkogmlpfaaLendS
namespace Go.Proofs.Ytjbgjgkogmlpfaa
open Go Go.Eng
set_option linter.unusedSimpArgs false
set_option linter.unusedVariables false
set_option maxRecDepth 100000
set_option maxHeartbeats 4000000

noncomputable def iNearOkS : Fun
  | [.ag .pas p, .fs .spot A, .fs .spot G], [] => some (.t2 (.ow 0 (nearL p A G).length .spot 47) (.i .i64 0), [.l .spot (nearL p A G)], [partC p A G = 0 ∧ A.length ≤ 10000000 ∧ G.length ≤ 10000000])
  | _, _ => .none
def iNearErrS : Fun
  | [.ag .pas p, .fs .spot A, .fs .spot G], [] => some (.t2 .nsl (.i .i64 (partC p A G)), [], [¬ partC p A G = 0 ∧ A.length ≤ 10000000 ∧ G.length ≤ 10000000])
  | _, _ => .none
set_option maxRecDepth 100000 in
theorem s_iNearOk : Sound Try.prog 8 iNearOkS := by
  intro args M r M' vs h hvs
  unfold iNearOkS at h
  split at h
  case h_2 => cases h
  rename_i p A G
  cases h
  refine SpecOK.assume fun hA hM => ?_
  have htb := (TbOk.cons s_partCode Try.func17 rfl rfl (TbOk.cons s_nearSide Try.func18 rfl rfl (TbOk.nil : TbOk Try.prog tb0)))
  refine SpecOK.of_goes [1] Try.func8 rfl ?_
  obtain ⟨⟨hc, hl1, hl2⟩, -⟩ := hvs
  obtain ⟨c1, c2, c3⟩ := partC_zero.1 hc
  have hd : okD p := (codeP_all c1).1.1
  have hAp : inP p A := fun s hs => (codeP_all c1).2 s hs
  have hGp : inP p G := fun s hs => (codeP_all c2).2 s hs
  clear hA hM
  refine Goes.tree Γ_ok htb 1000 false false Try.func8 rfl ?_
  ((try simp only [decide_eq_true_eq, decide_eq_false_iff_not, Bool.not_eq_true', Bool.not_eq_false', Bool.not_true, Bool.not_false, Bool.and_eq_true, Bool.or_eq_true, bne_iff_ne, beq_iff_eq, ne_eq]); (try simp only [rng, lo, hi, mnI, mxI, Int.toNat_natCast, Sg.n, Nat.mul_one, Nat.zero_add, Nat.add_zero, Nat.reduceAdd, List.getD_cons_zero, List.getD_cons_succ, hc, not_true_eq_false, false_implies]))
  ((repeat' (first | (with_reducible apply And.intro) | intro _)); all_goals (first | exact trivial | (with_reducible assumption) | (show (_ : List Blk) = _; rfl) | (first | exact trivial | (with_reducible assumption) | omega | (split <;> omega) | (split <;> split <;> omega)) | skip); all_goals (try (refine ⟨rfl, (by first | exact Nat.le_refl _ | exact Nat.le_of_ble_eq_true rfl), rfl, rfl, ?_, (by repeat' (first | exact trivial | rfl | apply And.intro)), rfl, rfl⟩)))
  all_goals (first | contradiction | exact hd | exact hAp _ (by assumption) | exact hGp _ (by assumption) | exact c3 _ (by assumption) (by assumption) | exact sameA_refl _ | omega | trace_state)
set_option maxRecDepth 100000 in
theorem s_iNearErr : Sound Try.prog 8 iNearErrS := by
  intro args M r M' vs h hvs
  unfold iNearErrS at h
  split at h
  case h_2 => cases h
  rename_i p A G
  cases h
  refine SpecOK.assume fun hA hM => ?_
  have htb := (TbOk.cons s_partCode Try.func17 rfl rfl (TbOk.cons s_nearSide Try.func18 rfl rfl (TbOk.nil : TbOk Try.prog tb0)))
  refine SpecOK.of_goes [] Try.func8 rfl ?_
  obtain ⟨⟨hc, hl1, hl2⟩, -⟩ := hvs
  clear hA hM
  refine Goes.tree Γ_ok htb 1000 false false Try.func8 rfl ?_
  ((try simp only [decide_eq_true_eq, decide_eq_false_iff_not, Bool.not_eq_true', Bool.not_eq_false', Bool.not_true, Bool.not_false, Bool.and_eq_true, Bool.or_eq_true, bne_iff_ne, beq_iff_eq, ne_eq]); (try simp only [rng, lo, hi, mnI, mxI, Int.toNat_natCast, Sg.n, Nat.mul_one, Nat.zero_add, Nat.add_zero, Nat.reduceAdd, List.getD_cons_zero, List.getD_cons_succ]))
  ((repeat' (first | (with_reducible apply And.intro) | intro _)); all_goals (first | exact trivial | (with_reducible assumption) | (show (_ : List Blk) = _; rfl) | (first | exact trivial | (with_reducible assumption) | omega | (split <;> omega) | (split <;> split <;> omega)) | skip); all_goals (try (refine ⟨rfl, (by first | exact Nat.le_refl _ | exact Nat.le_of_ble_eq_true rfl), rfl, rfl, ?_, (by repeat' (first | exact trivial | rfl | apply And.intro)), rfl, rfl⟩)))
  all_goals (first | contradiction | exact sameA_refl _ | omega | trace_state)
noncomputable def iNearOkLS : Fun
  | [.ag .pas p, .ow 0 _ .spot 47, .ow 1 _ .spot 47], [.l .spot A, .l .spot G] => some (.t2 (.ow 2 (nearL p A G).length .spot 47) (.i .i64 0), [.l .spot A, .l .spot G, .l .spot (nearL p A G)], [partC p A G = 0 ∧ A.length ≤ 10000000 ∧ G.length ≤ 10000000])
  | _, _ => .none
def iNearErrLS : Fun
  | [.ag .pas p, .ow 0 _ .spot 47, .ow 1 _ .spot 47], [.l .spot A, .l .spot G] => some (.t2 .nsl (.i .i64 (partC p A G)), [.l .spot A, .l .spot G], [¬ partC p A G = 0 ∧ A.length ≤ 10000000 ∧ G.length ≤ 10000000])
  | _, _ => .none
theorem s_iNearOkL : Sound Try.prog 8 iNearOkLS := by
  intro args M r M' vs h hvs
  unfold iNearOkLS at h
  split at h
  case h_2 => cases h
  rename_i p n m A G
  cases h
  have h1 := lend (pre := [.ag .pas p, .fs .spot A]) (post := []) (σ := .spot) (rows := G) (M := []) (r := .t2 (.ow 0 (nearL p A G).length .spot 47) (.i .i64 0)) (N := [.l .spot (nearL p A G)]) (n := m) (e := 47) (s_iNearOk _ _ _ _ _ rfl hvs) rfl (fun x hx => by cases hx) (fun x hx => by rw [List.mem_singleton] at hx; subst hx; rfl)
  exact lend (pre := [.ag .pas p]) (post := [.ow 0 m .spot 47]) (σ := .spot) (rows := A) (n := n) (e := 47) h1 rfl (fun x hx => by rw [List.mem_singleton] at hx; subst hx; rfl) (fun x hx => by
    simp only [List.mem_cons, List.not_mem_nil, or_false] at hx
    rcases hx with rfl | rfl <;> rfl)
theorem s_iNearErrL : Sound Try.prog 8 iNearErrLS := by
  intro args M r M' vs h hvs
  unfold iNearErrLS at h
  split at h
  case h_2 => cases h
  rename_i p n m A G
  cases h
  have h1 := lend (pre := [.ag .pas p, .fs .spot A]) (post := []) (σ := .spot) (rows := G) (M := []) (r := .t2 .nsl (.i .i64 (partC p A G))) (N := []) (n := m) (e := 47) (s_iNearErr _ _ _ _ _ rfl hvs) rfl (fun x hx => by cases hx) (fun x hx => by cases hx)
  exact lend (pre := [.ag .pas p]) (post := [.ow 0 m .spot 47]) (σ := .spot) (rows := A) (n := n) (e := 47) h1 rfl (fun x hx => by rw [List.mem_singleton] at hx; subst hx; rfl) (fun x hx => by rw [List.mem_singleton] at hx; subst hx; rfl)
end Go.Proofs.Ytjbgjgkogmlpfaa
