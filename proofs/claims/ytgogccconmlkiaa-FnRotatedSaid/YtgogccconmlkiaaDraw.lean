/- A pasture, a growth, a cell that are drawn. -/
import Derived.Test.YtgogccconmlkiaaSrc
namespace Go.Proofs.Ytgogccconmlkiaa
open Go Go.Eng
set_option linter.unusedSimpArgs false
set_option linter.unusedVariables false
set_option maxRecDepth 100000
set_option maxHeartbeats 4000000

/-- A bit is set. -/
def bitX (x : Nat) : Int := IntKind.u16.wrap (1 * 2 ^ (min x IntKind.u16.bits))
def onB (v : Int) (x : Nat) : Int := bitsI .or .u16 (bitsI .andNot .u16 v (bitX x)) (bitX x)
def setP (q s : List Int) (d : Int) : List Int :=
  if d = 1 then (q.set (102 + (s.getD 1 0).toNat) (bitsI .andNot .u16 (q.getD (102 + (s.getD 1 0).toNat) 0) (bitX (s.getD 0 0).toNat))).set (102 + (s.getD 1 0).toNat) (onB (q.getD (102 + (s.getD 1 0).toNat) 0) (s.getD 0 0).toNat)
  else (q.set (112 + (s.getD 1 0).toNat) (bitsI .andNot .u16 (q.getD (112 + (s.getD 1 0).toNat) 0) (bitX (s.getD 0 0).toNat))).set (112 + (s.getD 1 0).toNat) (onB (q.getD (112 + (s.getD 1 0).toNat) 0) (s.getD 0 0).toNat)
theorem getD_set_self {q : List Int} {i : Nat} {v : Int} (h : i < q.length) : (q.set i v).getD i 0 = v := by
  rw [List.getD_eq_getElem?_getD, List.getElem?_set, if_pos rfl, if_pos h]; rfl
def setOnS : Fun
  | [.pw 0 .pas, .ag .spot s, .i .i64 d, .d true], [.c .pas q] => some (.v (.tuple #[]), [.c .pas (setP q s d)], [inG s ∧ (d = 1 ∨ d = 2)])
  | _, _ => .none
set_option maxRecDepth 100000 in
theorem s_l01SetOn : Sound Try.prog 133 setOnS := by
  intro args M r M' vs h hvs
  unfold setOnS at h
  split at h
  case h_2 => cases h
  rename_i s d q
  cases h
  refine SpecOK.assume fun hA hM => ?_
  have htb := (TbOk.cons s_l01Next Try.func131 rfl rfl (TbOk.nil : TbOk Try.prog tb0))
  refine SpecOK.of_goes [0] Try.func133 rfl ?_
  obtain ⟨⟨hs, hd⟩, -⟩ := hvs
  obtain ⟨a, b, rfl⟩ := len2 hA.2.1
  have hp := PasOk.of hA.1 hM.1
  have hql : q.length = 122 := hp.1
  have g1 : ∀ v, (q.set (102 + b.toNat) v).getD (102 + b.toNat) 0 = v ∨ ¬ b < 10 := fun v => by by_cases hb : b < 10; exact .inl (getD_set_self (by omega)); exact .inr hb
  have g2 : ∀ v, (q.set (112 + b.toNat) v).getD (112 + b.toNat) 0 = v ∨ ¬ b < 10 := fun v => by by_cases hb : b < 10; exact .inl (getD_set_self (by omega)); exact .inr hb
  unfold inG at hs
  clear hA hM
  simp only [List.getD_cons_zero, List.getD_cons_succ] at hs
  obtain ⟨h0, h1, h2, h3⟩ := hs
  have g1 : ∀ v, (q.set (102 + b.toNat) v).getD (102 + b.toNat) 0 = v := fun v => (g1 v).resolve_right (fun h => h h3)
  have g2 : ∀ v, (q.set (112 + b.toNat) v).getD (112 + b.toNat) 0 = v := fun v => (g2 v).resolve_right (fun h => h h3)
  rcases hd with rfl | rfl
  · refine Goes.tree Γ_ok htb 1000 false false Try.func133 rfl ?_
    ((try simp only [decide_eq_true_eq, decide_eq_false_iff_not, Bool.not_eq_true', Bool.not_eq_false', Bool.not_true, Bool.not_false, Bool.and_eq_true, Bool.or_eq_true, bne_iff_ne, beq_iff_eq, ne_eq]); (try simp only [rng, lo, hi, mnI, mxI, Int.toNat_natCast, Sg.n, Nat.mul_one, Nat.zero_add, Nat.add_zero, Nat.reduceAdd, List.getD_cons_zero, List.getD_cons_succ, not_true_eq_false, false_implies, g1, g2]))
    ((repeat' (first | (with_reducible apply And.intro) | intro _)); all_goals (first | exact trivial | (with_reducible assumption) | (show (_ : List Blk) = _; rfl) | (first | exact trivial | (with_reducible assumption) | omega | (split <;> omega) | (split <;> split <;> omega)) | skip); all_goals (try (refine ⟨rfl, (by first | exact Nat.le_refl _ | exact Nat.le_of_ble_eq_true rfl), rfl, rfl, ?_, (by repeat' (first | exact trivial | rfl | apply And.intro)), rfl, rfl⟩)))
    all_goals (first | omega | contradiction | exact sameA_refl _ | trace_state)
  · refine Goes.tree Γ_ok htb 1000 false false Try.func133 rfl ?_
    ((try simp only [decide_eq_true_eq, decide_eq_false_iff_not, Bool.not_eq_true', Bool.not_eq_false', Bool.not_true, Bool.not_false, Bool.and_eq_true, Bool.or_eq_true, bne_iff_ne, beq_iff_eq, ne_eq]); (try simp only [rng, lo, hi, mnI, mxI, Int.toNat_natCast, Sg.n, Nat.mul_one, Nat.zero_add, Nat.add_zero, Nat.reduceAdd, List.getD_cons_zero, List.getD_cons_succ, not_true_eq_false, false_implies, g1, g2]))
    ((repeat' (first | (with_reducible apply And.intro) | intro _)); all_goals (first | exact trivial | (with_reducible assumption) | (show (_ : List Blk) = _; rfl) | (first | exact trivial | (with_reducible assumption) | omega | (split <;> omega) | (split <;> split <;> omega)) | skip); all_goals (try (refine ⟨rfl, (by first | exact Nat.le_refl _ | exact Nat.le_of_ble_eq_true rfl), rfl, rfl, ?_, (by repeat' (first | exact trivial | rfl | apply And.intro)), rfl, rfl⟩)))
    all_goals (first | omega | contradiction | exact sameA_refl _ | trace_state)
end Go.Proofs.Ytgogccconmlkiaa
