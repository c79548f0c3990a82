/- A goat read from its line: the spec. -/
import Derived.Test.YtplnfdgokpgbcaaDoorRdI
namespace Go.Proofs.YtplnfdgokpgbcaaDoor
open Go Go.Eng
set_option linter.unusedSimpArgs false
set_option linter.unusedVariables false
set_option maxRecDepth 100000
set_option maxHeartbeats 4000000

theorem nv_eq (x : ByteArray) : (if numB x = true then numK x x.size else 0) = nv x := rfl
theorem pa_eq (s : ByteArray) : (splL s 44).getD (Int.toNat 0) ByteArray.empty = pa s := rfl
theorem pb_eq (s : ByteArray) : (splL s 44).getD (Int.toNat 1) ByteArray.empty = pb s := rfl
def spX (s : ByteArray) : Int := if spO s = true then nv (pa s) else 0
def spY (s : ByteArray) : Int := if spO s = true then nv (pb s) else 0
def spV (s : ByteArray) : List Int := [spX s, spY s]
def spS : Fun
  | [.s s], [] => some (.t2 (.ag .spot [spX s, spY s]) (.b (spO s)), [], [s.size ≤ 1073741000])
  | _, _ => .none
set_option maxRecDepth 100000 in
theorem s_l02ReadSpot : Sound Tryd.prog 97 spS := by
  intro args M r M' vs h hvs
  unfold spS at h
  split at h
  case h_2 => cases h
  rename_i s
  cases h
  refine SpecOK.assume fun hA hM => ?_
  have htb := (TbOk.cons s_l01Split Tryd.func64 rfl rfl (TbOk.cons s_l01Number Tryd.func66 rfl rfl (TbOk.nil : TbOk Tryd.prog tb0)))
  refine SpecOK.of_goes [] Tryd.func97 rfl ?_
  obtain ⟨hs, -⟩ := hvs
  clear hA hM
  have hszs := splL_size s 44
  have n1 := nv_rng (pa s)
  have n2 := nv_rng (pb s)
  have q1 := pa_eq s
  have q2 := pb_eq s
  have q3 := nv_eq
  cases hO : spO s with
  | true =>
    rw [show spX s = nv (pa s) from if_pos hO, show spY s = nv (pb s) from if_pos hO]
    obtain ⟨h1, h2, h3, h4, h5⟩ := (spO_iff s).1 hO
    have e1 : nv (pa s) = numK (pa s) (pa s).size := if_pos h2
    have e2 : nv (pb s) = numK (pb s) (pb s).size := if_pos h3
    rw [e1] at h4 n1 ⊢
    rw [e2] at h5 n2 ⊢
    clear e1 e2
    refine Goes.tree Γ_ok htb 1000 false false Tryd.func97 rfl ?_
    ((try simp only [decide_eq_true_eq, decide_eq_false_iff_not, Bool.not_eq_true', Bool.not_eq_false', Bool.not_true, Bool.not_false, Bool.and_eq_true, Bool.or_eq_true, bne_iff_ne, beq_iff_eq, ne_eq]); (try simp only [rng, lo, hi, mnI, mxI, Int.toNat_natCast, Sg.n, Nat.mul_one, Nat.zero_add, Nat.add_zero, Nat.reduceAdd, List.getD_cons_zero, List.getD_cons_succ, q1, q2, h2, h3, if_true]))
    (repeat' (first | (with_reducible apply And.intro) | intro _))
    all_goals (try with_reducible first | exact no_tf (by with_reducible assumption) | exact no_ft (by with_reducible assumption))
    all_goals (try first | exact trivial | (with_reducible assumption) | contradiction | (first | exact trivial | (with_reducible assumption) | omega | (split <;> omega) | (split <;> split <;> omega)))
    all_goals (try (refine ⟨rfl, (by first | exact Nat.le_refl _ | exact Nat.le_of_ble_eq_true rfl), rfl, rfl, ?_, (by repeat' (first | exact trivial | rfl | apply And.intro)), rfl, rfl⟩))
    all_goals (first | exact ⟨⟨rfl, rfl⟩, rfl⟩ | omega | trace_state)
  | false =>
    rw [show spX s = 0 from if_neg (by rw [hO]; decide), show spY s = 0 from if_neg (by rw [hO]; decide)]
    have hno : ¬ (((splL s 44).length : Int) = 2 ∧ numB (pa s) = true ∧ numB (pb s) = true ∧ ¬ 10 ≤ nv (pa s) ∧ ¬ 10 ≤ nv (pb s)) := fun g => by rw [(spO_iff s).2 g] at hO; cases hO
    refine Goes.tree Γ_ok htb 1000 false false Tryd.func97 rfl ?_
    ((try simp only [decide_eq_true_eq, decide_eq_false_iff_not, Bool.not_eq_true', Bool.not_eq_false', Bool.not_true, Bool.not_false, Bool.and_eq_true, Bool.or_eq_true, bne_iff_ne, beq_iff_eq, ne_eq]); (try simp only [rng, lo, hi, mnI, mxI, Int.toNat_natCast, Sg.n, Nat.mul_one, Nat.zero_add, Nat.add_zero, Nat.reduceAdd, List.getD_cons_zero, List.getD_cons_succ, q1, q2, q3]))
    (repeat' (first | (with_reducible apply And.intro) | intro _))
    all_goals (try with_reducible first | exact no_tf (by with_reducible assumption) | exact no_ft (by with_reducible assumption))
    all_goals (try first | exact trivial | (with_reducible assumption) | contradiction | (first | exact trivial | (with_reducible assumption) | omega | (split <;> omega) | (split <;> split <;> omega)))
    all_goals (try (refine ⟨rfl, (by first | exact Nat.le_refl _ | exact Nat.le_of_ble_eq_true rfl), rfl, rfl, ?_, (by repeat' (first | exact trivial | rfl | apply And.intro)), rfl, rfl⟩))
    all_goals (first | exact ⟨⟨rfl, rfl⟩, rfl⟩ | omega | (exfalso; exact hno ⟨by omega, by assumption, by assumption, by omega, by omega⟩) | trace_state)
theorem sp_rng (s : ByteArray) : (0 ≤ spX s ∧ spX s ≤ 9) ∧ 0 ≤ spY s ∧ spY s ≤ 9 := by
  have h1 := nv_rng (pa s)
  have h2 := nv_rng (pb s)
  unfold spX spY
  by_cases h : spO s = true
  · obtain ⟨-, -, -, h4, h5⟩ := (spO_iff s).1 h
    rw [if_pos h, if_pos h]; omega
  · rw [if_neg h, if_neg h]; omega
/-- The parts of a line, and of a tie. -/
def gw (s : ByteArray) (i : Nat) : ByteArray := (splL s 32).getD i ⟨#[]⟩
def tw (s : ByteArray) (i : Nat) : ByteArray := (splL s 126).getD i ⟨#[]⟩
def freeB : ByteArray := ⟨#[102, 114, 101, 101]⟩
def richB : ByteArray := ⟨#[114, 105, 99, 104]⟩
def nearB : ByteArray := ⟨#[110, 101, 97, 114]⟩
def tieP (w : ByteArray) : Prop := ((splL w 126).length : Int) = 2 ∧ spO (tw w 0) = true ∧ numB (tw w 1) = true ∧ ¬ 200 < nv (tw w 1)
def goP (s : ByteArray) : Prop := ((splL s 32).length : Int) = 4 ∧ (gw s 1 = freeB ∨ tieP (gw s 1)) ∧ spO (gw s 0) = true ∧ numB (gw s 2) = true ∧ ¬ 100 < nv (gw s 2) ∧ (gw s 3 = richB ∨ gw s 3 = nearB)
noncomputable def goO (s : ByteArray) : Bool := @decide (goP s) (Classical.propDecidable _)
theorem goO_iff {s : ByteArray} : goO s = true ↔ goP s := by unfold goO; exact @decide_eq_true_iff _ (Classical.propDecidable _)
def goV (s : ByteArray) : List Int := if gw s 1 = freeB then [spX (gw s 0), spY (gw s 0), 0, 0, -1, nv (gw s 2), if gw s 3 = nearB then 1 else 0]
  else [spX (gw s 0), spY (gw s 0), spX (tw (gw s 1) 0), spY (tw (gw s 1) 0), nv (tw (gw s 1) 1), nv (gw s 2), if gw s 3 = nearB then 1 else 0]
noncomputable def grS : Fun
  | [.s s], [] => some (.t2 (.ag .goat (if goO s = true then goV s else List.replicate 7 0)) (.b (goO s)), [], [s.size ≤ 1073741000])
  | _, _ => .none
theorem gr_bad {f : Nat → Nat} {s : ByteArray} (h : ¬ goP s) {v w : List Int} (hw : w = List.replicate 7 0) : sameA (AV.mapI f ((AV.ag .goat (if goO s = true then v else List.replicate 7 0)).t2 (AV.b (goO s)))) ((AV.ag .goat w).t2 (AV.d false)) := by
  subst hw
  have e : goO s = false := by
    cases hh : goO s with
    | false => rfl
    | true => exact absurd (goO_iff.1 hh) h
  rw [e]
  exact ⟨⟨rfl, rfl⟩, rfl⟩
theorem gr_good {f : Nat → Nat} {s : ByteArray} (h : goP s) {v w : List Int} (hw : v = w) : sameA (AV.mapI f ((AV.ag .goat (if goO s = true then v else List.replicate 7 0)).t2 (AV.b (goO s)))) ((AV.ag .goat w).t2 (AV.d true)) := by
  subst hw
  rw [goO_iff.2 h]
  exact ⟨⟨rfl, rfl⟩, rfl⟩
end Go.Proofs.YtplnfdgokpgbcaaDoor
