/- The row HayOf: the spec and the program tell the hay behind some days alike. -/
import Derived.Test.YtgogccconmlkiaaHay
import Derived.Test.YtgogccconmlkiaaEqs
namespace Go.Proofs.Ytgogccconmlkiaa
open Go Go.Eng
set_option linter.unusedSimpArgs false
set_option linter.unusedVariables false
set_option maxRecDepth 100000
set_option maxHeartbeats 4000000

noncomputable def hayV (p g s : List Int) (d l : Int) : Int := if hayC p g s d l = 0 then hayAt p g (yardR p s) l d.toNat else 0
noncomputable def hayOfS : Fun
  | [.ag .pas p, .ag .gro g, .ag .spot s, .i .i64 d, .i .i64 l], [] => some (.t2 (.i .i64 (hayV p g s d l)) (.i .i64 (hayC p g s d l)), [], [])
  | _, _ => .none

set_option maxRecDepth 100000 in
theorem s_specHayOf : Sound Try.prog 53 hayOfS := by
  intro args M r M' vs h hvs
  unfold hayOfS at h
  split at h
  case h_2 => cases h
  rename_i p g s d l
  cases h
  refine SpecOK.assume fun hA hM => ?_
  have htb := (TbOk.cons s_l04Mowed Try.func103 rfl rfl (TbOk.cons s_l04Days Try.func108 rfl rfl (TbOk.cons s_l01Yard Try.func96 rfl rfl (TbOk.cons s_l04Mow Try.func95 rfl rfl (TbOk.nil : TbOk Try.prog tb0)))))
  refine SpecOK.of_goes [] Try.func53 rfl ?_
  have hlen : p.length = 122 := hA.1
  have hok := fun h => hay_facts (p := p) (g := g) (s := s) (d := d) (l := l) hlen h
  clear hA hM
  have hm := fun h : hayC p g s d l = 0 => by
    obtain ⟨-, -, a1, a2, a3, a4, a5, a6, a7, a8, a9⟩ := hok h
    exact (show mowOk (growN g p d.toNat) (yardR p s) l from ⟨(growN_ok a3 a1 a2 _).1, fun r hr => (a4 r hr).1, a8, a9, by omega⟩)
  have hp := fun h : hayC p g s d l = 0 => (hok h).2.2
  refine Goes.tree Γ_ok htb 1000 false false Try.func53 rfl ?_
  ((try simp only [decide_eq_true_eq, decide_eq_false_iff_not, Bool.not_eq_true', Bool.not_eq_false', Bool.not_true, Bool.not_false, Bool.and_eq_true, Bool.or_eq_true, bne_iff_ne, beq_iff_eq, ne_eq]); (try simp only [rng, lo, hi, mnI, mxI, Int.toNat_natCast, Sg.n, Nat.mul_one, Nat.zero_add, Nat.add_zero, Nat.reduceAdd, List.getD_cons_zero, List.getD_cons_succ]))
  ((repeat' (first | (with_reducible apply And.intro) | intro _)); all_goals (first | exact trivial | (with_reducible assumption) | (show (_ : List Blk) = _; rfl) | (first | exact trivial | (with_reducible assumption) | omega | (split <;> omega) | (split <;> split <;> omega)) | skip); all_goals (try (refine ⟨rfl, (by first | exact Nat.le_refl _ | exact Nat.le_of_ble_eq_true rfl), rfl, rfl, ?_, (by repeat' (first | exact trivial | rfl | apply And.intro)), rfl, rfl⟩)))
  all_goals (try first | exact (hok (by assumption)).1 | exact (hok (by assumption)).2.1 | exact hm (by assumption) | exact (hp (by assumption)).1 | exact (hp (by assumption)).2.1 | exact (hp (by assumption)).2.2.1 | (have := hp (by assumption); unfold hayOk at this; omega))
  · rename_i h
    refine sameA_t2 ?_ rfl
    rw [hayV, if_neg h]
  · rename_i h
    refine sameA_t2 ?_ h
    rw [hayV, if_pos h]; rfl

set_option maxRecDepth 100000 in
theorem s_implHayOf : Sound Try.prog 49 hayOfS := by
  intro args M r M' vs h hvs
  unfold hayOfS at h
  split at h
  case h_2 => cases h
  rename_i p g s d l
  cases h
  refine SpecOK.assume fun hA hM => ?_
  have htb := (TbOk.cons s_hayCode Try.func99 rfl rfl (TbOk.cons s_yardZ Try.func85 rfl rfl (TbOk.cons s_hays Try.func100 rfl rfl (TbOk.nil : TbOk Try.prog tb0))))
  refine SpecOK.of_goes [] Try.func49 rfl ?_
  have hlen : p.length = 122 := hA.1
  have hok := fun h => hay_facts (p := p) (g := g) (s := s) (d := d) (l := l) hlen h
  clear hA hM
  have hp := fun h : hayC p g s d l = 0 => (hok h).2.2
  have hg := fun h : hayC p g s d l = 0 => by
    obtain ⟨-, -, a1, a2, a3, a4, a5, a6, a7, a8, a9⟩ := hok h
    exact (show (haysL p g (yardR p s) l (d + 1).toNat).getD d.toNat [] = [hayAt p g (yardR p s) l d.toNat] ∧ (haysL p g (yardR p s) l (d + 1).toNat).length = (d + 1).toNat from ⟨haysL_get _ _ _ _ _ _ (by omega), haysL_len _ _ _ _ _⟩)
  have hd := fun h : hayC p g s d l = 0 => by
    have := hp h
    unfold hayOk at this
    exact (show 0 ≤ d ∧ d ≤ 365 by omega)
  refine Goes.tree Γ_ok htb 1000 false false Try.func49 rfl ?_
  ((try simp only [decide_eq_true_eq, decide_eq_false_iff_not, Bool.not_eq_true', Bool.not_eq_false', Bool.not_true, Bool.not_false, Bool.and_eq_true, Bool.or_eq_true, bne_iff_ne, beq_iff_eq, ne_eq]); (try simp only [rng, lo, hi, mnI, mxI, Int.toNat_natCast, Sg.n, Nat.mul_one, Nat.zero_add, Nat.add_zero, Nat.reduceAdd, List.getD_cons_zero, List.getD_cons_succ]))
  ((repeat' (first | (with_reducible apply And.intro) | intro _)); all_goals (first | exact trivial | (with_reducible assumption) | (show (_ : List Blk) = _; rfl) | (first | exact trivial | (with_reducible assumption) | omega | (split <;> omega) | (split <;> split <;> omega)) | skip); all_goals (try (refine ⟨rfl, (by first | exact Nat.le_refl _ | exact Nat.le_of_ble_eq_true rfl), rfl, rfl, ?_, (by repeat' (first | exact trivial | rfl | apply And.intro)), rfl, rfl⟩)))
  all_goals (try first | exact (hok (by assumption)).1 | exact (hok (by assumption)).2.1 | exact hp (by assumption) | (have := hd (by assumption); have := (hg (by assumption)).2; omega))
  · rename_i h
    refine sameA_t2 ?_ rfl
    rw [hayV, if_neg h]
  · rename_i h
    refine sameA_t2 ?_ h
    rw [hayV, if_pos h, (hg h).1]; rfl

end Go.Proofs.Ytgogccconmlkiaa
