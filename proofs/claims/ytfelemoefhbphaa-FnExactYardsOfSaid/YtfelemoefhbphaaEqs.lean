/- The laws' comparisons, where both sides are the same. -/
import Derived.Test.YtfelemoefhbphaaConv
namespace Go.Proofs.Ytfelemoefhbphaa
open Go Go.Eng
set_option linter.unusedSimpArgs false
set_option linter.unusedVariables false

/-- Asked about the same, it says yes. -/
def refS (σ : Sg) : Fun
  | [.ag τ xs, .ag τ' ys], [] => if τ = σ ∧ τ' = σ then some (.d true, [], [xs = ys]) else .none
  | _, _ => .none

theorem refS_inv {σ : Sg} {args : List AV} {M M' : List Blk} {r : AV} {vs : List Prop} (h : refS σ args M = some (r, M', vs)) (hv : allP vs) : ∃ xs, args = [.ag σ xs, .ag σ xs] ∧ M = [] ∧ r = .d true ∧ M' = [] := by
  unfold refS at h
  split at h
  · split at h
    · rename_i hc; cases h; obtain ⟨rfl, rfl⟩ := hc; obtain ⟨rfl, -⟩ := hv; exact ⟨_, rfl, rfl, rfl, rfl⟩
    · cases h
  · cases h
set_option maxRecDepth 100000 in
theorem s_eqSpot : Sound Try.prog 60 (refS .spot) := by
  intro args M r M' vs h hvs
  obtain ⟨xs, rfl, rfl, rfl, rfl⟩ := refS_inv h hvs
  have htb := (TbOk.nil : TbOk Try.prog tb0)
  refine SpecOK.of_goes [] Try.func60 rfl ?_
  refine Goes.run Γ_ok htb 100 false (List.replicate 40 false) rfl ?_ ?_
  · repeat' (first | exact trivial | rfl | apply And.intro)
    all_goals simp
  refine Goes.ret Γ_ok Try.func60 rfl rfl ?_
  exact ⟨rfl, Nat.le_refl _, rfl, rfl, rfl, trivial, rfl, rfl⟩

set_option maxRecDepth 100000 in
theorem s_eqHurdle : Sound Try.prog 103 (refS .hur) := by
  intro args M r M' vs h hvs
  obtain ⟨xs, rfl, rfl, rfl, rfl⟩ := refS_inv h hvs
  have htb := TbOk.cons s_eqSpot Try.func60 rfl rfl TbOk.nil
  refine SpecOK.of_goes [] Try.func103 rfl ?_
  refine Goes.run Γ_ok htb 100 false (List.replicate 40 false) rfl ?_ ?_
  · repeat' (first | exact trivial | rfl | apply And.intro)
    all_goals simp
  refine Goes.ret Γ_ok Try.func103 rfl rfl ?_
  exact ⟨rfl, Nat.le_refl _, rfl, rfl, rfl, trivial, rfl, rfl⟩

set_option maxRecDepth 100000 in
theorem s_eqInt16A10 : Sound Try.prog 120 (refS .row) := by
  intro args M r M' vs h hvs
  obtain ⟨xs, rfl, rfl, rfl, rfl⟩ := refS_inv h hvs
  have htb := (TbOk.nil : TbOk Try.prog tb0)
  refine SpecOK.of_goes [] Try.func120 rfl ?_
  refine Goes.run Γ_ok htb 100 false [] rfl trivial ?_
  refine Goes.loop0 (fun i : Nat => 10 - i) (fun i => i ≤ 10) (fun i => frOf 17 [(2, .pw 0 .row), (3, .pw 1 .row), (5, .i .i64 (i:Int))])
    (fun i => [.c .row xs, .c .row xs]) 0 (by omega) (by repeat' (first | exact trivial | rfl | apply And.intro)) (by repeat' (first | exact trivial | rfl | apply And.intro)) fun i hle ih => ?_
  by_cases hlt : i < 10
  · refine Goes.run Γ_ok htb 100 false [true, false] rfl ?_ ?_
    · repeat' (first | exact trivial | rfl | apply And.intro)
      all_goals first | exact decide_eq_true (by omega) | omega | (simp only [rng, lo, hi]; omega) | simp
    exact ih (i+1) (by omega) (by omega) _ _ (by repeat' (first | exact trivial | rfl | apply And.intro)) (by repeat' (first | exact trivial | rfl | apply And.intro))
  · refine Goes.run Γ_ok htb 100 false [false] rfl (by simp only [allP, decide_eq_true_eq, decide_eq_false_iff_not, Bool.not_eq_true', Bool.not_eq_false', and_true] <;> (try simp only [rng, lo, hi, Int.toNat_natCast, Sg.n, Nat.mul_one, Nat.zero_add, Nat.add_zero]) <;> omega) ?_
    refine Goes.ret Γ_ok Try.func120 rfl rfl ?_
    exact ⟨rfl, Nat.le_refl _, rfl, rfl, rfl, trivial, rfl, rfl⟩

set_option maxRecDepth 100000 in
theorem s_eqUint16A10 : Sound Try.prog 71 (refS .w10) := by
  intro args M r M' vs h hvs
  obtain ⟨xs, rfl, rfl, rfl, rfl⟩ := refS_inv h hvs
  have htb := (TbOk.nil : TbOk Try.prog tb0)
  refine SpecOK.of_goes [] Try.func71 rfl ?_
  refine Goes.run Γ_ok htb 100 false [] rfl trivial ?_
  refine Goes.loop0 (fun i : Nat => 10 - i) (fun i => i ≤ 10) (fun i => frOf 17 [(2, .pw 0 .w10), (3, .pw 1 .w10), (5, .i .i64 (i:Int))])
    (fun i => [.c .w10 xs, .c .w10 xs]) 0 (by omega) (by repeat' (first | exact trivial | rfl | apply And.intro)) (by repeat' (first | exact trivial | rfl | apply And.intro)) fun i hle ih => ?_
  by_cases hlt : i < 10
  · refine Goes.run Γ_ok htb 100 false [true, false] rfl ?_ ?_
    · repeat' (first | exact trivial | rfl | apply And.intro)
      all_goals first | exact decide_eq_true (by omega) | omega | (simp only [rng, lo, hi]; omega) | simp
    exact ih (i+1) (by omega) (by omega) _ _ (by repeat' (first | exact trivial | rfl | apply And.intro)) (by repeat' (first | exact trivial | rfl | apply And.intro))
  · refine Goes.run Γ_ok htb 100 false [false] rfl (by simp only [allP, decide_eq_true_eq, decide_eq_false_iff_not, Bool.not_eq_true', Bool.not_eq_false', and_true] <;> (try simp only [rng, lo, hi, Int.toNat_natCast, Sg.n, Nat.mul_one, Nat.zero_add, Nat.add_zero]) <;> omega) ?_
    refine Goes.ret Γ_ok Try.func71 rfl rfl ?_
    exact ⟨rfl, Nat.le_refl _, rfl, rfl, rfl, trivial, rfl, rfl⟩

set_option maxRecDepth 100000 in
theorem s_eqInt16A10A10 : Sound Try.prog 70 (refS .grid) := by
  intro args M r M' vs h hvs
  obtain ⟨xs, rfl, rfl, rfl, rfl⟩ := refS_inv h hvs
  have htb := TbOk.cons s_eqInt16A10 Try.func120 rfl rfl TbOk.nil
  refine SpecOK.of_goes [] Try.func70 rfl ?_
  refine Goes.run Γ_ok htb 100 false [] rfl trivial ?_
  refine Goes.loop0 (fun i : Nat => 10 - i) (fun i => i ≤ 10) (fun i => frOf 18 [(2, .pw 0 .grid), (3, .pw 1 .grid), (5, .i .i64 (i:Int))])
    (fun i => [.c .grid xs, .c .grid xs]) 0 (by omega) (by repeat' (first | exact trivial | rfl | apply And.intro)) (by repeat' (first | exact trivial | rfl | apply And.intro)) fun i hle ih => ?_
  by_cases hlt : i < 10
  · refine Goes.run Γ_ok htb 100 false [true, false] rfl ?_ ?_
    · repeat' (first | exact trivial | rfl | apply And.intro)
      all_goals first | exact decide_eq_true (by omega) | omega | (simp only [rng, lo, hi]; omega) | simp
    exact ih (i+1) (by omega) (by omega) _ _ (by repeat' (first | exact trivial | rfl | apply And.intro)) (by repeat' (first | exact trivial | rfl | apply And.intro))
  · refine Goes.run Γ_ok htb 100 false [false] rfl (by simp only [allP, decide_eq_true_eq, decide_eq_false_iff_not, Bool.not_eq_true', Bool.not_eq_false', and_true] <;> (try simp only [rng, lo, hi, Int.toNat_natCast, Sg.n, Nat.mul_one, Nat.zero_add, Nat.add_zero]) <;> omega) ?_
    refine Goes.ret Γ_ok Try.func70 rfl rfl ?_
    exact ⟨rfl, Nat.le_refl _, rfl, rfl, rfl, trivial, rfl, rfl⟩

set_option maxRecDepth 100000 in
theorem s_eqPasture : Sound Try.prog 29 (refS .pas) := by
  intro args M r M' vs h hvs
  obtain ⟨xs, rfl, rfl, rfl, rfl⟩ := refS_inv h hvs
  have htb := TbOk.cons s_eqInt16A10A10 Try.func70 rfl rfl (TbOk.cons s_eqUint16A10 Try.func71 rfl rfl TbOk.nil)
  refine SpecOK.of_goes [] Try.func29 rfl ?_
  refine Goes.run Γ_ok htb 100 false (List.replicate 40 false) rfl ?_ ?_
  · repeat' (first | exact trivial | rfl | apply And.intro)
    all_goals simp
  refine Goes.ret Γ_ok Try.func29 rfl rfl ?_
  exact ⟨rfl, Nat.le_refl _, rfl, rfl, rfl, trivial, rfl, rfl⟩

end Go.Proofs.Ytfelemoefhbphaa
