/- The laws' comparisons, where both sides are the same. -/
import Derived.Test.YtplnfdgokpgbcaaDoorConv
namespace Go.Proofs.YtplnfdgokpgbcaaDoor
open Go Go.Eng
set_option linter.unusedSimpArgs false
set_option linter.unusedVariables false

/-- Asked about the same, it says yes. -/
def refS (σ : Sg) : Fun
  | [.ag τ xs, .ag τ' ys], [] => if τ = σ ∧ τ' = σ then some (.d true, [], [xs = ys]) else .none
  | _, _ => .none

theorem refS_inv {σ : Sg} {args : List AV} {M M' : List Blk} {r : AV} {vs : List Prop} (h : refS σ args M = some (r, M', vs)) (hv : allP vs) : ∃ xs, args = [.ag σ xs, .ag σ xs] ∧ M = [] ∧ r = .d true ∧ M' = [] := by
  unfold refS at h
  split at h
  · split at h
    · rename_i hc; cases h; obtain ⟨rfl, rfl⟩ := hc; obtain ⟨rfl, -⟩ := hv; exact ⟨_, rfl, rfl, rfl, rfl⟩
    · cases h
  · cases h
set_option maxRecDepth 100000 in
theorem s_eqSpot : Sound Tryd.prog 88 (refS .spot) := by
  intro args M r M' vs h hvs
  obtain ⟨xs, rfl, rfl, rfl, rfl⟩ := refS_inv h hvs
  have htb := (TbOk.nil : TbOk Tryd.prog tb0)
  refine SpecOK.of_goes [] Tryd.func88 rfl ?_
  refine Goes.run Γ_ok htb 100 false (List.replicate 40 false) rfl ?_ ?_
  · repeat' (first | exact trivial | rfl | apply And.intro)
    all_goals simp
  refine Goes.ret Γ_ok Tryd.func88 rfl rfl ?_
  exact ⟨rfl, Nat.le_refl _, rfl, rfl, rfl, trivial, rfl, rfl⟩

set_option maxRecDepth 100000 in
theorem s_eqGoat : Sound Tryd.prog 50 (refS .goat) := by
  intro args M r M' vs h hvs
  obtain ⟨xs, rfl, rfl, rfl, rfl⟩ := refS_inv h hvs
  have htb := TbOk.cons s_eqSpot Tryd.func88 rfl rfl TbOk.nil
  refine SpecOK.of_goes [] Tryd.func50 rfl ?_
  refine Goes.run Γ_ok htb 100 false (List.replicate 40 false) rfl ?_ ?_
  · repeat' (first | exact trivial | rfl | apply And.intro)
    all_goals simp
  refine Goes.ret Γ_ok Tryd.func50 rfl rfl ?_
  exact ⟨rfl, Nat.le_refl _, rfl, rfl, rfl, trivial, rfl, rfl⟩

set_option maxRecDepth 100000 in
theorem s_eqHurdle : Sound Tryd.prog 56 (refS .hur) := by
  intro args M r M' vs h hvs
  obtain ⟨xs, rfl, rfl, rfl, rfl⟩ := refS_inv h hvs
  have htb := TbOk.cons s_eqSpot Tryd.func88 rfl rfl TbOk.nil
  refine SpecOK.of_goes [] Tryd.func56 rfl ?_
  refine Goes.run Γ_ok htb 100 false (List.replicate 40 false) rfl ?_ ?_
  · repeat' (first | exact trivial | rfl | apply And.intro)
    all_goals simp
  refine Goes.ret Γ_ok Tryd.func56 rfl rfl ?_
  exact ⟨rfl, Nat.le_refl _, rfl, rfl, rfl, trivial, rfl, rfl⟩

end Go.Proofs.YtplnfdgokpgbcaaDoor
