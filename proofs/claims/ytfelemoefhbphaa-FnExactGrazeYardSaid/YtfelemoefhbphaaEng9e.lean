/- The engine, part 9e: rows that are handed on are frozen. No conditions. -/
import Derived.Test.YtfelemoefhbphaaEng9d
namespace Go.Eng
open Go Go.RowKit
variable {P : Program} {Γ : Tab}

def frz : Cn → AV
  | .l σ rows => .fs σ rows
  | .s l => .fstr l
  | .f τ l => .fz τ l

theorem frz_ids (c : Cn) : (frz c).ids = [] := by cases c <;> rfl

/-- Rows that are handed back are frozen. -/
def frzL : List AV → List Blk → Option (List AV × List Blk)
  | [], M => some ([], M)
  | .ow id n σ e :: l, M => match srcOf M (.ow id n σ e) with
    | some c => match frzL l (M.set id .dead) with
      | some (rs, M') => some (frz c :: rs, M')
      | .none => .none
    | .none => .none
  | x :: l, M => match frzL l M with
    | some (rs, M') => some (x :: rs, M')
    | .none => .none

theorem frzL_sound : ∀ {l rs : List AV} {ρ : Rho} {M M' : List Blk} {w : World} {vs : List Value}, MRel ρ M w → Dens ρ l vs → (∀ r ∈ l, ∀ i ∈ r.ids, i < M.length) → frzL l M = some (rs, M') →
    ∃ ρ', After ρ M M' w w ρ' ∧ Dens ρ' rs vs ∧ (∀ r ∈ rs, ∀ i ∈ r.ids, i < M'.length) ∧ M'.length = M.length ∧ ∀ i, ρ' i = ρ i
  | [], rs, ρ, M, M', w, vs, hM, hd, hi, h => by
    cases h
    cases vs with
    | nil => exact ⟨ρ, After.refl hM, trivial, (fun r hr => by cases hr), rfl, fun _ => rfl⟩
    | cons _ _ => exact hd.elim
  | x :: l, rs, ρ, M, M', w, [], hM, hd, hi, h => hd.elim
  | x :: l, rs, ρ, M, M', w, v :: vs, hM, hd, hi, h => by
    have plain : (match frzL l M with
        | some (rs, M') => some (x :: rs, M')
        | .none => .none) = some (rs, M') → ∃ ρ', After ρ M M' w w ρ' ∧ Dens ρ' rs (v :: vs) ∧ (∀ r ∈ rs, ∀ i ∈ r.ids, i < M'.length) ∧ M'.length = M.length ∧ ∀ i, ρ' i = ρ i := by
      intro h
      split at h
      · rename_i rs' M2 hl
        cases h
        obtain ⟨ρ', h1, h2, h3, h4, h5⟩ := frzL_sound hM hd.2 (fun r hr => hi r (List.mem_cons_of_mem _ hr)) hl
        refine ⟨ρ', h1, ⟨hd.1.congr h1.fmono (fun id _ => h5 id), h2⟩, fun r hr i hri => ?_, h4, h5⟩
        rcases List.mem_cons.1 hr with rfl | hr
        · rw [h4]; exact hi r List.mem_cons_self i hri
        · exact h3 r hr i hri
      · cases h
    unfold frzL at h
    split at h
    · rename_i e; cases e
    · rename_i id n σ e l' he
      cases he
      split at h
      · rename_i c hc
        split at h
        · rename_i rs' M2 hl
          cases h
          have hm := own_src hM hc
          obtain ⟨ρ1, h1, h2, h3⟩ := After.freeze hM hm hd.1
          have hd2 := dens_congr (ρ' := ρ1) h1.fmono (fun y _ i _ => h2 i) hd.2
          obtain ⟨ρ2, k1, k2, k3, k4, k5⟩ := frzL_sound h1.rel hd2 (fun r hr i hri => by simpa using hi r (List.mem_cons_of_mem _ hr) i hri) hl
          have h3' : Den ρ1 (frz c) v := by cases c <;> exact h3
          refine ⟨ρ2, h1.trans k1, ⟨h3'.congr k1.fmono (fun id _ => k5 id), k2⟩, fun r hr i hri => ?_, by rw [k4]; simp, fun i => (k5 i).trans (h2 i)⟩
          rcases List.mem_cons.1 hr with rfl | hr
          · rw [frz_ids] at hri; cases hri
          · exact k3 r hr i hri
        · cases h
      · cases h
    · rename_i he
      cases he
      exact plain h


end Go.Eng
