/- The engine, part 20b: rows are frozen on the way and at the end. No conditions. -/
import Derived.Test.YtfelemoefhbphaaEng20
namespace Go.Eng
open Go Go.RowKit
variable {P : Program} {Γ : Tab}

def frzB (z : Bool) (rs : List AV) (M : List Blk) : Option (List AV × List Blk) :=
  match z with
  | true => frzL rs M
  | false => some (rs, M)

variable {fn : FuncId} {m : Nat} {R : AV → List Blk → Prop}

theorem Goes.retZ (H : TabOk P Γ) (z : Bool) {f : Func} (hf : P.funcs[fn]? = some f) {fr : List AV} {M M' : List Blk} {rs rs' : List AV} {r : AV}
    (h : evResL Γ fr M f.results.toList = some rs) (hz : frzB z rs M = some (rs', M')) (ht : tupAV rs' = some r) (hR : R r M') : (∀ k, Goes P fn m (.code .ret :: k) fr M R) ∧ Goes P fn m [] fr M R := by
  have key : ∀ (ρ : Rho) (a : Act) (w : World), m ≤ M.length → FRel ρ M.length fr a → MRel ρ M w → ∃ v ρ', (results f a.tmps).run P w = .ok v w ∧ Den ρ' r v ∧ (∀ i ∈ r.ids, i < M'.length) ∧ AfterM m ρ M M' w w ρ' := by
    intro ρ a w hm0 hF hM
    obtain ⟨vs, hvs, hd, hi⟩ := evResL_sound H hF hM h
    have hres : ∀ rs'' : List AV, ∀ ρ' : Rho, Dens ρ' rs'' vs → (∀ q ∈ rs'', ∀ i ∈ q.ids, i < M'.length) → tupAV rs'' = some r → ∃ v, (results f a.tmps).run P w = .ok v w ∧ Den ρ' r v ∧ ∀ i ∈ r.ids, i < M'.length := by
      intro rs'' ρ' hd' hi' ht'
      obtain ⟨h1, h2⟩ := tup_sound ht' hd' hi'
      refine ⟨_, ?_, h1, h2⟩
      rw [results_eq, Array.mapM_eq_mapM_toList, Sem.run_bind]
      have : ((List.toArray <$> List.mapM (resOf a.tmps) f.results.toList).run P w) = .ok vs.toArray w := by
        rw [← bind_pure_comp, Sem.run_bind, hvs]; rfl
      rw [this]
      rfl
    cases z with
    | false =>
      cases hz
      obtain ⟨v, h1, h2, h3⟩ := hres _ ρ hd hi ht
      exact ⟨v, ρ, h1, h2, h3, AfterM.refl hm0 hM⟩
    | true =>
      obtain ⟨ρ', k1, k2, k3, k4, k5⟩ := frzL_sound hM hd hi hz
      obtain ⟨v, h1, h2, h3⟩ := hres _ ρ' k2 k3 ht
      exact ⟨v, ρ', h1, h2, h3, k1.comp hm0 (AfterM.refl (by omega) k1.rel)⟩
  constructor
  · intro k ρ a w b cs hm0 hb hk hF hd hM
    obtain ⟨v, ρ', h1, h2, h3, h4⟩ := key ρ a w hm0 hF hM
    exact ⟨v, w, _, ρ', r, M', .one step_ret, hb, ⟨rfl, hd, hk, f, by rw [← hb] at hf; exact hf, h1⟩, hR, h2, h4, h3⟩
  · intro ρ a w b cs hm0 hb hk hF hd hM
    obtain ⟨v, ρ', h1, h2, h3, h4⟩ := key ρ a w hm0 hF hM
    exact ⟨v, w, _, ρ', r, M', .one step_end, hb, ⟨rfl, hd, hk, f, by rw [← hb] at hf; exact hf, h1⟩, hR, h2, h4, h3⟩

/-- A row is frozen on the way. -/
theorem Goes.freeze {todo : List Item} {fr : List AV} {M : List Blk} (t id n : Nat) (σ : Sg) (e : TypeId) {c : Cn} (hf : fr.getD t .any = .ow id n σ e) (hc : srcOf M (.ow id n σ e) = some c)
    (g : Goes P fn m todo (fr.set t (frz c)) (M.set id .dead) R) : Goes P fn m todo fr M R := by
  intro ρ a w b cs hm0 hb hk hF hd hM
  have hm := own_src hM hc
  have hdt := hF.den t
  rw [hf] at hdt
  obtain ⟨ρ1, h1, h2, h3⟩ := After.freeze hM hm hdt
  have h3' : Den ρ1 (frz c) (a.tmps.getD t undef) := by cases c <;> exact h3
  have e1 : ∀ s, (fr.set t (frz c)).getD s .any = if t = s ∧ s < fr.length then frz c else fr.getD s .any := by
    intro s
    rw [List.getD_eq_getElem?_getD, List.getD_eq_getElem?_getD, List.getElem?_set]
    by_cases hs : t = s
    · subst hs
      by_cases hl : t < fr.length
      · simp [hl]
      · simp [hl]
    · simp [hs]
  have hF1 : FRel ρ1 (M.set id .dead).length (fr.set t (frz c)) a := by
    refine ⟨by rw [List.length_set]; exact hF.size, fun s => ?_, fun s i hi => ?_⟩
    · rw [e1]
      split
      · rename_i hs; rw [← hs.1]; exact h3'
      · exact (hF.den s).congr h1.fmono (fun id _ => h2 id)
    · rw [e1] at hi
      rw [List.length_set]
      split at hi
      · rw [frz_ids] at hi; cases hi
      · exact hF.ids s i hi
  obtain ⟨v, w', fr2, ρ', r, M2, hs, q1, q2, q3, q4, q5, q6⟩ := g ρ1 a w b cs (by simpa using hm0) hb hk hF1 hd h1.rel
  exact ⟨v, w', fr2, ρ', r, M2, hs, q1, q2, q3, q4, h1.comp hm0 q5, q6⟩

end Go.Eng
