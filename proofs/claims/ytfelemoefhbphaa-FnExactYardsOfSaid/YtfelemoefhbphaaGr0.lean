/- Grass within bounds. -/
import Derived.Test.YtfelemoefhbphaaLists
import Derived.Test.YtfelemoefhbphaaCell
namespace Go.Proofs.Ytfelemoefhbphaa
open Go Go.Eng
set_option linter.unusedSimpArgs false
set_option linter.unusedVariables false
set_option maxRecDepth 100000
set_option maxHeartbeats 4000000

/-- The place of the grass of a cell. -/
def gx (s : List Int) : Nat := 2 + (s.getD 1 0).toNat * 10 + (s.getD 0 0).toNat
theorem gAt_gx (p s : List Int) : gAt p s = p.getD (gx s) 0 := by unfold gAt gx; rw [Nat.mul_one]
theorem quo4 {n m : Int} (h : 0 ≤ n) (h' : n ≤ m) : 0 ≤ n.tdiv 4 ∧ n.tdiv 4 ≤ m := by rw [Int.tdiv_eq_ediv_of_nonneg h]; omega

/-- All grass lies within bounds. -/
structure GR (p : List Int) : Prop where
  len : p.length = 122
  rng : ∀ s, inG s → 0 ≤ p.getD (gx s) 0 ∧ p.getD (gx s) 0 ≤ 1000

theorem gx_lt {s : List Int} (h : inG s) : gx s < 122 ∧ 2 ≤ gx s := by unfold inG at h; unfold gx; omega

theorem GR.of {p : List Int} (hl : p.length = 122) (h : okP p) : GR p := by
  refine ⟨hl, fun s hs => ?_⟩
  unfold inG at hs
  have := (h.2 (s.getD 1 0).toNat (by omega)).1 (s.getD 0 0).toNat (by omega)
  have h2 := And.intro this.1 this.2.1
  rw [Nat.mul_one] at h2
  exact h2

theorem sg_get {l : List Int} {i j : Nat} {v : Int} : (l.set i v).getD j 0 = if i = j ∧ j < l.length then v else l.getD j 0 := by
  rw [List.getD_eq_getElem?_getD, List.getD_eq_getElem?_getD, List.getElem?_set]
  by_cases h : i = j
  · subst h
    by_cases hl : i < l.length
    · simp [hl]
    · simp [hl]
  · simp [h]

theorem GR.set {p : List Int} (h : GR p) (i : Nat) {v : Int} (h0 : 0 ≤ v) (h1 : v ≤ 1000) : GR (p.set i v) := by
  refine ⟨by rw [List.length_set]; exact h.len, fun s hs => ?_⟩
  rw [sg_get]
  have := h.rng s hs
  split <;> omega

theorem sg_low {p : List Int} {i j : Nat} {v : Int} (hi : 2 ≤ i) (hj : j < 2) : (p.set i v).getD j 0 = p.getD j 0 := by
  rw [sg_get, if_neg (by omega)]

/-- The code of a pasture, a cell and a bound. -/
def boundC (p s : List Int) (q : Prop) [Decidable q] : Int := if codeP p [s] = 0 then (if q then 0 else 2) else codeP p [s]
theorem boundC_ok {p s : List Int} {q : Prop} [Decidable q] (h : boundC p s q = 0) : okP p ∧ isP p s = true ∧ q := by
  unfold boundC at h
  split at h
  · rename_i hc
    obtain ⟨h1, h2⟩ := codeP_all hc
    split at h
    · rename_i hd; exact ⟨h1, h2 s (List.mem_singleton.2 rfl), hd⟩
    · cases h
  · contradiction
theorem boundC_eq (p s : List Int) (q : Prop) [Decidable q] : boundC p s q = if q then codeP p [s] else if okP p then 2 else 1 := by
  unfold boundC
  rw [codeP_one]
  split <;> split <;> simp_all
theorem boundC_fst (p s : List Int) (q : Prop) [Decidable q] {f : List (List Int) → Int} (hf : f [[codeP p [s]], [if q then 0 else 2]] = if codeP p [s] = 0 then (if (if q then (0:Int) else 2) = 0 then 0 else (if q then 0 else 2)) else codeP p [s]) : f [[codeP p [s]], [if q then 0 else 2]] = boundC p s q := by
  rw [hf]
  unfold boundC
  split <;> (try split) <;> simp_all

theorem sameA_a3 {k k' : IntKind} {σ : Sg} {a b : List Int} {c d e f : Int} (h : a = b) (h' : c = d) (h'' : e = f) : sameA (.t3 (.ag σ a) (.i k c) (.i k' e)) (.t3 (.ag σ b) (.i k d) (.i k' f)) := by subst h; subst h'; subst h''; exact sameA_refl _
end Go.Proofs.Ytfelemoefhbphaa
