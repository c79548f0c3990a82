/- Flows and cuts, plain: whatever flow is the largest, the cells near the source are the same. -/
import Derived.Test.YtjbgjgkogmlpfaaBase
namespace Go.Proofs.Ytjbgjgkogmlpfaa.Fl
open Go Go.Eng
set_option linter.unusedSimpArgs false
set_option linter.unusedVariables false
set_option maxRecDepth 100000
set_option maxHeartbeats 4000000

def sgN (f : Nat → Int) : Nat → Int
  | 0 => 0
  | n + 1 => sgN f n + f n
theorem sgN_congr {f g : Nat → Int} : ∀ n, (∀ i, i < n → f i = g i) → sgN f n = sgN g n
  | 0, _ => rfl
  | n + 1, h => by
    show sgN f n + f n = sgN g n + g n
    rw [sgN_congr n fun i hi => h i (by omega), h n (by omega)]
theorem sgN_add (f g : Nat → Int) : ∀ n, sgN (fun i => f i + g i) n = sgN f n + sgN g n
  | 0 => rfl
  | n + 1 => by
    show sgN (fun i => f i + g i) n + (f n + g n) = sgN f n + f n + (sgN g n + g n)
    rw [sgN_add f g n]; omega
theorem sgN_neg (f : Nat → Int) : ∀ n, sgN (fun i => - f i) n = - sgN f n
  | 0 => rfl
  | n + 1 => by
    show sgN (fun i => - f i) n + - f n = - (sgN f n + f n)
    rw [sgN_neg f n]; omega
theorem sgN_zero : ∀ n, sgN (fun _ => 0) n = 0
  | 0 => rfl
  | n + 1 => by show sgN (fun _ => 0) n + 0 = 0; rw [sgN_zero n]; rfl
theorem sgN_le {f g : Nat → Int} : ∀ n, (∀ i, i < n → f i ≤ g i) → sgN f n ≤ sgN g n
  | 0, _ => Int.le_refl _
  | n + 1, h => by
    show sgN f n + f n ≤ sgN g n + g n
    have h1 := sgN_le n fun i hi => h i (by omega)
    have h2 := h n (by omega)
    omega
theorem sgN_eq_of_le {f g : Nat → Int} : ∀ n, (∀ i, i < n → f i ≤ g i) → sgN f n = sgN g n → ∀ i, i < n → f i = g i
  | 0, _, _ => fun i hi => by omega
  | n + 1, h, he => fun i hi => by
    have h1 := sgN_le n fun i hi => h i (by omega)
    have h2 := h n (by omega)
    have he : sgN f n + f n = sgN g n + g n := he
    by_cases hin : i = n
    · subst hin; omega
    · exact sgN_eq_of_le n (fun i hi => h i (by omega)) (by omega) i (by omega)
theorem sgN_swap (f : Nat → Nat → Int) (m : Nat) : ∀ n, sgN (fun u => sgN (f u) m) n = sgN (fun v => sgN (fun u => f u v) n) m
  | 0 => (sgN_zero m).symm
  | n + 1 => by
    show sgN (fun u => sgN (f u) m) n + sgN (f n) m = _
    rw [sgN_swap f m n, ← sgN_add]; rfl
/-- Antisymmetric terms sum to nothing. -/
theorem sgN_anti {f : Nat → Nat → Int} (n : Nat) (h : ∀ u v, f u v = - f v u) : sgN (fun u => sgN (f u) n) n = 0 := by
  have h1 : sgN (fun u => sgN (f u) n) n = sgN (fun u => - sgN (fun v => f v u) n) n := sgN_congr n fun u _ => by
    rw [← sgN_neg]; exact sgN_congr n fun v _ => h u v
  rw [sgN_neg] at h1
  have h2 := sgN_swap f n n
  omega
/-- One term alone. -/
theorem sgN_one (k : Nat) (x : Int) : ∀ n, sgN (fun i => if i = k then x else 0) n = if k < n then x else 0
  | 0 => by rw [if_neg (Nat.not_lt_zero k)]; rfl
  | n + 1 => by
    show sgN (fun i => if i = k then x else 0) n + (if n = k then x else 0) = _
    rw [sgN_one k x n]
    by_cases h : n = k
    · rw [if_pos h, if_neg (by omega), if_pos (by omega)]; omega
    · rw [if_neg h]
      by_cases h2 : k < n
      · rw [if_pos h2, if_pos (by omega)]; omega
      · rw [if_neg h2, if_neg (by omega)]; rfl

/-- What runs from the cells of A to those of B, over sides of the width c. -/
structure IsFlow (n : Nat) (c : Nat → Nat → Int) (A B : Nat → Prop) (f : Nat → Nat → Int) : Prop where
  anti : ∀ u v, f u v = - f v u
  cap : ∀ u v, u < n → v < n → f u v ≤ c u v
  cons : ∀ u, u < n → ¬ A u → ¬ B u → sgN (f u) n = 0
open Classical in
noncomputable def valF (n : Nat) (A : Nat → Prop) (f : Nat → Nat → Int) : Int := sgN (fun u => if A u then sgN (f u) n else 0) n
open Classical in
noncomputable def cutF' (n : Nat) (S : Nat → Prop) (f : Nat → Nat → Int) : Int := sgN (fun u => sgN (fun v => if S u ∧ ¬ S v then f u v else 0) n) n
/-- S parts A from B. -/
def Parts (n : Nat) (A B S : Nat → Prop) : Prop := ∀ u, u < n → (A u → S u) ∧ (S u → ¬ B u)
theorem val_cut {n : Nat} {c : Nat → Nat → Int} {A B S : Nat → Prop} {f : Nat → Nat → Int} (hf : IsFlow n c A B f) (hS : Parts n A B S) : valF n A f = cutF' n S f := by
  classical
  have h1 : valF n A f = sgN (fun u => if S u then sgN (f u) n else 0) n := by
    refine sgN_congr n fun u hu => ?_
    by_cases ha : A u
    · rw [if_pos ha, if_pos ((hS u hu).1 ha)]
    · rw [if_neg ha]
      by_cases hs : S u
      · rw [if_pos hs, hf.cons u hu ha ((hS u hu).2 hs)]
      · rw [if_neg hs]
  have h2 : (fun u => if S u then sgN (f u) n else 0) = fun u => sgN (fun v => if S u ∧ S v then f u v else 0) n + sgN (fun v => if S u ∧ ¬ S v then f u v else 0) n := by
    funext u
    rw [← sgN_add]
    by_cases hs : S u
    · rw [if_pos hs]
      refine sgN_congr n fun v _ => ?_
      by_cases hv : S v <;> simp [hs, hv]
    · rw [if_neg hs]
      have : (fun v => (if S u ∧ S v then f u v else 0) + (if S u ∧ ¬ S v then f u v else 0)) = fun _ => 0 := by funext v; simp [hs]
      rw [this, sgN_zero]
  have h3 : sgN (fun u => sgN (fun v => if S u ∧ S v then f u v else 0) n) n = 0 := sgN_anti n fun u v => by
    by_cases h : S u ∧ S v
    · rw [if_pos h, if_pos ⟨h.2, h.1⟩]; exact hf.anti u v
    · rw [if_neg h, if_neg fun g => h ⟨g.2, g.1⟩]; rfl
  rw [h1, h2, sgN_add, h3]
  unfold cutF'
  omega
theorem val_le {n : Nat} {c : Nat → Nat → Int} {A B S : Nat → Prop} {f : Nat → Nat → Int} (hf : IsFlow n c A B f) (hS : Parts n A B S) : valF n A f ≤ cutF' n S c := by
  classical
  rw [val_cut hf hS]
  refine sgN_le n fun u hu => sgN_le n fun v hv => ?_
  by_cases h : S u ∧ ¬ S v
  · rw [if_pos h, if_pos h]; exact hf.cap u v hu hv
  · rw [if_neg h, if_neg h]; exact Int.le_refl _
/-- All that is reached from A with what is free. -/
structure IsNear (n : Nat) (c : Nat → Nat → Int) (A B : Nat → Prop) (f : Nat → Nat → Int) (R : Nat → Prop) : Prop where
  parts : Parts n A B R
  shut : ∀ u v, u < n → v < n → R u → f u v < c u v → R v
  least : ∀ S : Nat → Prop, (∀ u, u < n → A u → S u) → (∀ u v, u < n → v < n → S u → f u v < c u v → S v) → ∀ u, u < n → R u → S u
theorem near_val {n : Nat} {c : Nat → Nat → Int} {A B : Nat → Prop} {f g : Nat → Nat → Int} {R : Nat → Prop} (hf : IsFlow n c A B f) (hg : IsFlow n c A B g) (hR : IsNear n c A B f R) : valF n A g ≤ valF n A f := by
  classical
  refine Int.le_trans (val_le hg hR.parts) ?_
  rw [val_cut hf hR.parts]
  refine sgN_le n fun u hu => sgN_le n fun v hv => ?_
  by_cases h : R u ∧ ¬ R v
  · rw [if_pos h, if_pos h]
    refine Int.not_lt.1 fun hlt => h.2 (hR.shut u v hu hv h.1 hlt)
  · rw [if_neg h, if_neg h]; exact Int.le_refl _
theorem near_sub {n : Nat} {c : Nat → Nat → Int} {A B : Nat → Prop} {f g : Nat → Nat → Int} {R Q : Nat → Prop} (hf : IsFlow n c A B f) (hg : IsFlow n c A B g) (hR : IsNear n c A B f R) (hQ : IsNear n c A B g Q) : ∀ u, u < n → Q u → R u := by
  classical
  have e1 := near_val hf hg hR
  have e2 := near_val hg hf hQ
  have e3 := val_cut hf hR.parts
  have e4 := val_cut hg hR.parts
  have hle : ∀ u v, u < n → v < n → (if R u ∧ ¬ R v then g u v else 0) ≤ (if R u ∧ ¬ R v then f u v else 0) := fun u v hu hv => by
    by_cases h : R u ∧ ¬ R v
    · rw [if_pos h, if_pos h]
      have h1 := hg.cap u v hu hv
      have h2 : ¬ f u v < c u v := fun hlt => h.2 (hR.shut u v hu hv h.1 hlt)
      omega
    · rw [if_neg h, if_neg h]; exact Int.le_refl _
  have hrow := sgN_eq_of_le n (fun u hu => sgN_le n fun v hv => hle u v hu hv) (show cutF' n R g = cutF' n R f by omega)
  refine hQ.least R (fun u hu => (hR.parts u hu).1) fun u v hu hv hRu hlt => ?_
  apply Classical.byContradiction
  intro hRv
  have h1 := sgN_eq_of_le n (fun v hv => hle u v hu hv) (hrow u hu) v hv
  rw [if_pos ⟨hRu, hRv⟩, if_pos ⟨hRu, hRv⟩] at h1
  have h2 := hf.cap u v hu hv
  exact hRv (hR.shut u v hu hv hRu (by omega))
/-- The cells near the source are the same, whatever flow is the largest. -/
theorem near_same {n : Nat} {c : Nat → Nat → Int} {A B : Nat → Prop} {f g : Nat → Nat → Int} {R Q : Nat → Prop} (hf : IsFlow n c A B f) (hg : IsFlow n c A B g) (hR : IsNear n c A B f R) (hQ : IsNear n c A B g Q) : ∀ u, u < n → (Q u ↔ R u) :=
  fun u hu => ⟨near_sub hf hg hR hQ u hu, near_sub hg hf hQ hR u hu⟩
end Go.Proofs.Ytjbgjgkogmlpfaa.Fl
