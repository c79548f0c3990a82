/- Flows in a pasture: its sides are what a flow runs over. -/
import Derived.Test.YtjbgjgkogmlpfaaGreatAug2
import Derived.Test.YtjbgjgkogmlpfaaGreatHas
namespace Go.Proofs.YtjbgjgkogmlpfaaGreat
open Go Go.Eng
set_option linter.unusedSimpArgs false
set_option linter.unusedVariables false
open Go.Proofs.YtjbgjgkogmlpfaaGreat.Fl (cl isC GoOk)
set_option maxRecDepth 100000
set_option maxHeartbeats 4000000

def goQ (p s : List Int) (d : Int) : Bool := isP p s && canGo p s d
def nbQ (p s : List Int) : List (List Int) := if isP p s = true then besN p s 4 else []
theorem isC_of {p s : List Int} (hd : okD p) (h : isP p s = true) (hl : s.length = 2) : isC s := by
  obtain ⟨a, b, rfl⟩ := len2 hl
  obtain ⟨h1, h2, h3, h4⟩ := hd
  unfold isP at h
  rw [decide_eq_true_eq] at h
  simp only [List.getD_cons_zero, List.getD_cons_succ] at h h1 h2 h3 h4
  refine ⟨b.toNat * 10 + a.toNat, by omega, ?_⟩
  show [a, b] = [(((b.toNat * 10 + a.toNat) % 10 : Nat) : Int), (((b.toNat * 10 + a.toNat) / 10 : Nat) : Int)]
  have e1 : (((b.toNat * 10 + a.toNat) % 10 : Nat) : Int) = a := by omega
  have e2 : (((b.toNat * 10 + a.toNat) / 10 : Nat) : Int) = b := by omega
  rw [e1, e2]
theorem besN_iff {p s t : List Int} : ∀ d : Nat, t ∈ besN p s d ↔ ∃ e : Nat, e < d ∧ canGo p s (e : Int) = true ∧ t = ahead s (e : Int) := by
  intro d
  induction d with
  | zero => exact ⟨fun h => (by cases h), fun ⟨e, h, _⟩ => absurd h (Nat.not_lt_zero _)⟩
  | succ d ih =>
    unfold besN
    split
    · rename_i hc
      rw [List.mem_append, List.mem_singleton, ih]
      constructor
      · rintro (⟨e, h1, h2, h3⟩ | h)
        · exact ⟨e, by omega, h2, h3⟩
        · exact ⟨d, by omega, hc, h⟩
      · rintro ⟨e, h1, h2, h3⟩
        by_cases he : e = d
        · subst he; exact .inr h3
        · exact .inl ⟨e, by omega, h2, h3⟩
    · rename_i hc
      rw [ih]
      constructor
      · rintro ⟨e, h1, h2, h3⟩
        exact ⟨e, by omega, h2, h3⟩
      · rintro ⟨e, h1, h2, h3⟩
        by_cases he : e = d
        · subst he; exact absurd h2 hc
        · exact ⟨e, by omega, h2, h3⟩
theorem nbQ_iff {p s t : List Int} : t ∈ nbQ p s ↔ ∃ d : Int, 0 ≤ d ∧ d < 4 ∧ goQ p s d = true ∧ t = ahead s d := by
  unfold nbQ goQ
  by_cases h : isP p s = true
  · rw [if_pos h, besN_iff, h]
    constructor
    · rintro ⟨e, h1, h2, h3⟩
      exact ⟨e, by omega, by omega, by rw [h2]; rfl, h3⟩
    · rintro ⟨d, h0, h4, h2, h3⟩
      refine ⟨d.toNat, by omega, ?_, ?_⟩
      · rw [Int.toNat_of_nonneg h0]; simpa using h2
      · rw [Int.toNat_of_nonneg h0]; exact h3
  · rw [if_neg h]
    have : isP p s = false := by cases hh : isP p s with | true => exact absurd hh h | false => rfl
    rw [this]
    exact ⟨fun g => (by cases g), fun ⟨d, _, _, g, _⟩ => (by cases g)⟩
theorem goQ_back {p s : List Int} (hl : s.length = 2) {d : Int} (h0 : 0 ≤ d) (h4 : d < 4) (h : goQ p s d = true) : goQ p (ahead s d) ((d + 2) % 4) = true ∧ ahead (ahead s d) ((d + 2) % 4) = s := by
  obtain ⟨a, b, rfl⟩ := len2 hl
  unfold goQ at h ⊢
  rw [Bool.and_eq_true] at h
  obtain ⟨hm, h⟩ := h
  have hp : isP p (ahead [a, b] d) = true := by unfold canGo at h; rw [Bool.and_eq_true] at h; exact h.1
  have key : ahead (ahead [a, b] d) ((d + 2) % 4) = [a, b] → hurdleAt (ahead [a, b] d) ((d + 2) % 4) = hurdleAt [a, b] d → (isP p (ahead [a, b] d) && canGo p (ahead [a, b] d) ((d + 2) % 4)) = true ∧ ahead (ahead [a, b] d) ((d + 2) % 4) = [a, b] := fun h2 h3 => by
    refine ⟨?_, h2⟩
    unfold canGo at h ⊢
    rw [Bool.and_eq_true] at h
    rw [h2, h3, hm, h.2, hp]; rfl
  have hcase : d = 0 ∨ d = 1 ∨ d = 2 ∨ d = 3 := by omega
  rcases hcase with rfl | rfl | rfl | rfl
  · refine key ?_ ?_ <;> simp [ahead, hurdleAt]
  · refine key ?_ ?_ <;> simp [ahead, hurdleAt]
  · refine key ?_ ?_ <;> simp [ahead, hurdleAt]
  · refine key ?_ ?_ <;> simp [ahead, hurdleAt]
theorem goQ_isP {p s : List Int} {d : Int} (h : goQ p s d = true) : isP p (ahead s d) = true := by
  unfold goQ canGo at h
  rw [Bool.and_eq_true, Bool.and_eq_true] at h
  exact h.2.1
theorem goQ_ok {p : List Int} (hd : okD p) : GoOk (nbQ p) (goQ p) where
  step := fun s _ d _ _ h => isC_of hd (goQ_isP h) (ahead_len s d)
  back := fun s hs d h0 h4 h => goQ_back (Fl.isC_len hs) h0 h4 h
  nb := fun s _ t => nbQ_iff
theorem nbQ_ok {p : List Int} (hd : okD p) : ∀ a, isC a → ∀ t, t ∈ nbQ p a → isC t ∧ t ≠ a := fun a ha t ht => by
  obtain ⟨d, h0, h4, h1, rfl⟩ := nbQ_iff.1 ht
  refine ⟨isC_of hd (goQ_isP h1) (ahead_len a d), fun e => ?_⟩
  obtain ⟨x, y, rfl⟩ := len2 (Fl.isC_len ha)
  have hcase : d = 0 ∨ d = 1 ∨ d = 2 ∨ d = 3 := by omega
  rcases hcase with rfl | rfl | rfl | rfl <;> simp [ahead] at e <;> omega
theorem nbQ_sym {p : List Int} : ∀ a b, isC a → isC b → b ∈ nbQ p a → a ∈ nbQ p b := fun a b ha hb h => by
  obtain ⟨d, h0, h4, h1, rfl⟩ := nbQ_iff.1 h
  obtain ⟨g1, g2⟩ := goQ_back (Fl.isC_len ha) h0 h4 h1
  exact nbQ_iff.2 ⟨(d + 2) % 4, by omega, by omega, g1, g2.symm⟩
theorem nbQ_of {p s : List Int} (h : isP p s = true) : nbQ p s = besN p s 4 := if_pos h
/-- The cells near the source. -/
noncomputable def nearQ (p : List Int) (A G : List (List Int)) (s : List Int) : Bool := Fl.nearB (nbQ p) A G s
end Go.Proofs.YtjbgjgkogmlpfaaGreat
