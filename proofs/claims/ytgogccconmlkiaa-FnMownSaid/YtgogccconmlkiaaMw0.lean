/- Days of hay: none is better than the best one, no two than the best two. -/
import Derived.Test.YtgogccconmlkiaaFc
import Derived.Test.YtgogccconmlkiaaTwo
namespace Go.Proofs.Ytgogccconmlkiaa
open Go Go.Eng
set_option linter.unusedSimpArgs false
set_option linter.unusedVariables false
set_option maxRecDepth 100000
set_option maxHeartbeats 4000000

theorem bestK_max (f : Nat → Int) : ∀ d j, j ≤ d → f j ≤ (bestK f d).2 := by
  intro d
  induction d with
  | zero => intro j hj; rw [Nat.le_zero.1 hj]; exact Int.le_refl _
  | succ d ih =>
    intro j hj
    unfold bestK
    by_cases h : j ≤ d
    · have := ih j h
      split
      · show f j ≤ f (d + 1); omega
      · exact this
    · obtain rfl : j = d + 1 := by omega
      split
      · exact Int.le_refl _
      · rename_i h2; show f (d + 1) ≤ _; omega

/-- What has been found among some pairs of days is the first of the best. -/
def TInv (st : Option (Int × Int × Int)) (S : Int → Int → Prop) (V : Int → Int → Int) : Prop :=
  (st = .none → ∀ u v, ¬ S u v) ∧ ∀ q, st = some q → S q.1 q.2.1 ∧ V q.1 q.2.1 = q.2.2 ∧ ∀ u v, S u v → V u v ≤ q.2.2 ∧ ((u < q.1 ∨ (u = q.1 ∧ v < q.2.1)) → V u v < q.2.2)
theorem TInv.congr {st : Option (Int × Int × Int)} {S S' : Int → Int → Prop} {V : Int → Int → Int} (h : TInv st S V) (hS : ∀ u v, S u v ↔ S' u v) : TInv st S' V := by
  refine ⟨fun e u v hs => h.1 e u v ((hS u v).2 hs), fun q e => ?_⟩
  obtain ⟨h1, h2, h3⟩ := h.2 q e
  exact ⟨(hS _ _).1 h1, h2, fun u v hs => h3 u v ((hS u v).2 hs)⟩
theorem TInv.upd {st : Option (Int × Int × Int)} {S : Int → Int → Prop} {V : Int → Int → Int} (h : TInv st S V) {a b : Int} (hlast : ∀ u v, S u v → u < a ∨ (u = a ∧ v < b)) : TInv (updT st a b (V a b)) (fun u v => S u v ∨ (u = a ∧ v = b)) V := by
  cases st with
  | none =>
    refine ⟨fun e => (by cases e), fun q e => ?_⟩
    cases e
    refine ⟨.inr ⟨rfl, rfl⟩, rfl, fun u v hs => ?_⟩
    rcases hs with hs | ⟨rfl, rfl⟩
    · exact absurd hs (h.1 rfl u v)
    · exact ⟨Int.le_refl _, fun hh => by dsimp only at hh; omega⟩
  | some q =>
    obtain ⟨h1, h2, h3⟩ := h.2 q rfl
    unfold updT
    dsimp only
    split
    · rename_i hlt
      refine ⟨fun e => (by cases e), fun r e => ?_⟩
      cases e
      refine ⟨.inr ⟨rfl, rfl⟩, rfl, fun u v hs => ?_⟩
      rcases hs with hs | ⟨rfl, rfl⟩
      · have := (h3 u v hs).1
        exact ⟨by show V u v ≤ V a b; omega, fun _ => by show V u v < V a b; omega⟩
      · exact ⟨Int.le_refl _, fun hh => by dsimp only at hh; omega⟩
    · rename_i hlt
      refine ⟨fun e => (by cases e), fun r e => ?_⟩
      cases e
      refine ⟨.inl h1, h2, fun u v hs => ?_⟩
      rcases hs with hs | ⟨rfl, rfl⟩
      · exact h3 u v hs
      · have := hlast _ _ h1
        exact ⟨by omega, fun hh => by omega⟩

/-- The hay of two days. -/
def twoV (p g : List Int) (Y : List (List Int)) (l : Int) (u v : Int) : Int := hayAt p g Y l u.toNat + hayAt (mownP p g Y l u.toNat) g Y l (v - u).toNat
def twoS (d : Nat) (a k : Nat) (u v : Int) : Prop := 0 ≤ u ∧ u < v ∧ v ≤ d ∧ (u < a ∨ (u = a ∧ v ≤ a + k))
theorem twI_inv {p g : List Int} {Y : List (List Int)} {l : Int} {d a : Nat} (ha : a < d) {st : Option (Int × Int × Int)} (h : TInv st (twoS d a 0) (twoV p g Y l)) : ∀ k, k ≤ d - a → TInv (twI p g Y l st a k) (twoS d a k) (twoV p g Y l) := by
  intro k
  induction k with
  | zero => intro _; exact h
  | succ k ih =>
    intro hk
    have h1 := ih (by omega)
    have hv : hayAt p g Y l a + hayAt (mownP p g Y l a) g Y l (k + 1) = twoV p g Y l a ((a : Int) + 1 + k) := by
      unfold twoV
      rw [Int.toNat_natCast, show (((a : Int) + 1 + k) - a).toNat = k + 1 from by omega]
    unfold twI
    rw [hv]
    refine (h1.upd fun u v hs => ?_).congr fun u v => ?_
    · unfold twoS at hs; omega
    · unfold twoS
      constructor
      · rintro (h | ⟨rfl, rfl⟩)
        · omega
        · omega
      · intro h
        by_cases e : u = a ∧ v = (a : Int) + 1 + k
        · exact .inr e
        · left; omega
theorem twO_inv {p g : List Int} {Y : List (List Int)} {l : Int} {d : Nat} : ∀ a, a ≤ d → TInv (twO p g Y l d a) (twoS d a 0) (twoV p g Y l) := by
  intro a
  induction a with
  | zero =>
    intro _
    refine ⟨fun _ u v hs => ?_, fun q e => (by cases e)⟩
    unfold twoS at hs; omega
  | succ a ih =>
    intro ha
    have := twI_inv (by omega) (ih (by omega)) (d - a) (Nat.le_refl _)
    unfold twO
    refine this.congr fun u v => ?_
    unfold twoS
    constructor <;> intro h <;> omega
/-- The best two: first of all, and none better. -/
theorem two_best {p g : List Int} {Y : List (List Int)} {l : Int} {d : Nat} (hd : 0 < d) {q : Int × Int × Int} (h : twO p g Y l d d = some q) :
    0 ≤ q.1 ∧ q.1 < q.2.1 ∧ q.2.1 ≤ d ∧ twoV p g Y l q.1 q.2.1 = q.2.2 ∧ ∀ u v : Int, 0 ≤ u → u < v → v ≤ d → twoV p g Y l u v ≤ q.2.2 ∧ ((u < q.1 ∨ (u = q.1 ∧ v < q.2.1)) → twoV p g Y l u v < q.2.2) := by
  obtain ⟨h1, h2, h3⟩ := (twO_inv (p := p) (g := g) (Y := Y) (l := l) d (Nat.le_refl d)).2 q h
  unfold twoS at h1 h3
  exact ⟨h1.1, h1.2.1, h1.2.2.1, h2, fun u v a b c => h3 u v ⟨a, b, c, by omega⟩⟩
end Go.Proofs.Ytgogccconmlkiaa
