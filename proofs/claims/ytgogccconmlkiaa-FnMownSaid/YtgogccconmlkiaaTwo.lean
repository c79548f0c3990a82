/- The best two mowings: the plain law. -/
import Derived.Test.YtgogccconmlkiaaMax
namespace Go.Proofs.Ytgogccconmlkiaa
open Go Go.Eng
set_option linter.unusedSimpArgs false
set_option linter.unusedVariables false
set_option maxRecDepth 100000
set_option maxHeartbeats 4000000

/-- What has been found: two days and their hay. -/
def updT (st : Option (Int × Int × Int)) (a b v : Int) : Option (Int × Int × Int) :=
  match st with
  | .none => some (a, b, v)
  | some q => if q.2.2 < v then some (a, b, v) else some q
def spA : Option (Int × Int × Int) → Int | .none => -1 | some q => q.1
def spB : Option (Int × Int × Int) → Int | .none => -1 | some q => q.2.1
def spM : Option (Int × Int × Int) → Int | .none => 0 | some q => q.2.2
def imA : Option (Int × Int × Int) → Int | .none => 0 | some q => q.1
def imB : Option (Int × Int × Int) → Int | .none => 0 | some q => q.2.1
def imM : Option (Int × Int × Int) → Int | .none => -1 | some q => q.2.2

def okT (st : Option (Int × Int × Int)) : Prop := ∀ q, st = some q → 0 ≤ q.1 ∧ 0 ≤ q.2.2
theorem okT_upd {st : Option (Int × Int × Int)} {a b v : Int} (h : okT st) (ha : 0 ≤ a) (hv : 0 ≤ v) : okT (updT st a b v) ∧ (updT st a b v).isSome = true := by
  cases st with
  | none => exact ⟨fun q e => by cases e; exact ⟨ha, hv⟩, rfl⟩
  | some q =>
    unfold updT
    dsimp only
    split
    · exact ⟨fun q e => by cases e; exact ⟨ha, hv⟩, rfl⟩
    · exact ⟨h, rfl⟩
theorem updT_sp {st : Option (Int × Int × Int)} {a b v : Int} (h : okT st) : (spA st < 0 → updT st a b v = some (a, b, v)) ∧ (spM st < v → ¬ spA st < 0 → updT st a b v = some (a, b, v)) ∧ (¬ spA st < 0 → ¬ spM st < v → updT st a b v = st) := by
  cases st with
  | none => exact ⟨fun _ => rfl, fun _ _ => rfl, fun h => absurd (show (-1 : Int) < 0 by decide) h⟩
  | some q =>
    have := h q rfl
    exact ⟨fun h1 => absurd h1 (by simp only [spA]; omega), fun h1 _ => if_pos h1, fun _ h1 => if_neg h1⟩
theorem updT_im {st : Option (Int × Int × Int)} {a b v : Int} (hv : 0 ≤ v) : (imM st < v → updT st a b v = some (a, b, v)) ∧ (¬ imM st < v → updT st a b v = st) := by
  cases st with
  | none => exact ⟨fun _ => rfl, fun h => absurd (show (-1 : Int) < v by omega) h⟩
  | some q => exact ⟨fun h1 => if_pos h1, fun h1 => if_neg h1⟩

/-- The pasture mown behind a days. -/
def mownP (p g : List Int) (Y : List (List Int)) (l : Int) (a : Nat) : List Int := (mowK (growN g p a) Y l Y.length).1
/-- The first k second days behind day a. -/
def twI (p g : List Int) (Y : List (List Int)) (l : Int) (st : Option (Int × Int × Int)) (a : Nat) : Nat → Option (Int × Int × Int)
  | 0 => st
  | k + 1 => updT (twI p g Y l st a k) a ((a : Int) + 1 + k) (hayAt p g Y l a + hayAt (mownP p g Y l a) g Y l (k + 1))
def twO (p g : List Int) (Y : List (List Int)) (l : Int) (d : Nat) : Nat → Option (Int × Int × Int)
  | 0 => .none
  | a + 1 => twI p g Y l (twO p g Y l d a) a (d - a)

theorem mown_ok {p g : List Int} {Y : List (List Int)} {d l : Int} (h : hayOk p g Y d l) (a : Nat) : GR (mownP p g Y l a) ∧ okD (mownP p g Y l a) := by
  obtain ⟨a1, a2, a3, a4, a5, a6, a7, a8, a9⟩ := h
  have hN := growN_ok a3 a1 a2 a
  obtain ⟨m1, -, -, m4⟩ := mowK_ok hN.1 (fun s hs => (a4 s hs).1) a8 a9 Y.length (Nat.le_refl _)
  refine ⟨m1, ?_⟩
  have := hN.2
  unfold okD at *
  unfold mownP
  rw [m4 0 (by omega), m4 1 (by omega)]
  exact this
theorem two_rng {p g : List Int} {Y : List (List Int)} {d l : Int} (h : hayOk p g Y d l) (a k : Nat) : (0 ≤ hayAt p g Y l a ∧ hayAt p g Y l a ≤ 100000) ∧ 0 ≤ hayAt (mownP p g Y l a) g Y l k ∧ hayAt (mownP p g Y l a) g Y l k ≤ 100000 := by
  obtain ⟨m1, m2⟩ := mown_ok h a
  obtain ⟨a1, a2, a3, a4, a5, a6, a7, a8, a9⟩ := h
  exact ⟨hayAt_rng a1 a2 a3 a4 a5 a8 a9 a, hayAt_rng m1 m2 a3 a4 a5 a8 a9 k⟩
theorem twI_ok {p g : List Int} {Y : List (List Int)} {d l : Int} (h : hayOk p g Y d l) {st : Option (Int × Int × Int)} (hs : okT st) (a : Nat) : ∀ k, okT (twI p g Y l st a k) ∧ (0 < k → (twI p g Y l st a k).isSome = true) := by
  intro k
  induction k with
  | zero => exact ⟨hs, fun h => by omega⟩
  | succ k ih =>
    have hr := two_rng h a (k + 1)
    have := okT_upd (a := (a:Int)) (b := (a:Int) + 1 + k) ih.1 (by omega) (by omega : 0 ≤ hayAt p g Y l a + hayAt (mownP p g Y l a) g Y l (k + 1))
    exact ⟨this.1, fun _ => this.2⟩
theorem twI_some {p g : List Int} {Y : List (List Int)} {l : Int} {st : Option (Int × Int × Int)} (a : Nat) (h : st.isSome = true) : ∀ k, (twI p g Y l st a k).isSome = true := by
  intro k
  induction k with
  | zero => exact h
  | succ k ih =>
    unfold twI updT
    cases twI p g Y l st a k with
    | none => rfl
    | some q => dsimp only; split <;> rfl
theorem twO_ok {p g : List Int} {Y : List (List Int)} {dd l : Int} (h : hayOk p g Y dd l) (d : Nat) : ∀ a, a ≤ d → okT (twO p g Y l d a) ∧ (0 < a → (twO p g Y l d a).isSome = true) := by
  intro a
  induction a with
  | zero => intro _; exact ⟨fun q (e : (Option.none : Option (Int × Int × Int)) = some q) => (nomatch e), fun h => absurd h (Nat.lt_irrefl 0)⟩
  | succ a ih =>
    intro ha
    have := ih (by omega)
    unfold twO
    refine ⟨(twI_ok h this.1 a _).1, fun _ => ?_⟩
    by_cases h0 : 0 < a
    · exact twI_some a (this.2 h0) _
    · exact (twI_ok h this.1 a _).2 (by omega)
theorem two_same {st : Option (Int × Int × Int)} (h : st.isSome = true) : spA st = imA st ∧ spB st = imB st ∧ spM st = imM st := by
  cases st with
  | none => cases h
  | some q => exact ⟨rfl, rfl, rfl⟩

def twC (p g s : List Int) (d l : Int) : Int := if hayC p g s d l = 0 then (if 60 < d then 3 else if d = 0 then 6 else 0) else hayC p g s d l
theorem twC_ok {p g s : List Int} {d l : Int} (h : twC p g s d l = 0) : hayC p g s d l = 0 ∧ d ≤ 60 ∧ d ≠ 0 := by
  unfold twC at h
  split at h
  · split at h
    · cases h
    · split at h
      · cases h
      · exact ⟨by assumption, by omega, by assumption⟩
  · contradiction
end Go.Proofs.Ytgogccconmlkiaa
