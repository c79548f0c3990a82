/- Growths: what is told of the functions that look at one. -/
import Derived.Test.YtjbgjgkogmlpfaaGreatConv
namespace Go.Proofs.YtjbgjgkogmlpfaaGreat
open Go Go.Eng
set_option linter.unusedSimpArgs false
set_option linter.unusedVariables false
set_option maxRecDepth 100000

theorem cell_ok {σ : Sg} {xs : List Int} (h : ∀ (j : Nat) (x : Int), xs[j]? = some x → (σ.flat.getD (j % σ.n) .bool).ok x) {j : Nat} (hj : j < xs.length) : (σ.flat.getD (j % σ.n) .bool).ok (xs.getD j 0) :=
  h j _ (by rw [List.getD_eq_getElem?_getD, List.getElem?_eq_getElem hj]; rfl)

theorem agg_ok {σ : Sg} {xs : List Int} (hp : σ.pure = true) (hl : xs.length = σ.n) (h : cellsOk σ.flat xs) (j : Nat) (x : Int) (hx : xs[j]? = some x) : (σ.flat.getD (j % σ.n) .bool).ok x := by
  have hj := (List.getElem?_eq_some_iff.1 hx).1
  rw [Nat.mod_eq_of_lt (by omega)]
  refine cellsOk_get σ.flat xs j x _ h hx ?_
  rw [List.getD_eq_getElem?_getD, List.getElem?_eq_getElem (by rw [Sg.flat_len σ hp]; omega)]; rfl

/-! ## Between two numbers -/
def inS : Fun
  | [.i .i64 n, .i .i64 a, .i .i64 b], [] => some (.b (decide (a ≤ n ∧ n ≤ b)), [], [])
  | _, _ => .none

theorem s_l00In : Sound Tryz.prog 90 inS := by
  intro args M r M' vs h hvs
  unfold inS at h
  split at h
  · rename_i n a b
    cases h
    refine SpecOK.of_goes [] Tryz.func90 rfl ?_
    by_cases h1 : a ≤ n
    · refine Goes.run Γ_ok TbOk.nil 100 false [true] rfl ⟨decide_eq_true h1, trivial⟩ ?_
      refine Goes.ret Γ_ok Tryz.func90 rfl rfl ?_
      refine ⟨rfl, Nat.le_refl _, rfl, rfl, ?_, trivial, rfl, rfl⟩
      show decide _ = decide _
      simp [h1]
    · refine Goes.run Γ_ok TbOk.nil 100 false [false] rfl ⟨decide_eq_false h1, trivial⟩ ?_
      refine Goes.ret Γ_ok Tryz.func90 rfl rfl ?_
      refine ⟨rfl, Nat.le_refl _, rfl, rfl, ?_, trivial, rfl, rfl⟩
      show decide _ = false
      simp [h1]
  · cases h

theorem s_within : Sound Tryz.prog 73 inS := by
  intro args M r M' vs h hvs
  unfold inS at h
  split at h
  · rename_i n a b
    cases h
    refine SpecOK.of_goes [] Tryz.func73 rfl ?_
    by_cases h1 : a ≤ n
    · refine Goes.run Γ_ok TbOk.nil 100 false [true] rfl ⟨decide_eq_true h1, trivial⟩ ?_
      refine Goes.ret Γ_ok Tryz.func73 rfl rfl ?_
      refine ⟨rfl, Nat.le_refl _, rfl, rfl, ?_, trivial, rfl, rfl⟩
      show decide _ = decide _
      simp [h1]
    · refine Goes.run Γ_ok TbOk.nil 100 false [false] rfl ⟨decide_eq_false h1, trivial⟩ ?_
      refine Goes.ret Γ_ok Tryz.func73 rfl rfl ?_
      refine ⟨rfl, Nat.le_refl _, rfl, rfl, ?_, trivial, rfl, rfl⟩
      show decide _ = false
      simp [h1]
  · cases h

def grassS : Fun
  | [.i .i64 n], [] => some (.b (decide (0 ≤ n ∧ n ≤ 1000)), [], [])
  | _, _ => .none

theorem s_l01Grass : Sound Tryz.prog 91 grassS := by
  intro args M r M' vs h hvs
  unfold grassS at h
  split at h
  · rename_i n
    cases h
    have htb := TbOk.cons s_l00In Tryz.func90 rfl rfl TbOk.nil
    refine SpecOK.of_goes [] Tryz.func91 rfl ?_
    refine Goes.run Γ_ok htb 100 false [] rfl trivial ?_
    refine Goes.ret Γ_ok Tryz.func91 rfl rfl ?_
    exact ⟨rfl, Nat.le_refl _, rfl, rfl, rfl, trivial, rfl, rfl⟩
  · cases h

/-! ## A growth -/
def okG (xs : List Int) : Prop := (∀ j, j < 11 → 0 ≤ xs.getD j 0 ∧ xs.getD j 0 ≤ 100) ∧ 0 ≤ xs.getD 11 0 ∧ xs.getD 11 0 ≤ 1000

instance (xs : List Int) : Decidable (okG xs) := by unfold okG; infer_instance

theorem gro_tab {xs : List Int} (h : ∀ (j : Nat) (x : Int), xs[j]? = some x → (Sg.gro.flat.getD (j % Sg.gro.n) .bool).ok x) (hl : xs.length = 12) {j : Nat} (hj : j < 11) : -128 ≤ xs.getD j 0 ∧ xs.getD j 0 ≤ 127 := by
  have := cell_ok h (j := j) (by omega)
  have e : ∀ j, j < 11 → Sg.gro.flat.getD (j % Sg.gro.n) .bool = .int .i8 := by decide
  rw [e j hj] at this
  exact this

theorem gro_lim {xs : List Int} (h : ∀ (j : Nat) (x : Int), xs[j]? = some x → (Sg.gro.flat.getD (j % Sg.gro.n) .bool).ok x) (hl : xs.length = 12) : -32768 ≤ xs.getD 11 0 ∧ xs.getD 11 0 ≤ 32767 := cell_ok h (j := 11) (by omega)

def okGS : Fun
  | [.pw 0 .gro], [.c .gro xs] => some (.b (decide (okG xs)), [.c .gro xs], [])
  | _, _ => .none


def okGV : Fun
  | [.ag .gro xs], [] => some (.b (decide (okG xs)), [], [])
  | _, _ => .none


/-- The first place from i on, of n, that has what is asked; or -1. -/
def firstFrom (p : Nat → Bool) : Nat → Nat → Int
  | 0, _ => -1
  | n + 1, i => if p i then (i : Int) else firstFrom p n (i + 1)

theorem firstFrom_nonneg (p : Nat → Bool) : ∀ (n i : Nat), 0 ≤ firstFrom p n i ↔ ∃ j, i ≤ j ∧ j < i + n ∧ p j = true
  | 0, i => ⟨fun h => by simp [firstFrom] at h, fun ⟨j, h1, h2, _⟩ => by omega⟩
  | n + 1, i => by
    unfold firstFrom
    by_cases hp : p i = true
    · rw [if_pos hp]
      exact ⟨fun _ => ⟨i, Nat.le_refl _, by omega, hp⟩, fun _ => by omega⟩
    · rw [if_neg hp, firstFrom_nonneg p n (i + 1)]
      constructor
      · rintro ⟨j, h1, h2, h3⟩; exact ⟨j, by omega, by omega, h3⟩
      · rintro ⟨j, h1, h2, h3⟩
        by_cases hj : j = i
        · subst hj; exact absurd h3 hp
        · exact ⟨j, by omega, by omega, h3⟩

def notPct : Fun
  | [.i .i8 n], [] => some (.b (!decide (0 ≤ n ∧ n ≤ 100)), [], [])
  | _, _ => .none






theorem noPct (xs : List Int) : (0 ≤ firstFrom (fun j => !decide (0 ≤ xs.getD j 0 ∧ xs.getD j 0 ≤ 100)) 11 0) ↔ ¬ ∀ j, j < 11 → 0 ≤ xs.getD j 0 ∧ xs.getD j 0 ≤ 100 := by
  rw [firstFrom_nonneg]
  constructor
  · rintro ⟨j, -, h2, h3⟩ h
    simp only [Bool.not_eq_true', decide_eq_false_iff_not] at h3
    exact h3 (h j (by omega))
  · intro h
    apply Classical.byContradiction
    intro hn
    apply h
    intro j hj
    apply Classical.byContradiction
    intro hc
    exact hn ⟨j, by omega, by omega, by simp only [Bool.not_eq_true', decide_eq_false_iff_not]; exact hc⟩

def okGVi : Fun
  | [.ag .gro xs], [] => some (.b (decide (okG xs)), [], [])
  | _, _ => .none


end Go.Proofs.YtjbgjgkogmlpfaaGreat
