/- Growths: what is told of the functions that look at one. -/
import Derived.Test.YtplnfdgokpgbcaaDoorConv
namespace Go.Proofs.YtplnfdgokpgbcaaDoor
open Go Go.Eng
set_option linter.unusedSimpArgs false
set_option linter.unusedVariables false
set_option maxRecDepth 100000

theorem cell_ok {σ : Sg} {xs : List Int} (h : ∀ (j : Nat) (x : Int), xs[j]? = some x → (σ.flat.getD (j % σ.n) .bool).ok x) {j : Nat} (hj : j < xs.length) : (σ.flat.getD (j % σ.n) .bool).ok (xs.getD j 0) :=
  h j _ (by rw [List.getD_eq_getElem?_getD, List.getElem?_eq_getElem hj]; rfl)

theorem agg_ok {σ : Sg} {xs : List Int} (hp : σ.pure = true) (hl : xs.length = σ.n) (h : cellsOk σ.flat xs) (j : Nat) (x : Int) (hx : xs[j]? = some x) : (σ.flat.getD (j % σ.n) .bool).ok x := by
  have hj := (List.getElem?_eq_some_iff.1 hx).1
  rw [Nat.mod_eq_of_lt (by omega)]
  refine cellsOk_get σ.flat xs j x _ h hx ?_
  rw [List.getD_eq_getElem?_getD, List.getElem?_eq_getElem (by rw [Sg.flat_len σ hp]; omega)]; rfl

/-! ## Between two numbers -/
def inS : Fun
  | [.i .i64 n, .i .i64 a, .i .i64 b], [] => some (.b (decide (a ≤ n ∧ n ≤ b)), [], [])
  | _, _ => .none

theorem s_l00In : Sound Tryd.prog 74 inS := by
  intro args M r M' vs h hvs
  unfold inS at h
  split at h
  · rename_i n a b
    cases h
    refine SpecOK.of_goes [] Tryd.func74 rfl ?_
    by_cases h1 : a ≤ n
    · refine Goes.run Γ_ok TbOk.nil 100 false [true] rfl ⟨decide_eq_true h1, trivial⟩ ?_
      refine Goes.ret Γ_ok Tryd.func74 rfl rfl ?_
      refine ⟨rfl, Nat.le_refl _, rfl, rfl, ?_, trivial, rfl, rfl⟩
      show decide _ = decide _
      simp [h1]
    · refine Goes.run Γ_ok TbOk.nil 100 false [false] rfl ⟨decide_eq_false h1, trivial⟩ ?_
      refine Goes.ret Γ_ok Tryd.func74 rfl rfl ?_
      refine ⟨rfl, Nat.le_refl _, rfl, rfl, ?_, trivial, rfl, rfl⟩
      show decide _ = false
      simp [h1]
  · cases h

theorem s_within : Sound Tryd.prog 79 inS := by
  intro args M r M' vs h hvs
  unfold inS at h
  split at h
  · rename_i n a b
    cases h
    refine SpecOK.of_goes [] Tryd.func79 rfl ?_
    by_cases h1 : a ≤ n
    · refine Goes.run Γ_ok TbOk.nil 100 false [true] rfl ⟨decide_eq_true h1, trivial⟩ ?_
      refine Goes.ret Γ_ok Tryd.func79 rfl rfl ?_
      refine ⟨rfl, Nat.le_refl _, rfl, rfl, ?_, trivial, rfl, rfl⟩
      show decide _ = decide _
      simp [h1]
    · refine Goes.run Γ_ok TbOk.nil 100 false [false] rfl ⟨decide_eq_false h1, trivial⟩ ?_
      refine Goes.ret Γ_ok Tryd.func79 rfl rfl ?_
      refine ⟨rfl, Nat.le_refl _, rfl, rfl, ?_, trivial, rfl, rfl⟩
      show decide _ = false
      simp [h1]
  · cases h

def grassS : Fun
  | [.i .i64 n], [] => some (.b (decide (0 ≤ n ∧ n ≤ 1000)), [], [])
  | _, _ => .none

theorem s_l01Grass : Sound Tryd.prog 75 grassS := by
  intro args M r M' vs h hvs
  unfold grassS at h
  split at h
  · rename_i n
    cases h
    have htb := TbOk.cons s_l00In Tryd.func74 rfl rfl TbOk.nil
    refine SpecOK.of_goes [] Tryd.func75 rfl ?_
    refine Goes.run Γ_ok htb 100 false [] rfl trivial ?_
    refine Goes.ret Γ_ok Tryd.func75 rfl rfl ?_
    exact ⟨rfl, Nat.le_refl _, rfl, rfl, rfl, trivial, rfl, rfl⟩
  · cases h

/-! ## A growth -/
def okG (xs : List Int) : Prop := (∀ j, j < 11 → 0 ≤ xs.getD j 0 ∧ xs.getD j 0 ≤ 100) ∧ 0 ≤ xs.getD 11 0 ∧ xs.getD 11 0 ≤ 1000

instance (xs : List Int) : Decidable (okG xs) := by unfold okG; infer_instance

theorem gro_tab {xs : List Int} (h : ∀ (j : Nat) (x : Int), xs[j]? = some x → (Sg.gro.flat.getD (j % Sg.gro.n) .bool).ok x) (hl : xs.length = 12) {j : Nat} (hj : j < 11) : -128 ≤ xs.getD j 0 ∧ xs.getD j 0 ≤ 127 := by
  have := cell_ok h (j := j) (by omega)
  have e : ∀ j, j < 11 → Sg.gro.flat.getD (j % Sg.gro.n) .bool = .int .i8 := by decide
  rw [e j hj] at this
  exact this

theorem gro_lim {xs : List Int} (h : ∀ (j : Nat) (x : Int), xs[j]? = some x → (Sg.gro.flat.getD (j % Sg.gro.n) .bool).ok x) (hl : xs.length = 12) : -32768 ≤ xs.getD 11 0 ∧ xs.getD 11 0 ≤ 32767 := cell_ok h (j := 11) (by omega)

def okGS : Fun
  | [.pw 0 .gro], [.c .gro xs] => some (.b (decide (okG xs)), [.c .gro xs], [])
  | _, _ => .none

theorem s_l04Ok : Sound Tryd.prog 33 okGS := by
  intro args M r M' vs h hvs
  unfold okGS at h
  split at h
  · rename_i xs
    cases h
    refine SpecOK.assume fun hA hM => ?_
    have hl : xs.length = 12 := hA.1
    have hc := hM.1
    have htb := TbOk.cons s_l00In Tryd.func74 rfl rfl (TbOk.cons s_l01Grass Tryd.func75 rfl rfl TbOk.nil)
    refine SpecOK.of_goes [0] Tryd.func33 rfl ?_
    refine Goes.run Γ_ok htb 100 false [] rfl trivial ?_
    refine Goes.loop0 (fun i : Nat => 11 - i) (fun i => i ≤ 11 ∧ ∀ j, j < i → 0 ≤ xs.getD j 0 ∧ xs.getD j 0 ≤ 100) (fun i => frOf 23 [(0, .pw 0 .gro), (3, .i .i64 (i:Int))])
      (fun i => [.c .gro xs]) 0 ⟨by omega, fun j hj => by omega⟩ (by repeat' (first | exact trivial | rfl | apply And.intro)) (by repeat' (first | exact trivial | rfl | apply And.intro)) fun i ⟨hle, hlow⟩ ih => ?_
    by_cases hlt : i < 11
    · have ht := gro_tab hc hl hlt
      by_cases hin : 0 ≤ xs.getD i 0 ∧ xs.getD i 0 ≤ 100
      · refine Goes.run Γ_ok htb 100 false [true, false] rfl (by simp only [allP, decide_eq_true_eq, decide_eq_false_iff_not, Bool.not_eq_true', Bool.not_eq_false', and_true] <;> (try simp only [rng, lo, hi, Int.toNat_natCast, Sg.n, Nat.mul_one, Nat.zero_add, Nat.add_zero]) <;> omega) ?_
        refine ih (i+1) ⟨by omega, fun j hj => ?_⟩ (by omega) _ _ (by repeat' (first | exact trivial | rfl | apply And.intro)) (by repeat' (first | exact trivial | rfl | apply And.intro))
        by_cases hji : j = i
        · rw [hji]; exact hin
        · exact hlow j (by omega)
      · refine Goes.run Γ_ok htb 100 false [true, true] rfl (by simp only [allP, decide_eq_true_eq, decide_eq_false_iff_not, Bool.not_eq_true', Bool.not_eq_false', and_true] <;> (try simp only [rng, lo, hi, Int.toNat_natCast, Sg.n, Nat.mul_one, Nat.zero_add, Nat.add_zero]) <;> omega) ?_
        refine Goes.ret Γ_ok Tryd.func33 rfl rfl ?_
        refine ⟨rfl, Nat.le_refl _, rfl, rfl, ?_, ⟨rfl, trivial⟩, rfl, rfl⟩
        show decide _ = false
        exact decide_eq_false fun h => hin (h.1 i hlt)
    · obtain rfl : i = 11 := by omega
      have hlim := gro_lim hc hl
      refine Goes.run Γ_ok htb 100 false [false] rfl (by simp only [allP, decide_eq_true_eq, decide_eq_false_iff_not, Bool.not_eq_true', Bool.not_eq_false', and_true] <;> (try simp only [rng, lo, hi, Int.toNat_natCast, Sg.n, Nat.mul_one, Nat.zero_add, Nat.add_zero]) <;> omega) ?_
      refine Goes.ret Γ_ok Tryd.func33 rfl rfl ?_
      refine ⟨rfl, Nat.le_refl _, rfl, rfl, ?_, ⟨rfl, trivial⟩, rfl, rfl⟩
      show decide _ = decide _
      rw [decide_eq_decide]
      exact ⟨fun h => h.2, fun h => ⟨hlow, h⟩⟩
  · cases h


/-- The first place from i on, of n, that has what is asked; or -1. -/
def firstFrom (p : Nat → Bool) : Nat → Nat → Int
  | 0, _ => -1
  | n + 1, i => if p i then (i : Int) else firstFrom p n (i + 1)

theorem firstFrom_nonneg (p : Nat → Bool) : ∀ (n i : Nat), 0 ≤ firstFrom p n i ↔ ∃ j, i ≤ j ∧ j < i + n ∧ p j = true
  | 0, i => ⟨fun h => by simp [firstFrom] at h, fun ⟨j, h1, h2, _⟩ => by omega⟩
  | n + 1, i => by
    unfold firstFrom
    by_cases hp : p i = true
    · rw [if_pos hp]
      exact ⟨fun _ => ⟨i, Nat.le_refl _, by omega, hp⟩, fun _ => by omega⟩
    · rw [if_neg hp, firstFrom_nonneg p n (i + 1)]
      constructor
      · rintro ⟨j, h1, h2, h3⟩; exact ⟨j, by omega, by omega, h3⟩
      · rintro ⟨j, h1, h2, h3⟩
        by_cases hj : j = i
        · subst hj; exact absurd h3 hp
        · exact ⟨j, by omega, by omega, h3⟩

def notPct : Fun
  | [.i .i8 n], [] => some (.b (!decide (0 ≤ n ∧ n ≤ 100)), [], [])
  | _, _ => .none

theorem s_implValidGrowth1 : Sound Tryd.prog 78 notPct := by
  intro args M r M' vs h hvs
  unfold notPct at h
  split at h
  · rename_i n
    cases h
    refine SpecOK.assume fun hA hM => ?_
    have hr : rng .i8 n := hA.1
    have htb := TbOk.cons s_within Tryd.func79 rfl rfl TbOk.nil
    refine SpecOK.of_goes [] Tryd.func78 rfl ?_
    simp only [rng, lo, hi] at hr
    refine Goes.run Γ_ok htb 100 false [] rfl (by simp only [allP, decide_eq_true_eq, decide_eq_false_iff_not, Bool.not_eq_true', Bool.not_eq_false', and_true] <;> (try simp only [rng, lo, hi, Int.toNat_natCast, Sg.n, Nat.mul_one, Nat.zero_add, Nat.add_zero]) <;> omega) ?_
    refine Goes.ret Γ_ok Tryd.func78 rfl rfl ?_
    exact ⟨rfl, Nat.le_refl _, rfl, rfl, rfl, trivial, rfl, rfl⟩
  · cases h

def idxPctS : Fun
  | [.sl 0 0 11 .i8, .fn 78 []], [.c .gro xs] => some (.i .i64 (firstFrom (fun j => !decide (0 ≤ xs.getD j 0 ∧ xs.getD j 0 ≤ 100)) 11 0), [.c .gro xs], [])
  | _, _ => .none

theorem s_idxPct : Sound Tryd.prog 102 idxPctS := by
  intro args M r M' vs h hvs
  unfold idxPctS at h
  split at h
  · rename_i xs
    cases h
    refine SpecOK.assume fun hA hM => ?_
    have hl := hA.1
    have hc := hM.1
    have htb := TbOk.cons s_implValidGrowth1 Tryd.func78 rfl rfl TbOk.nil
    refine SpecOK.of_goes [0] Tryd.func102 rfl ?_
    refine Goes.run Γ_ok htb 100 false [] rfl (by simp only [allP, decide_eq_true_eq, decide_eq_false_iff_not, Bool.not_eq_true', Bool.not_eq_false', and_true] <;> (try simp only [rng, lo, hi, Int.toNat_natCast, Sg.n, Nat.mul_one, Nat.zero_add, Nat.add_zero]) <;> omega) ?_
    generalize hp : (fun j => !decide (0 ≤ xs.getD j 0 ∧ xs.getD j 0 ≤ 100)) = p
    refine Goes.loop0 (fun i : Nat => 11 - i) (fun i => i ≤ 11 ∧ firstFrom p 11 0 = firstFrom p (11 - i) i) (fun i => frOf 19 [(0, .sl 0 0 11 .i8), (1, .fn 78 []), (7, .i .i64 (11:Int)), (8, .i .i64 (i:Int))])
      (fun i => [.c .gro xs]) 0 ⟨by omega, rfl⟩ (by repeat' (first | exact trivial | rfl | apply And.intro)) (by repeat' (first | exact trivial | rfl | apply And.intro)) fun i ⟨hle, hres⟩ ih => ?_
    by_cases hlt : i < 11
    · have hstep : firstFrom p (11 - i) i = if p i then (i:Int) else firstFrom p (11 - (i + 1)) (i + 1) := by
        rw [show 11 - i = (11 - (i + 1)) + 1 from by omega]; rfl
      have hpi : p i = !decide (0 ≤ xs.getD i 0 ∧ xs.getD i 0 ≤ 100) := by rw [← hp]
      by_cases hin : 0 ≤ xs.getD i 0 ∧ xs.getD i 0 ≤ 100
      · rw [hpi, decide_eq_true hin] at hstep
        refine Goes.run Γ_ok htb 100 false [true, false] rfl (by simp only [allP, decide_eq_true_eq, decide_eq_false_iff_not, Bool.not_eq_true', Bool.not_eq_false', and_true] <;> (try simp only [rng, lo, hi, Int.toNat_natCast, Sg.n, Nat.mul_one, Nat.zero_add, Nat.add_zero]) <;> omega) ?_
        exact ih (i+1) ⟨by omega, by rw [hres, hstep]; rfl⟩ (by omega) _ _ (by repeat' (first | exact trivial | rfl | apply And.intro)) (by repeat' (first | exact trivial | rfl | apply And.intro))
      · rw [hpi, decide_eq_false hin] at hstep
        refine Goes.run Γ_ok htb 100 false [true, true] rfl (by simp only [allP, decide_eq_true_eq, decide_eq_false_iff_not, Bool.not_eq_true', Bool.not_eq_false', and_true] <;> (try simp only [rng, lo, hi, Int.toNat_natCast, Sg.n, Nat.mul_one, Nat.zero_add, Nat.add_zero]) <;> omega) ?_
        refine Goes.ret Γ_ok Tryd.func102 rfl rfl ?_
        refine ⟨rfl, Nat.le_refl _, rfl, rfl, ?_, ⟨rfl, trivial⟩, rfl, rfl⟩
        rw [hres, hstep]
        exact ⟨rfl, rfl⟩
    · refine Goes.run Γ_ok htb 100 false [false] rfl (by simp only [allP, decide_eq_true_eq, decide_eq_false_iff_not, Bool.not_eq_true', Bool.not_eq_false', and_true] <;> (try simp only [rng, lo, hi, Int.toNat_natCast, Sg.n, Nat.mul_one, Nat.zero_add, Nat.add_zero]) <;> omega) ?_
      refine Goes.ret Γ_ok Tryd.func102 rfl rfl ?_
      refine ⟨rfl, Nat.le_refl _, rfl, rfl, ?_, ⟨rfl, trivial⟩, rfl, rfl⟩
      rw [hres, show 11 - i = 0 from by omega]
      exact ⟨rfl, rfl⟩
  · cases h

def hasPctS : Fun
  | [.sl 0 0 11 .i8, .fn 78 []], [.c .gro xs] => some (.b (decide (0 ≤ firstFrom (fun j => !decide (0 ≤ xs.getD j 0 ∧ xs.getD j 0 ≤ 100)) 11 0)), [.c .gro xs], [])
  | _, _ => .none

theorem s_hasPct : Sound Tryd.prog 77 hasPctS := by
  intro args M r M' vs h hvs
  unfold hasPctS at h
  split at h
  · rename_i xs
    cases h
    have htb := TbOk.cons s_idxPct Tryd.func102 rfl rfl TbOk.nil
    refine SpecOK.of_goes [0] Tryd.func77 rfl ?_
    refine Goes.run Γ_ok htb 100 false [] rfl (by repeat' (first | exact trivial | rfl | apply And.intro)) ?_
    refine Goes.ret Γ_ok Tryd.func77 rfl rfl ?_
    exact ⟨rfl, Nat.le_refl _, rfl, rfl, rfl, ⟨rfl, trivial⟩, rfl, rfl⟩
  · cases h

theorem noPct (xs : List Int) : (0 ≤ firstFrom (fun j => !decide (0 ≤ xs.getD j 0 ∧ xs.getD j 0 ≤ 100)) 11 0) ↔ ¬ ∀ j, j < 11 → 0 ≤ xs.getD j 0 ∧ xs.getD j 0 ≤ 100 := by
  rw [firstFrom_nonneg]
  constructor
  · rintro ⟨j, -, h2, h3⟩ h
    simp only [Bool.not_eq_true', decide_eq_false_iff_not] at h3
    exact h3 (h j (by omega))
  · intro h
    apply Classical.byContradiction
    intro hn
    apply h
    intro j hj
    apply Classical.byContradiction
    intro hc
    exact hn ⟨j, by omega, by omega, by simp only [Bool.not_eq_true', decide_eq_false_iff_not]; exact hc⟩

def okGVi : Fun
  | [.ag .gro xs], [] => some (.b (decide (okG xs)), [], [])
  | _, _ => .none

theorem s_implValidGrowth : Sound Tryd.prog 36 okGVi := by
  intro args M r M' vs h hvs
  unfold okGVi at h
  split at h
  · rename_i xs
    cases h
    refine SpecOK.assume fun hA hM => ?_
    have hl : xs.length = 12 := hA.1
    have htb := TbOk.cons s_hasPct Tryd.func77 rfl rfl (TbOk.cons s_within Tryd.func79 rfl rfl TbOk.nil)
    refine SpecOK.of_goes [] Tryd.func36 rfl ?_
    by_cases hin : 0 ≤ firstFrom (fun j => !decide (0 ≤ xs.getD j 0 ∧ xs.getD j 0 ≤ 100)) 11 0
    · refine Goes.run Γ_ok htb 100 false [false] rfl (by simp only [allP, decide_eq_true_eq, decide_eq_false_iff_not, Bool.not_eq_true', Bool.not_eq_false', and_true] <;> (try simp only [rng, lo, hi, Int.toNat_natCast, Sg.n, Nat.mul_one, Nat.zero_add, Nat.add_zero]) <;> omega) ?_
      refine Goes.ret Γ_ok Tryd.func36 rfl rfl ?_
      refine ⟨rfl, Nat.le_refl _, rfl, rfl, ?_, trivial, rfl, rfl⟩
      show decide _ = false
      exact decide_eq_false fun h => (noPct xs).1 hin h.1
    · have hlim := gro_lim (agg_ok (σ := .gro) rfl hl hA.2.1) hl
      refine Goes.run Γ_ok htb 100 false [true] rfl (by simp only [allP, decide_eq_true_eq, decide_eq_false_iff_not, Bool.not_eq_true', Bool.not_eq_false', and_true] <;> (try simp only [rng, lo, hi, Int.toNat_natCast, Sg.n, Nat.mul_one, Nat.zero_add, Nat.add_zero]) <;> omega) ?_
      refine Goes.ret Γ_ok Tryd.func36 rfl rfl ?_
      refine ⟨rfl, Nat.le_refl _, rfl, rfl, ?_, trivial, rfl, rfl⟩
      show decide _ = decide _
      rw [decide_eq_decide]
      exact ⟨fun h => h.2, fun h => ⟨Classical.byContradiction fun hc => hin ((noPct xs).2 hc), h⟩⟩
  · cases h

end Go.Proofs.YtplnfdgokpgbcaaDoor
