/- A cell's growth. -/
import Derived.Test.YtgogccconmlkiaaGrowth
namespace Go.Proofs.Ytgogccconmlkiaa
open Go Go.Eng
set_option linter.unusedSimpArgs false
set_option linter.unusedVariables false
set_option maxRecDepth 100000

def minS : Fun
  | [.i .i64 m, .i .i64 n], [] => some (.i .i64 (if m < n then m else n), [], [])
  | _, _ => .none

theorem s_l00Min : Sound Try.prog 112 minS := by
  intro args M r M' vs h hvs
  unfold minS at h
  split at h
  · rename_i m n
    cases h
    refine SpecOK.of_goes [] Try.func112 rfl ?_
    by_cases h1 : m < n
    · refine Goes.run Γ_ok TbOk.nil 100 false [true] rfl (by simp only [allP, decide_eq_true_eq, decide_eq_false_iff_not, Bool.not_eq_true', Bool.not_eq_false', and_true] <;> (try simp only [rng, lo, hi, Int.toNat_natCast, Sg.n, Nat.mul_one, Nat.zero_add, Nat.add_zero]) <;> omega) ?_
      refine Goes.ret Γ_ok Try.func112 rfl rfl ?_
      refine ⟨rfl, Nat.le_refl _, rfl, rfl, ?_, trivial, rfl, rfl⟩
      rw [if_pos h1]; exact ⟨rfl, rfl⟩
    · refine Goes.run Γ_ok TbOk.nil 100 false [false] rfl (by simp only [allP, decide_eq_true_eq, decide_eq_false_iff_not, Bool.not_eq_true', Bool.not_eq_false', and_true] <;> (try simp only [rng, lo, hi, Int.toNat_natCast, Sg.n, Nat.mul_one, Nat.zero_add, Nat.add_zero]) <;> omega) ?_
      refine Goes.ret Γ_ok Try.func112 rfl rfl ?_
      refine ⟨rfl, Nat.le_refl _, rfl, rfl, ?_, trivial, rfl, rfl⟩
      rw [if_neg h1]; exact ⟨rfl, rfl⟩
  · cases h

/-- What a cell has a day later. -/
def grown (xs : List Int) (g : Int) : Int := if xs.getD 11 0 ≤ g then g else if xs.getD 11 0 < g + xs.getD (g / 100).toNat 0 then xs.getD 11 0 else g + xs.getD (g / 100).toNat 0

def cellS : Fun
  | [.pw 0 .gro, .i .i64 g], [.c .gro xs] => some (.i .i64 (grown xs g), [.c .gro xs], [0 ≤ g, g ≤ 1000])
  | _, _ => .none

theorem s_l04Cell : Sound Try.prog 88 cellS := by
  intro args M r M' vs h hvs
  unfold cellS at h
  split at h
  · rename_i g xs
    cases h
    obtain ⟨hg0, hg1, -⟩ := hvs
    have hq : g.tdiv 100 = g / 100 := Int.tdiv_eq_ediv_of_nonneg hg0
    refine SpecOK.assume fun hA hM => ?_
    have hl : xs.length = 12 := hA.1
    have hlim := gro_lim hM.1 hl
    have htab := gro_tab hM.1 hl (j := (g / 100).toNat) (by omega)
    have htb := TbOk.cons s_l00Min Try.func112 rfl rfl TbOk.nil
    refine SpecOK.of_goes [0] Try.func88 rfl ?_
    by_cases h1 : xs.getD 11 0 ≤ g
    · refine Goes.run Γ_ok htb 100 false [true] rfl (by simp only [allP, decide_eq_true_eq, decide_eq_false_iff_not, Bool.not_eq_true', Bool.not_eq_false', and_true] <;> (try simp only [rng, hq, lo, hi, Int.toNat_natCast, Sg.n, Nat.mul_one, Nat.zero_add, Nat.add_zero]) <;> omega) ?_
      refine Goes.ret Γ_ok Try.func88 rfl rfl ?_
      refine ⟨rfl, Nat.le_refl _, rfl, rfl, ?_, ⟨rfl, trivial⟩, rfl, rfl⟩
      unfold grown; rw [if_pos h1]; exact ⟨rfl, rfl⟩
    · refine Goes.run Γ_ok htb 100 false [false] rfl (by simp only [allP, decide_eq_true_eq, decide_eq_false_iff_not, Bool.not_eq_true', Bool.not_eq_false', and_true] <;> (try simp only [rng, hq, lo, hi, Int.toNat_natCast, Sg.n, Nat.mul_one, Nat.zero_add, Nat.add_zero]) <;> omega) ?_
      refine Goes.ret Γ_ok Try.func88 rfl rfl ?_
      refine ⟨rfl, Nat.le_refl _, rfl, rfl, ?_, ⟨rfl, trivial⟩, rfl, rfl⟩
      unfold grown; rw [if_neg h1]
      simp only [mnI, Sg.n, hq, Nat.mul_one, Nat.zero_add, Nat.add_zero]; exact ⟨rfl, rfl⟩
  · cases h

def grownS : Fun
  | [.ag .gro xs, .i .i64 g], [] => some (.i .i64 (grown xs g), [], [0 ≤ g, g ≤ 1000])
  | _, _ => .none

theorem s_grown : Sound Try.prog 146 grownS := by
  intro args M r M' vs h hvs
  unfold grownS at h
  split at h
  · rename_i xs g
    cases h
    obtain ⟨hg0, hg1, -⟩ := hvs
    have hq : g.tdiv 100 = g / 100 := Int.tdiv_eq_ediv_of_nonneg hg0
    refine SpecOK.assume fun hA hM => ?_
    have hl : xs.length = 12 := hA.1
    have hlim := gro_lim (agg_ok (σ := .gro) rfl hl hA.2.1) hl
    have htab := gro_tab (agg_ok (σ := .gro) rfl hl hA.2.1) hl (j := (g / 100).toNat) (by omega)
    refine SpecOK.of_goes [] Try.func146 rfl ?_
    by_cases h1 : xs.getD 11 0 ≤ g
    · refine Goes.run Γ_ok TbOk.nil 100 false [true] rfl (by simp only [allP, decide_eq_true_eq, decide_eq_false_iff_not, Bool.not_eq_true', Bool.not_eq_false', and_true] <;> (try simp only [rng, hq, lo, hi, Int.toNat_natCast, Sg.n, Nat.mul_one, Nat.zero_add, Nat.add_zero]) <;> omega) ?_
      refine Goes.ret Γ_ok Try.func146 rfl rfl ?_
      refine ⟨rfl, Nat.le_refl _, rfl, rfl, ?_, trivial, rfl, rfl⟩
      unfold grown; rw [if_pos h1]; exact ⟨rfl, rfl⟩
    · refine Goes.run Γ_ok TbOk.nil 100 false [false] rfl (by simp only [allP, decide_eq_true_eq, decide_eq_false_iff_not, Bool.not_eq_true', Bool.not_eq_false', and_true] <;> (try simp only [rng, hq, lo, hi, Int.toNat_natCast, Sg.n, Nat.mul_one, Nat.zero_add, Nat.add_zero]) <;> omega) ?_
      refine Goes.ret Γ_ok Try.func146 rfl rfl ?_
      refine ⟨rfl, Nat.le_refl _, rfl, rfl, ?_, trivial, rfl, rfl⟩
      unfold grown; rw [if_neg h1]
      simp only [mnI, Sg.n, hq, Nat.mul_one, Nat.zero_add, Nat.add_zero]; exact ⟨rfl, rfl⟩
  · cases h

/-- What GrowCell answers. -/
def growCellS : Fun
  | [.ag .gro xs, .i .i64 g], [] => some (.t2 (.i .i64 (if okG xs ∧ 0 ≤ g ∧ g ≤ 1000 then grown xs g else 0)) (.i .i64 (if okG xs then (if 0 ≤ g ∧ g ≤ 1000 then 0 else 2) else 1)), [], [])
  | _, _ => .none

theorem s_specGrowCell : Sound Try.prog 39 growCellS := by
  intro args M r M' vs h hvs
  unfold growCellS at h
  split at h
  · rename_i xs g
    cases h
    have htb := TbOk.cons s_l04Ok Try.func86 rfl rfl (TbOk.cons s_l01Grass Try.func87 rfl rfl (TbOk.cons s_l04Cell Try.func88 rfl rfl TbOk.nil))
    refine SpecOK.of_goes [] Try.func39 rfl ?_
    by_cases h1 : okG xs
    · by_cases h2 : 0 ≤ g ∧ g ≤ 1000
      · refine Goes.run Γ_ok htb 100 false [false, false] rfl (by simp [allP, h1, h2]) ?_
        refine Goes.ret Γ_ok Try.func39 rfl rfl ?_
        refine ⟨rfl, Nat.le_refl _, rfl, rfl, ?_, trivial, rfl, rfl⟩
        rw [if_pos ⟨h1, h2⟩, if_pos h1, if_pos h2]; exact sameA_refl _
      · refine Goes.run Γ_ok htb 100 false [false, true] rfl (by simp only [allP, h1, h2, decide_true, decide_false, Bool.not_true, Bool.not_false, and_self]) ?_
        refine Goes.ret Γ_ok Try.func39 rfl rfl ?_
        refine ⟨rfl, Nat.le_refl _, rfl, rfl, ?_, trivial, rfl, rfl⟩
        rw [if_neg (fun h => h2 h.2), if_pos h1, if_neg h2]; exact sameA_refl _
    · refine Goes.run Γ_ok htb 100 false [true] rfl (by simp [allP, h1]) ?_
      refine Goes.ret Γ_ok Try.func39 rfl rfl ?_
      refine ⟨rfl, Nat.le_refl _, rfl, rfl, ?_, trivial, rfl, rfl⟩
      rw [if_neg (fun h => h1 h.1), if_neg h1]; exact sameA_refl _
  · cases h
end Go.Proofs.Ytgogccconmlkiaa
