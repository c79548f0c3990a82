/- Lists: their conversion, their comparison, their size. -/
import Derived.Test.YtplnfdgokpgbcaaDoorSpots
import Derived.Test.YtplnfdgokpgbcaaDoorEqs
import Derived.Test.YtplnfdgokpgbcaaDoorEngF
namespace Go.Proofs.YtplnfdgokpgbcaaDoor
open Go Go.Eng
set_option linter.unusedSimpArgs false
set_option linter.unusedVariables false
set_option maxRecDepth 100000
set_option maxHeartbeats 4000000

/-- The first i rows taken over. -/
def cpR (xs zs : List (List Int)) : Nat → List (List Int)
  | 0 => zs
  | i + 1 => (cpR xs zs i).set i (xs.getD i [])

theorem cpR_len (xs zs : List (List Int)) : ∀ i, (cpR xs zs i).length = zs.length
  | 0 => rfl
  | i + 1 => by rw [cpR, List.length_set, cpR_len xs zs i]

theorem cpR_get (xs zs : List (List Int)) : ∀ i j, j < i → j < zs.length → (cpR xs zs i)[j]? = some (xs.getD j []) := by
  intro i
  induction i with
  | zero => intro j h; omega
  | succ i ih =>
    intro j h hj
    rw [cpR, List.getElem?_set, cpR_len]
    by_cases hij : i = j
    · subst hij; simp [hj]
    · rw [if_neg hij]; exact ih j (by omega) hj

theorem cpR_all (xs zs : List (List Int)) (h : zs.length = xs.length) : cpR xs zs xs.length = xs := by
  refine List.ext_getElem? fun j => ?_
  by_cases hj : j < xs.length
  · rw [cpR_get xs zs _ j hj (by omega), List.getElem?_eq_getElem hj, List.getD_eq_getElem?_getD, List.getElem?_eq_getElem hj]; rfl
  · rw [List.getElem?_eq_none (by rw [cpR_len]; omega), List.getElem?_eq_none (by omega)]

theorem rows_eq {xs ys : List (List Int)} (h : xs.length = ys.length) (he : ∀ j, j < xs.length → xs.getD j [] = ys.getD j []) : xs = ys := by
  refine List.ext_getElem? fun j => ?_
  by_cases hj : j < xs.length
  · have := he j hj
    rw [List.getD_eq_getElem?_getD, List.getD_eq_getElem?_getD, List.getElem?_eq_getElem hj, List.getElem?_eq_getElem (by omega)] at this
    rw [List.getElem?_eq_getElem hj, List.getElem?_eq_getElem (by omega)]
    exact congrArg some this
  · rw [List.getElem?_eq_none (by omega), List.getElem?_eq_none (by omega)]

def listS (σ : Sg) : Fun
  | [.fs τ xs], [] => if τ = σ then some (.fs τ xs, [], [xs.length ≤ 1073741824]) else .none
  | _, _ => .none
theorem listS_inv {σ : Sg} {args : List AV} {M M' : List Blk} {r : AV} {vs : List Prop} (h : listS σ args M = some (r, M', vs)) : ∃ xs, args = [.fs σ xs] ∧ M = [] ∧ r = .fs σ xs ∧ M' = [] ∧ vs = [xs.length ≤ 1073741824] := by
  unfold listS at h
  split at h
  · split at h
    · rename_i hc; cases h; subst hc; exact ⟨_, rfl, rfl, rfl, rfl, rfl⟩
    · cases h
  · cases h
/-- Of two equal lists it says so. -/
def refLS (σ : Sg) : Fun
  | [.fs τ xs, .fs τ' ys], [] => if τ = σ ∧ τ' = σ then some (.d true, [], [xs = ys ∧ xs.length ≤ 1073741824]) else .none
  | _, _ => .none
theorem refLS_inv {σ : Sg} {args : List AV} {M M' : List Blk} {r : AV} {vs : List Prop} (h : refLS σ args M = some (r, M', vs)) (hv : allP vs) : ∃ xs, args = [.fs σ xs, .fs σ xs] ∧ M = [] ∧ r = .d true ∧ M' = [] ∧ xs.length ≤ 1073741824 := by
  unfold refLS at h
  split at h
  · split at h
    · rename_i hc; cases h; obtain ⟨rfl, rfl⟩ := hc; obtain ⟨⟨rfl, hl⟩, -⟩ := hv; exact ⟨_, rfl, rfl, rfl, rfl, hl⟩
    · cases h
  · cases h
/-- What is left of a bound. -/
def szN (n : Int) (l : Nat) : Int := if n - l < 0 then -1 else n - l
theorem szN_ok (n : Int) (l : Nat) : (0 ≤ szN n l → (l : Int) ≤ n ∧ szN n l = n - l) := by unfold szN; split <;> omega
def szS (σ : Sg) : Fun
  | [.fs τ xs, .i .i64 n], [] => if τ = σ then some (.i .i64 (szN n xs.length), [], [0 ≤ n]) else .none
  | _, _ => .none
theorem szS_inv {σ : Sg} {args : List AV} {M M' : List Blk} {r : AV} {vs : List Prop} (h : szS σ args M = some (r, M', vs)) : ∃ xs n, args = [.fs σ xs, .i .i64 n] ∧ M = [] ∧ r = .i .i64 (szN n xs.length) ∧ M' = [] ∧ vs = [0 ≤ n] := by
  unfold szS at h
  split at h
  · split at h
    · rename_i hc; cases h; subst hc; exact ⟨_, _, rfl, rfl, rfl, rfl, rfl⟩
    · cases h
  · cases h

set_option maxRecDepth 100000 in
theorem s_szGoatS : Sound Tryd.prog 12 (szS .goat) := by
  intro args M r M' vs h hvs
  obtain ⟨xs, n, rfl, rfl, rfl, rfl, rfl⟩ := szS_inv h
  obtain ⟨hl, -⟩ := hvs
  refine SpecOK.assume fun hA hM => ?_
  have htb := (TbOk.nil : TbOk Tryd.prog tb0)
  refine SpecOK.of_goes [] Tryd.func12 rfl ?_
  have hm : xs.length ≤ maxLen := hA.1
  have hm' : maxLen = 9223372036854775807 := rfl
  have hn : rng .i64 n := hA.2.2.1
  simp only [rng, lo, hi] at hn
  clear hA hM
  refine Goes.tree Γ_ok htb 1000 false false Tryd.func12 rfl ?_
  ((try simp only [decide_eq_true_eq, decide_eq_false_iff_not, Bool.not_eq_true', Bool.not_eq_false', Bool.not_true, Bool.not_false, Bool.and_eq_true, Bool.or_eq_true, bne_iff_ne, beq_iff_eq, ne_eq]); (try simp only [rng, lo, hi, mnI, mxI, Int.toNat_natCast, Sg.n, Nat.mul_one, Nat.zero_add, Nat.add_zero, Nat.reduceAdd, List.getD_cons_zero, List.getD_cons_succ]))
  ((repeat' (first | (with_reducible apply And.intro) | intro _)); all_goals (first | exact trivial | (with_reducible assumption) | (show (_ : List Blk) = _; rfl) | (first | exact trivial | (with_reducible assumption) | omega | (split <;> omega) | (split <;> split <;> omega)) | skip); all_goals (try (refine ⟨rfl, (by first | exact Nat.le_refl _ | exact Nat.le_of_ble_eq_true rfl), rfl, rfl, ?_, (by repeat' (first | exact trivial | rfl | apply And.intro)), rfl, rfl⟩)))
  · unfold szN; rw [if_pos (by omega)]; exact sameA_refl _
  · unfold szN; rw [if_neg (by omega)]; exact sameA_refl _

set_option maxRecDepth 100000 in
theorem s_toGoatS : Sound Tryd.prog 14 (listS .goat) := by
  intro args M r M' vs h hvs
  obtain ⟨xs, rfl, rfl, rfl, rfl, rfl⟩ := listS_inv h
  obtain ⟨hl, -⟩ := hvs
  refine SpecOK.assume fun hA hM => ?_
  have htb := (TbOk.cons s_toGoat Tryd.func41 rfl rfl (TbOk.nil : TbOk Tryd.prog tb0))
  refine SpecOK.of_goes [] Tryd.func14 rfl ?_
  clear hA hM
  refine Goes.tree Γ_ok htb 1000 true false Tryd.func14 rfl ?_
  ((try simp only [decide_eq_true_eq, decide_eq_false_iff_not, Bool.not_eq_true', Bool.not_eq_false', Bool.not_true, Bool.not_false, Bool.and_eq_true, Bool.or_eq_true, bne_iff_ne, beq_iff_eq, ne_eq]); (try simp only [rng, lo, hi, mnI, mxI, Int.toNat_natCast, Sg.n, Nat.mul_one, Nat.zero_add, Nat.add_zero, Nat.reduceAdd, List.getD_cons_zero, List.getD_cons_succ]))
  ((repeat' (first | (with_reducible apply And.intro) | intro _)); all_goals (first | exact trivial | (with_reducible assumption) | (show (_ : List Blk) = _; rfl) | (first | exact trivial | (with_reducible assumption) | omega | (split <;> omega) | (split <;> split <;> omega)) | skip); all_goals (try (refine ⟨rfl, (by first | exact Nat.le_refl _ | exact Nat.le_of_ble_eq_true rfl), rfl, rfl, ?_, (by repeat' (first | exact trivial | rfl | apply And.intro)), rfl, rfl⟩)))
  refine ⟨?_⟩
  refine Goes.loopR (fun i : Nat => xs.length - i) (fun i => i ≤ xs.length) (fun i => (.fs .goat xs :: .any :: .any :: .ow 0 xs.length .goat 74 :: .i .i64 (i:Int) :: .any :: .any :: .any :: .any :: .any :: .any :: .any :: .any :: .any :: .any :: .any :: .any :: .any :: .any :: .any :: .any :: .any :: .any :: [])) (fun i => [.l .goat (cpR xs (List.replicate xs.length (List.replicate Sg.goat.n 0)) i)]) 0 [0] (by omega) ⟨rfl, rfl, rfl, (by repeat' (first | exact trivial | rfl | apply And.intro)), (by repeat' (first | exact trivial | rfl | apply And.intro)), rfl, rfl, rfl⟩ fun i hle ih => ?_
  have hcl := cpR_len xs (List.replicate xs.length (List.replicate Sg.goat.n 0)) i
  rw [List.length_replicate] at hcl
  refine Goes.tree Γ_ok htb 1000 true false Tryd.func14 rfl ?_
  ((try simp only [decide_eq_true_eq, decide_eq_false_iff_not, Bool.not_eq_true', Bool.not_eq_false', Bool.not_true, Bool.not_false, Bool.and_eq_true, Bool.or_eq_true, bne_iff_ne, beq_iff_eq, ne_eq]); (try simp only [rng, lo, hi, mnI, mxI, Int.toNat_natCast, Sg.n, Nat.mul_one, Nat.zero_add, Nat.add_zero, Nat.reduceAdd, List.getD_cons_zero, List.getD_cons_succ]))
  ((repeat' (first | (with_reducible apply And.intro) | intro _)); all_goals (first | exact trivial | (with_reducible assumption) | (show (_ : List Blk) = _; rfl) | (first | exact trivial | (with_reducible assumption) | omega | (split <;> omega) | (split <;> split <;> omega)) | skip); all_goals (try (refine ⟨rfl, (by first | exact Nat.le_refl _ | exact Nat.le_of_ble_eq_true rfl), rfl, rfl, ?_, (by repeat' (first | exact trivial | rfl | apply And.intro)), rfl, rfl⟩)))
  · exact ⟨ih (i + 1) (by omega) (by omega) [0] _ _ ⟨rfl, rfl, rfl, (by repeat' (first | exact trivial | rfl | apply And.intro)), (by repeat' (first | exact trivial | rfl | apply And.intro)), rfl, rfl, rfl⟩⟩
  · obtain rfl : i = xs.length := by omega
    have e := cpR_all xs (List.replicate xs.length (List.replicate Sg.goat.n 0)) (by rw [List.length_replicate])
    have e' : cpR xs (List.replicate xs.length (List.replicate 7 0)) xs.length = xs := e
    rw [e']
    exact sameA_refl _

set_option maxRecDepth 100000 in
theorem s_eqGoatS : Sound Tryd.prog 16 (refLS .goat) := by
  intro args M r M' vs h hvs
  obtain ⟨xs, rfl, rfl, rfl, rfl, hl⟩ := refLS_inv h hvs
  refine SpecOK.assume fun hA hM => ?_
  have htb := (TbOk.cons s_eqGoat Tryd.func50 rfl rfl (TbOk.nil : TbOk Tryd.prog tb0))
  refine SpecOK.of_goes [] Tryd.func16 rfl ?_
  clear hA hM
  refine Goes.tree Γ_ok htb 1000 false false Tryd.func16 rfl ?_
  ((try simp only [decide_eq_true_eq, decide_eq_false_iff_not, Bool.not_eq_true', Bool.not_eq_false', Bool.not_true, Bool.not_false, Bool.and_eq_true, Bool.or_eq_true, bne_iff_ne, beq_iff_eq, ne_eq]); (try simp only [rng, lo, hi, mnI, mxI, Int.toNat_natCast, Sg.n, Nat.mul_one, Nat.zero_add, Nat.add_zero, Nat.reduceAdd, List.getD_cons_zero, List.getD_cons_succ]))
  ((repeat' (first | (with_reducible apply And.intro) | intro _)); all_goals (first | exact trivial | (with_reducible assumption) | (show (_ : List Blk) = _; rfl) | (first | exact trivial | (with_reducible assumption) | omega | (split <;> omega) | (split <;> split <;> omega)) | skip); all_goals (try (refine ⟨rfl, (by first | exact Nat.le_refl _ | exact Nat.le_of_ble_eq_true rfl), rfl, rfl, ?_, (by repeat' (first | exact trivial | rfl | apply And.intro)), rfl, rfl⟩)))
  · contradiction
  refine ⟨?_⟩
  refine Goes.loopR (fun i : Nat => xs.length - i) (fun i => i ≤ xs.length) (fun i => (.fs .goat xs :: .fs .goat xs :: .any :: .any :: .any :: .i .i64 (i:Int) :: .any :: .any :: .any :: .any :: .any :: .any :: .any :: .any :: .any :: .any :: .any :: .any :: .any :: .any :: .any :: .any :: .any :: .any :: .any :: .any :: .any :: [])) (fun i => []) 0 [] (by omega) ⟨rfl, rfl, rfl, (by repeat' (first | exact trivial | rfl | apply And.intro)), (by repeat' (first | exact trivial | rfl | apply And.intro)), rfl, rfl, rfl⟩ fun i hle ih => ?_
  refine Goes.tree Γ_ok htb 1000 false false Tryd.func16 rfl ?_
  ((try simp only [decide_eq_true_eq, decide_eq_false_iff_not, Bool.not_eq_true', Bool.not_eq_false', Bool.not_true, Bool.not_false, Bool.and_eq_true, Bool.or_eq_true, bne_iff_ne, beq_iff_eq, ne_eq]); (try simp only [rng, lo, hi, mnI, mxI, Int.toNat_natCast, Sg.n, Nat.mul_one, Nat.zero_add, Nat.add_zero, Nat.reduceAdd, List.getD_cons_zero, List.getD_cons_succ]))
  ((repeat' (first | (with_reducible apply And.intro) | intro _)); all_goals (first | exact trivial | (with_reducible assumption) | (show (_ : List Blk) = _; rfl) | (first | exact trivial | (with_reducible assumption) | omega | (split <;> omega) | (split <;> split <;> omega)) | skip); all_goals (try (refine ⟨rfl, (by first | exact Nat.le_refl _ | exact Nat.le_of_ble_eq_true rfl), rfl, rfl, ?_, (by repeat' (first | exact trivial | rfl | apply And.intro)), rfl, rfl⟩)))
  · exact ⟨ih (i + 1) (by omega) (by omega) [] _ _ ⟨rfl, rfl, rfl, (by repeat' (first | exact trivial | rfl | apply And.intro)), (by repeat' (first | exact trivial | rfl | apply And.intro)), rfl, rfl, rfl⟩⟩
  · exact sameA_refl _

end Go.Proofs.YtplnfdgokpgbcaaDoor
