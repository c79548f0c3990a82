/- Texts taken apart: the spec. -/
import Derived.Test.YtplnfdgokpgbcaaDoorTxt
namespace Go.Proofs.YtplnfdgokpgbcaaDoor
open Go Go.Eng
set_option linter.unusedSimpArgs false
set_option linter.unusedVariables false
set_option maxRecDepth 100000
set_option maxHeartbeats 4000000

/-- The byte at a place. -/
def byA (s : ByteArray) (i : Nat) : Int := ((s.data.getD i 0).toNat : Int)
/-- Split at a byte: the pieces so far, and where the next one begins. -/
def splK (s : ByteArray) (b : Int) : Nat → List ByteArray × Nat
  | 0 => ([], 0)
  | i + 1 => if byA s i = b then ((splK s b i).1 ++ [s.extract (splK s b i).2 i], i + 1) else splK s b i
def splL (s : ByteArray) (b : Int) : List ByteArray := (splK s b s.size).1 ++ [s.extract (splK s b s.size).2 s.size]
theorem splK_le (s : ByteArray) (b : Int) : ∀ i, (splK s b i).2 ≤ i ∧ (splK s b i).1.length ≤ i := by
  intro i
  induction i with
  | zero => exact ⟨Nat.le_refl _, Nat.le_refl _⟩
  | succ i ih =>
    unfold splK
    split
    · exact ⟨Nat.le_refl _, by rw [List.length_append]; exact Nat.succ_le_succ ih.2⟩
    · exact ⟨by omega, by omega⟩
def splS : Fun
  | [.s s, .i .u8 b], [] => some (.fstr (splL s b), [], [s.size ≤ 1073741000])
  | _, _ => .none
set_option maxRecDepth 100000 in
theorem s_l01Split : Sound Tryd.prog 64 splS := by
  intro args M r M' vs h hvs
  unfold splS at h
  split at h
  case h_2 => cases h
  rename_i s b
  cases h
  refine SpecOK.assume fun hA hM => ?_
  have htb := (TbOk.nil : TbOk Tryd.prog tb0)
  refine SpecOK.of_goes [] Tryd.func64 rfl ?_
  obtain ⟨hs, -⟩ := hvs
  clear hA hM
  refine Goes.tree Γ_ok htb 1000 true false Tryd.func64 rfl ?_
  ((try simp only [decide_eq_true_eq, decide_eq_false_iff_not, Bool.not_eq_true', Bool.not_eq_false', Bool.not_true, Bool.not_false, Bool.and_eq_true, Bool.or_eq_true, bne_iff_ne, beq_iff_eq, ne_eq]); (try simp only [rng, lo, hi, mnI, mxI, Int.toNat_natCast, Sg.n, Nat.mul_one, Nat.zero_add, Nat.add_zero, Nat.reduceAdd, List.getD_cons_zero, List.getD_cons_succ]))
  ((repeat' (first | (with_reducible apply And.intro) | intro _)); all_goals (first | exact trivial | (with_reducible assumption) | (show (_ : List Blk) = _; rfl) | (first | exact trivial | (with_reducible assumption) | omega | (split <;> omega) | (split <;> split <;> omega)) | skip); all_goals (try (refine ⟨rfl, (by first | exact Nat.le_refl _ | exact Nat.le_of_ble_eq_true rfl), rfl, rfl, ?_, (by repeat' (first | exact trivial | rfl | apply And.intro)), rfl, rfl⟩)))
  refine ⟨?_⟩
  refine Goes.loopR (fun i : Nat => s.size - i) (fun i => i ≤ s.size) (fun i => (.s s :: .i .u8 b :: .any :: .any :: .any :: .ow 0 (splK s b i).1.length .str 9 :: .i .i64 ((splK s b i).2 : Int) :: .i .i64 (i:Int) :: .any :: .any :: .any :: .any :: .any :: .any :: .any :: .any :: .any :: .any :: .any :: .any :: .any :: .any :: .any :: .any :: .any :: .any :: .any :: .any :: .any :: .any :: .any :: .any :: .any :: .any :: .any :: [])) (fun i => [.s (splK s b i).1]) 0 [0] (Nat.zero_le _) ⟨rfl, rfl, rfl, (by repeat' (first | exact trivial | rfl | apply And.intro)), (by repeat' (first | exact trivial | rfl | apply And.intro)), rfl, rfl, rfl⟩ fun i hib ih => ?_
  have hle := splK_le s b i
  by_cases hlt : i < s.size
  · have ih := ih (i + 1)
    have hyes : byA s i = b → splK s b (i + 1) = ((splK s b i).1 ++ [s.extract (splK s b i).2 i], i + 1) := fun h => if_pos h
    have hno : ¬ byA s i = b → splK s b (i + 1) = splK s b i := fun h => if_neg h
    have hby : ((s.data.getD i 0).toNat : Int) = byA s i := rfl
    generalize splK s b i = st at *
    refine Goes.tree Γ_ok htb 1000 true false Tryd.func64 rfl ?_
    ((try simp only [decide_eq_true_eq, decide_eq_false_iff_not, Bool.not_eq_true', Bool.not_eq_false', Bool.not_true, Bool.not_false, Bool.and_eq_true, Bool.or_eq_true, bne_iff_ne, beq_iff_eq, ne_eq]); (try simp only [rng, lo, hi, mnI, mxI, Int.toNat_natCast, Sg.n, Nat.mul_one, Nat.zero_add, Nat.add_zero, Nat.reduceAdd, List.getD_cons_zero, List.getD_cons_succ, hby]))
    ((repeat' (first | (with_reducible apply And.intro) | intro _)); all_goals (first | exact trivial | (with_reducible assumption) | (show (_ : List Blk) = _; rfl) | (first | exact trivial | (with_reducible assumption) | omega | (split <;> omega) | (split <;> split <;> omega)) | skip); all_goals (try (refine ⟨rfl, (by first | exact Nat.le_refl _ | exact Nat.le_of_ble_eq_true rfl), rfl, rfl, ?_, (by repeat' (first | exact trivial | rfl | apply And.intro)), rfl, rfl⟩)))
    · show (st.1 ++ [_]).length ≤ _
      rw [List.length_append]; show _ + 1 ≤ _; omega
    · rename_i h
      refine ⟨ih (by omega) (by omega) [2] _ _ ?_⟩
      rw [hyes h]
      exact ⟨rfl, rfl, rfl, (by repeat' (first | exact trivial | rfl | apply And.intro)), (by repeat' (first | exact trivial | rfl | apply And.intro)), rfl, rfl, rfl⟩
    · rename_i h
      refine ⟨ih (by omega) (by omega) [0] _ _ ?_⟩
      rw [hno h]
      exact ⟨rfl, rfl, rfl, (by repeat' (first | exact trivial | rfl | apply And.intro)), (by repeat' (first | exact trivial | rfl | apply And.intro)), rfl, rfl, rfl⟩
  · obtain rfl : i = s.size := by omega
    clear ih
    refine Goes.tree Γ_ok htb 1000 true false Tryd.func64 rfl ?_
    ((try simp only [decide_eq_true_eq, decide_eq_false_iff_not, Bool.not_eq_true', Bool.not_eq_false', Bool.not_true, Bool.not_false, Bool.and_eq_true, Bool.or_eq_true, bne_iff_ne, beq_iff_eq, ne_eq]); (try simp only [rng, lo, hi, mnI, mxI, Int.toNat_natCast, Sg.n, Nat.mul_one, Nat.zero_add, Nat.add_zero, Nat.reduceAdd, List.getD_cons_zero, List.getD_cons_succ]))
    ((repeat' (first | (with_reducible apply And.intro) | intro _)); all_goals (first | exact trivial | (with_reducible assumption) | (show (_ : List Blk) = _; rfl) | (first | exact trivial | (with_reducible assumption) | omega | (split <;> omega) | (split <;> split <;> omega)) | skip); all_goals (try (refine ⟨rfl, (by first | exact Nat.le_refl _ | exact Nat.le_of_ble_eq_true rfl), rfl, rfl, ?_, (by repeat' (first | exact trivial | rfl | apply And.intro)), rfl, rfl⟩)))
    · show ((splK s b s.size).1 ++ [_]).length ≤ _
      rw [List.length_append]; show _ + 1 ≤ _; omega
    · exact sameA_refl _

/-- A byte cut from the end. -/
def cutB (s : ByteArray) (b : Int) : Bool := decide (0 < s.size ∧ byA s (s.size - 1) = b)
def cutS : Fun
  | [.s s, .i .u8 b], [] => some (.t2 (.s (if cutB s b = true then s.extract 0 (s.size - 1) else s)) (.b (cutB s b)), [], [s.size ≤ 1073741000])
  | _, _ => .none
set_option maxRecDepth 100000 in
theorem s_l01Cut : Sound Tryd.prog 65 cutS := by
  intro args M r M' vs h hvs
  unfold cutS at h
  split at h
  case h_2 => cases h
  rename_i s b
  cases h
  refine SpecOK.assume fun hA hM => ?_
  have htb := (TbOk.nil : TbOk Tryd.prog tb0)
  refine SpecOK.of_goes [] Tryd.func65 rfl ?_
  obtain ⟨hs, -⟩ := hvs
  clear hA hM
  by_cases h0 : s.size = 0
  · refine Goes.tree Γ_ok htb 1000 false false Tryd.func65 rfl ?_
    ((try simp only [decide_eq_true_eq, decide_eq_false_iff_not, Bool.not_eq_true', Bool.not_eq_false', Bool.not_true, Bool.not_false, Bool.and_eq_true, Bool.or_eq_true, bne_iff_ne, beq_iff_eq, ne_eq]); (try simp only [rng, lo, hi, mnI, mxI, Int.toNat_natCast, Sg.n, Nat.mul_one, Nat.zero_add, Nat.add_zero, Nat.reduceAdd, List.getD_cons_zero, List.getD_cons_succ]))
    ((repeat' (first | (with_reducible apply And.intro) | intro _)); all_goals (first | exact trivial | (with_reducible assumption) | (show (_ : List Blk) = _; rfl) | (first | exact trivial | (with_reducible assumption) | omega | (split <;> omega) | (split <;> split <;> omega)) | skip); all_goals (try (refine ⟨rfl, (by first | exact Nat.le_refl _ | exact Nat.le_of_ble_eq_true rfl), rfl, rfl, ?_, (by repeat' (first | exact trivial | rfl | apply And.intro)), rfl, rfl⟩)))
    have hc : cutB s b = false := decide_eq_false fun h => by omega
    rw [hc]; exact ⟨rfl, rfl⟩
  · have hby : ((s.data.getD (s.size - 1) 0).toNat : Int) = byA s (s.size - 1) := rfl
    have hsz : ((s.size : Int) - 1).toNat = s.size - 1 := by omega
    refine Goes.tree Γ_ok htb 1000 false false Tryd.func65 rfl ?_
    ((try simp only [decide_eq_true_eq, decide_eq_false_iff_not, Bool.not_eq_true', Bool.not_eq_false', Bool.not_true, Bool.not_false, Bool.and_eq_true, Bool.or_eq_true, bne_iff_ne, beq_iff_eq, ne_eq]); (try simp only [rng, lo, hi, mnI, mxI, Int.toNat_natCast, Sg.n, Nat.mul_one, Nat.zero_add, Nat.add_zero, Nat.reduceAdd, List.getD_cons_zero, List.getD_cons_succ, hsz, hby]))
    ((repeat' (first | (with_reducible apply And.intro) | intro _)); all_goals (first | exact trivial | (with_reducible assumption) | (show (_ : List Blk) = _; rfl) | (first | exact trivial | (with_reducible assumption) | omega | (split <;> omega) | (split <;> split <;> omega)) | skip); all_goals (try (refine ⟨rfl, (by first | exact Nat.le_refl _ | exact Nat.le_of_ble_eq_true rfl), rfl, rfl, ?_, (by repeat' (first | exact trivial | rfl | apply And.intro)), rfl, rfl⟩)))
    · rename_i h
      have hc : cutB s b = false := decide_eq_false fun g => h g.2
      rw [hc]; exact ⟨rfl, rfl⟩
    · rename_i h
      have hc : cutB s b = true := decide_eq_true ⟨by omega, h⟩
      rw [hc]; exact ⟨rfl, rfl⟩
/-- The number of a numeral without needless zeros, of nine digits at most. -/
def digB (s : ByteArray) (i : Nat) : Bool := decide (48 ≤ byA s i ∧ byA s i ≤ 57)
def numK (s : ByteArray) : Nat → Int
  | 0 => 0
  | i + 1 => 10 * numK s i + (byA s i - 48)
def numB (s : ByteArray) : Bool := decide (0 < s.size ∧ s.size ≤ 9 ∧ (byA s 0 = 48 → s.size = 1) ∧ ∀ i, i < s.size → digB s i = true)
def numS : Fun
  | [.s s], [] => some (.t2 (.i .i64 (if numB s = true then numK s s.size else 0)) (.b (numB s)), [], [])
  | _, _ => .none
theorem numK_rng {s : ByteArray} : ∀ i, i ≤ 9 → (∀ j, j < i → digB s j = true) → 0 ≤ numK s i ∧ numK s i < ((10 ^ i : Nat) : Int) := by
  intro i
  induction i with
  | zero => intro _ _; exact ⟨Int.le_refl _, by show (0 : Int) < ((1 : Nat) : Int); decide⟩
  | succ i ih =>
    intro hi h
    have h1 := ih (by omega) fun j hj => h j (by omega)
    have h2 := h i (by omega)
    unfold digB at h2
    rw [decide_eq_true_eq] at h2
    unfold numK
    rw [Nat.pow_succ]
    omega
theorem numB_bad {s : ByteArray} {i : Nat} (hi : i < s.size) (h : digB s i = false) : numB s = false := by
  refine decide_eq_false fun g => ?_
  have := g.2.2.2 i hi
  rw [h] at this; cases this
theorem numB_off {s : ByteArray} (h : ¬ (0 < s.size ∧ s.size ≤ 9 ∧ (byA s 0 = 48 → s.size = 1))) : numB s = false := decide_eq_false fun g => h ⟨g.1, g.2.1, g.2.2.1⟩
theorem empty_size {s : ByteArray} : s = ⟨#[]⟩ ↔ s.size = 0 := by
  constructor
  · rintro rfl; rfl
  · intro h
    rw [ByteArray.ext_iff]
    exact Array.eq_empty_of_size_eq_zero h
set_option maxRecDepth 100000 in
theorem s_l01Number : Sound Tryd.prog 66 numS := by
  intro args M r M' vs h hvs
  unfold numS at h
  split at h
  case h_2 => cases h
  rename_i s
  cases h
  refine SpecOK.assume fun hA hM => ?_
  have htb := (TbOk.nil : TbOk Tryd.prog tb0)
  refine SpecOK.of_goes [] Tryd.func66 rfl ?_
  clear hA hM
  by_cases h0 : 0 < s.size ∧ s.size ≤ 9 ∧ (byA s 0 = 48 → s.size = 1)
  · obtain ⟨h1, h2, h3⟩ := h0
    have hby : ((s.data.getD (Int.toNat 0) 0).toNat : Int) = byA s 0 := rfl
    refine Goes.tree Γ_ok htb 1000 false false Tryd.func66 rfl ?_
    ((try simp only [decide_eq_true_eq, decide_eq_false_iff_not, Bool.not_eq_true', Bool.not_eq_false', Bool.not_true, Bool.not_false, Bool.and_eq_true, Bool.or_eq_true, bne_iff_ne, beq_iff_eq, ne_eq]); (try simp only [rng, lo, hi, mnI, mxI, Int.toNat_natCast, Sg.n, Nat.mul_one, Nat.zero_add, Nat.add_zero, Nat.reduceAdd, List.getD_cons_zero, List.getD_cons_succ, hby, empty_size]))
    ((repeat' (first | (with_reducible apply And.intro) | intro _)); all_goals (first | exact trivial | (with_reducible assumption) | (show (_ : List Blk) = _; rfl) | (first | exact trivial | (with_reducible assumption) | omega | (split <;> omega) | (split <;> split <;> omega)) | skip); all_goals (try (refine ⟨rfl, (by first | exact Nat.le_refl _ | exact Nat.le_of_ble_eq_true rfl), rfl, rfl, ?_, (by repeat' (first | exact trivial | rfl | apply And.intro)), rfl, rfl⟩)))
    all_goals (try omega)
    all_goals
      refine ⟨?_⟩
      refine Goes.loopR (fun i : Nat => s.size - i) (fun i => i ≤ s.size ∧ ∀ j, j < i → digB s j = true) (fun i => (.s s :: .any :: .any :: .any :: .i .i64 (numK s i) :: .i .i64 (i:Int) :: .any :: .any :: .any :: .any :: .any :: .any :: .any :: .any :: .any :: .any :: .any :: .any :: .any :: .any :: .any :: .any :: .any :: .any :: .any :: .any :: .any :: .any :: .any :: .any :: .any :: .any :: .any :: .any :: .any :: .any :: .any :: .any :: .any :: .any :: .any :: .any :: .any :: .any :: .any :: .any :: .any :: .any :: [])) (fun i => []) 0 [] ⟨Nat.zero_le _, fun j hj => by omega⟩ ⟨rfl, rfl, rfl, (by repeat' (first | exact trivial | rfl | apply And.intro)), (by repeat' (first | exact trivial | rfl | apply And.intro)), rfl, rfl, rfl⟩ fun i ⟨hib, hno⟩ ih => ?_
      have hrg := numK_rng (s := s) i (by omega) hno
      have hp : (10 : Nat) ^ i ≤ 10 ^ 9 := Nat.pow_le_pow_right (by decide) (by omega)
      by_cases hlt : i < s.size
      · have hbi : ((s.data.getD i 0).toNat : Int) = byA s i := rfl
        have hb0 : 0 ≤ byA s i ∧ byA s i ≤ 255 := by
          have := (s.data.getD i 0).toNat_lt
          rw [← hbi]; omega
        have ek : numK s (i + 1) = 10 * numK s i + (byA s i - 48) := rfl
        have ih := ih (i + 1)
        rw [ek] at ih
        refine Goes.tree Γ_ok htb 1000 false false Tryd.func66 rfl ?_
        ((try simp only [decide_eq_true_eq, decide_eq_false_iff_not, Bool.not_eq_true', Bool.not_eq_false', Bool.not_true, Bool.not_false, Bool.and_eq_true, Bool.or_eq_true, bne_iff_ne, beq_iff_eq, ne_eq]); (try simp only [rng, lo, hi, mnI, mxI, Int.toNat_natCast, Sg.n, Nat.mul_one, Nat.zero_add, Nat.add_zero, Nat.reduceAdd, List.getD_cons_zero, List.getD_cons_succ, hbi]))
        ((repeat' (first | (with_reducible apply And.intro) | intro _)); all_goals (first | exact trivial | (with_reducible assumption) | (show (_ : List Blk) = _; rfl) | (first | exact trivial | (with_reducible assumption) | omega | (split <;> omega) | (split <;> split <;> omega)) | skip); all_goals (try (refine ⟨rfl, (by first | exact Nat.le_refl _ | exact Nat.le_of_ble_eq_true rfl), rfl, rfl, ?_, (by repeat' (first | exact trivial | rfl | apply And.intro)), rfl, rfl⟩)))
        · rename_i h
          rw [numB_bad hlt (decide_eq_false fun g => by omega)]; exact ⟨⟨rfl, rfl⟩, rfl⟩
        · rename_i h
          rw [numB_bad hlt (decide_eq_false fun g => by omega)]; exact ⟨⟨rfl, rfl⟩, rfl⟩
        · rename_i h h'
          refine ⟨ih ⟨by omega, fun j hj => ?_⟩ (by omega) [] _ _ ⟨rfl, rfl, rfl, (by repeat' (first | exact trivial | rfl | apply And.intro)), (by repeat' (first | exact trivial | rfl | apply And.intro)), rfl, rfl, rfl⟩⟩
          by_cases hji : j = i
          · subst hji; exact decide_eq_true (by omega)
          · exact hno j (by omega)
      · obtain rfl : i = s.size := by omega
        clear ih
        refine Goes.tree Γ_ok htb 1000 false false Tryd.func66 rfl ?_
        ((try simp only [decide_eq_true_eq, decide_eq_false_iff_not, Bool.not_eq_true', Bool.not_eq_false', Bool.not_true, Bool.not_false, Bool.and_eq_true, Bool.or_eq_true, bne_iff_ne, beq_iff_eq, ne_eq]); (try simp only [rng, lo, hi, mnI, mxI, Int.toNat_natCast, Sg.n, Nat.mul_one, Nat.zero_add, Nat.add_zero, Nat.reduceAdd, List.getD_cons_zero, List.getD_cons_succ]))
        ((repeat' (first | (with_reducible apply And.intro) | intro _)); all_goals (first | exact trivial | (with_reducible assumption) | (show (_ : List Blk) = _; rfl) | (first | exact trivial | (with_reducible assumption) | omega | (split <;> omega) | (split <;> split <;> omega)) | skip); all_goals (try (refine ⟨rfl, (by first | exact Nat.le_refl _ | exact Nat.le_of_ble_eq_true rfl), rfl, rfl, ?_, (by repeat' (first | exact trivial | rfl | apply And.intro)), rfl, rfl⟩)))
        have hc : numB s = true := decide_eq_true ⟨h1, h2, h3, hno⟩
        rw [hc]; exact ⟨⟨rfl, rfl⟩, rfl⟩
  · have hby : ((s.data.getD (Int.toNat 0) 0).toNat : Int) = byA s 0 := rfl
    have hoff := numB_off h0
    rw [hoff]
    refine Goes.tree Γ_ok htb 1000 false false Tryd.func66 rfl ?_
    ((try simp only [decide_eq_true_eq, decide_eq_false_iff_not, Bool.not_eq_true', Bool.not_eq_false', Bool.not_true, Bool.not_false, Bool.and_eq_true, Bool.or_eq_true, bne_iff_ne, beq_iff_eq, ne_eq]); (try simp only [rng, lo, hi, mnI, mxI, Int.toNat_natCast, Sg.n, Nat.mul_one, Nat.zero_add, Nat.add_zero, Nat.reduceAdd, List.getD_cons_zero, List.getD_cons_succ, hby, empty_size]))
    ((repeat' (first | (with_reducible apply And.intro) | intro _)); all_goals (first | exact trivial | (with_reducible assumption) | (show (_ : List Blk) = _; rfl) | (first | exact trivial | (with_reducible assumption) | omega | (split <;> omega) | (split <;> split <;> omega)) | skip); all_goals (try (refine ⟨rfl, (by first | exact Nat.le_refl _ | exact Nat.le_of_ble_eq_true rfl), rfl, rfl, ?_, (by repeat' (first | exact trivial | rfl | apply And.intro)), rfl, rfl⟩)))
    all_goals (try first | omega | exact ⟨⟨rfl, rfl⟩, rfl⟩)
    all_goals (first | exact absurd ⟨by omega, by omega, fun h => by omega⟩ h0 | exact absurd ⟨by omega, by omega, fun h => absurd h (by assumption)⟩ h0)
end Go.Proofs.YtplnfdgokpgbcaaDoor
