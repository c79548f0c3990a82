/- A fence read from its text, plain: what is good and which hurdles there are. -/
import Derived.Test.YtplnfdgokpgbcaaDoorRdH
namespace Go.Proofs.YtplnfdgokpgbcaaDoor
open Go Go.Eng
set_option linter.unusedSimpArgs false
set_option linter.unusedVariables false
set_option maxRecDepth 100000
set_option maxHeartbeats 4000000

/-- A hurdle of a word: the program. -/
def hwI (s : ByteArray) : List Int := [rsV (cutA (wdT s) 44), rsV (cutZ (wdT s) 44), if cutB (chop s 124) 95 = true then 1 else 0]
/-- The spec: the two numerals, and on which side. -/
def hwO (s : ByteArray) : List Int := [numK ((splL (wdU s) 44).getD 0 ⟨#[]⟩) ((splL (wdU s) 44).getD 0 ⟨#[]⟩).size, numK ((splL (wdU s) 44).getD 1 ⟨#[]⟩) ((splL (wdU s) 44).getD 1 ⟨#[]⟩).size, if (!cutB s 124) = true then 1 else 0]
theorem hw_same {s : ByteArray} (h : wdO s = true) : hwI s = hwO s := by
  obtain ⟨h1, h2⟩ := (wd_same s).2 h
  have h3 : spO (wdU s) = true := by
    unfold wdO at h
    exact (Bool.and_eq_true _ _ ▸ h).2
  obtain ⟨h4, h5⟩ := (rs_same (wdU s)).2 h3
  unfold hwI hwO
  rw [h1, h2, h4, h5]
/-- Is a fence's text good. -/
def fenO (s : ByteArray) : Bool := decide (s.size = 0) || (decide ((splL s 32).length ≤ 180) && (splL s 32).all wdO)
/-- Its hurdles. -/
def fenL (s : ByteArray) : List (List Int) := if s.size = 0 then [] else (splL s 32).map hwO
def fenN (ws : List ByteArray) (i : Nat) : List (List Int) := (ws.take i).map hwO
theorem fenN_len {ws : List ByteArray} {i : Nat} (h : i ≤ ws.length) : (fenN ws i).length = i := by
  unfold fenN; rw [List.length_map, List.length_take]; omega
theorem fenN_succ {ws : List ByteArray} {i : Nat} (h : i < ws.length) : fenN ws (i + 1) = fenN ws i ++ [hwO (ws.getD i ⟨#[]⟩)] := by
  unfold fenN
  rw [List.take_add_one, List.map_append, List.getElem?_eq_getElem h, List.getD_eq_getElem?_getD, List.getElem?_eq_getElem h]; rfl
theorem fenN_all {ws : List ByteArray} : fenN ws ws.length = ws.map hwO := by unfold fenN; rw [List.take_length]
theorem all_at {ws : List ByteArray} (h : ws.all wdO = true) {i : Nat} (hi : i < ws.length) : wdO (ws.getD i ⟨#[]⟩) = true := by
  rw [List.getD_eq_getElem?_getD, List.getElem?_eq_getElem hi]
  exact List.all_eq_true.1 h _ (List.getElem_mem hi)
theorem all_of {ws : List ByteArray} (h : ∀ i, i < ws.length → wdO (ws.getD i ⟨#[]⟩) = true) : ws.all wdO = true := by
  rw [List.all_eq_true]
  intro x hx
  obtain ⟨i, hi, rfl⟩ := List.getElem_of_mem hx
  have := h i hi
  rw [List.getD_eq_getElem?_getD, List.getElem?_eq_getElem hi] at this
  exact this
theorem fenO_pos {s : ByteArray} (h0 : ¬ s.size = 0) (h : fenO s = true) : (splL s 32).length ≤ 180 ∧ ∀ i, i < (splL s 32).length → wdO ((splL s 32).getD i ⟨#[]⟩) = true := by
  unfold fenO at h
  rw [decide_eq_false h0, Bool.false_or, Bool.and_eq_true, decide_eq_true_eq] at h
  exact ⟨h.1, fun i hi => all_at h.2 hi⟩
theorem fenO_neg {s : ByteArray} (h : fenO s = false) : ¬ s.size = 0 ∧ ¬ ((splL s 32).length ≤ 180 ∧ ∀ i, i < (splL s 32).length → wdO ((splL s 32).getD i ⟨#[]⟩) = true) := by
  unfold fenO at h
  rw [Bool.or_eq_false_iff, decide_eq_false_iff_not, Bool.and_eq_false_iff, decide_eq_false_iff_not] at h
  refine ⟨h.1, fun g => ?_⟩
  rcases h.2 with h2 | h2
  · exact h2 g.1
  · rw [all_of g.2] at h2; cases h2
/-- One step of the program at a word. -/
theorem wdI_eq (s : ByteArray) : (rsO (wdT s) && (cutB s 124 != cutB (chop s 124) 95)) = wdO s := (wd_same s).1
theorem splL_pos (s : ByteArray) (b : Int) : 0 < (splL s b).length := by unfold splL; rw [List.length_append]; show 0 < _ + 1; omega
/-- The number of a numeral, 0 where there is none. -/
def nv (s : ByteArray) : Int := if numB s = true then numK s s.size else 0
theorem nv_rng (s : ByteArray) : 0 ≤ nv s ∧ nv s < 1000000000 := by
  unfold nv
  split
  · rename_i h
    have h2 : 0 < s.size ∧ s.size ≤ 9 ∧ (byA s 0 = 48 → s.size = 1) ∧ ∀ i, i < s.size → digB s i = true := by unfold numB at h; exact of_decide_eq_true h
    have h3 := numK_rng s.size h2.2.1 h2.2.2.2
    have h4 : (10 : Nat) ^ s.size ≤ 10 ^ 9 := Nat.pow_le_pow_right (by decide) h2.2.1
    omega
  · omega
def pa (s : ByteArray) : ByteArray := (splL s 44).getD 0 ⟨#[]⟩
def pb (s : ByteArray) : ByteArray := (splL s 44).getD 1 ⟨#[]⟩
theorem spO_iff (s : ByteArray) : spO s = true ↔ (((splL s 44).length : Int) = 2 ∧ numB (pa s) = true ∧ numB (pb s) = true ∧ ¬ 10 ≤ nv (pa s) ∧ ¬ 10 ≤ nv (pb s)) := by
  unfold spO numI
  show (decide _ && ((numB (pa s) && decide (numK (pa s) (pa s).size ≤ 9)) && (numB (pb s) && decide (numK (pb s) (pb s).size ≤ 9)))) = true ↔ _
  simp only [Bool.and_eq_true, decide_eq_true_eq]
  constructor
  · rintro ⟨h1, ⟨h2, h3⟩, h4, h5⟩
    refine ⟨by omega, h2, h4, ?_, ?_⟩
    · unfold nv; rw [if_pos h2]; omega
    · unfold nv; rw [if_pos h4]; omega
  · rintro ⟨h1, h2, h4, h3, h5⟩
    unfold nv at h3 h5
    rw [if_pos h2] at h3
    rw [if_pos h4] at h5
    exact ⟨by omega, ⟨h2, by omega⟩, h4, by omega⟩
theorem hwO_eq {s : ByteArray} (h : wdO s = true) : hwO s = [nv (pa (wdU s)), nv (pb (wdU s)), if (!cutB s 124) = true then 1 else 0] := by
  unfold wdO at h
  rw [Bool.and_eq_true] at h
  obtain ⟨-, h1, h2, -, -⟩ := (spO_iff _).1 h.2
  unfold nv
  rw [if_pos h1, if_pos h2]; rfl
theorem wdO_pipe {s : ByteArray} (h : cutB s 124 = true) : wdO s = spO (chop s 124) := by
  unfold wdO wdU; rw [h]; rfl
theorem wdO_line {s : ByteArray} (h : cutB s 124 = false) : wdO s = (cutB s 95 && spO (chop s 95)) := by
  unfold wdO wdU; rw [h]; rfl
theorem wdU_pipe {s : ByteArray} (h : cutB s 124 = true) : wdU s = chop s 124 := by unfold wdU; rw [h]; rfl
theorem wdU_line {s : ByteArray} (h : cutB s 124 = false) : wdU s = chop s 95 := by unfold wdU; rw [h]; rfl
theorem no_ft {p : Prop} (h : (false : Bool) = true) : p := by cases h
theorem no_tf {p : Prop} (h : (true : Bool) = false) : p := by cases h
end Go.Proofs.YtplnfdgokpgbcaaDoor
