/- A word of a fence's text: the spec's reading and the program's are one, plain. -/
import Derived.Test.YtplnfdgokpgbcaaDoorRdG
namespace Go.Proofs.YtplnfdgokpgbcaaDoor
open Go Go.Eng
set_option linter.unusedSimpArgs false
set_option linter.unusedVariables false
set_option maxRecDepth 100000
set_option maxHeartbeats 4000000

def chop (s : ByteArray) (b : Int) : ByteArray := if cutB s b = true then s.extract 0 (s.size - 1) else s
/-- The program: what is left of a word, and is it good. -/
def wdT (s : ByteArray) : ByteArray := chop (chop s 124) 95
def wdI (s : ByteArray) : Bool := rsO (wdT s) && (cutB s 124 != cutB (chop s 124) 95)
/-- The spec. -/
def wdU (s : ByteArray) : ByteArray := if cutB s 124 = true then chop s 124 else chop s 95
def wdO (s : ByteArray) : Bool := (cutB s 124 || cutB s 95) && spO (wdU s)
theorem bad_end {t : ByteArray} (h : cutB t 95 = true) : spO t = false := by
  rw [← (rs_same t).1]
  unfold rsO
  by_cases e : Lib.index t.data.toList [44] = -1
  · have : cutF t 44 = false := by unfold cutF Lib.cut; rw [if_neg (by omega)]
    rw [this]; rfl
  · have hg := Lib.index_ge t.data.toList [44]
    have ei : Lib.index t.data.toList [44] = ((Lib.index t.data.toList [44]).toNat : Nat) := by omega
    have hz : (cutZ t 44).data.toList = t.data.toList.drop ((Lib.index t.data.toList [44]).toNat + 1) := by
      unfold cutZ Lib.cut
      rw [if_pos (by omega)]; rfl
    have hn : numI (cutZ t 44) 9 = false := by
      cases hh : numI (cutZ t 44) 9 with
      | false => rfl
      | true =>
        exfalso
        unfold numI at hh
        rw [Bool.and_eq_true] at hh
        have hd := ((numB_iff _).1 hh.1).1.2.1
        rw [hz] at hd
        unfold cutB at h
        rw [decide_eq_true_eq, size_list, byA_list] at h
        have ej : Lib.indexByte t.data.toList 44 = ((Lib.index t.data.toList [44]).toNat : Nat) := (Lib.index_one _ _).symm.trans ei
        obtain ⟨h1, -⟩ := Lib.indexByte_some ej
        clear ej
        generalize (Lib.index t.data.toList [44]).toNat = i at *
        generalize t.data.toList = l at *
        obtain ⟨h2, h3⟩ := h
        have hil : i < l.length := (List.getElem?_eq_some_iff.1 h1).1
        have hne : i ≠ l.length - 1 := by
          intro e2
          rw [e2] at h1
          rw [List.getD_eq_getElem?_getD, h1] at h3
          have : ((44 : UInt8).toNat : Int) = 95 := h3
          exact absurd this (by decide)
        have hm : l.getD (l.length - 1) 0 ∈ l.drop (i + 1) := by
          rw [List.getD_eq_getElem?_getD, List.getElem?_eq_getElem (by omega)]
          have e3 : (l.drop (i + 1))[l.length - 1 - (i + 1)]? = l[l.length - 1]? := by
            rw [List.getElem?_drop]; congr 1; omega
          rw [List.getElem?_eq_getElem (show l.length - 1 < l.length by omega)] at e3
          exact List.mem_of_getElem? e3
        have := hd _ hm
        unfold isD at this
        omega
    rw [hn, Bool.and_false]
theorem wd_same (s : ByteArray) : wdI s = wdO s ∧ (wdO s = true → wdT s = wdU s ∧ cutB (chop s 124) 95 = (!cutB s 124)) := by
  unfold wdI wdO wdT wdU
  rw [(rs_same _).1]
  cases h1 : cutB s 124 with
  | true =>
    cases h2 : cutB (chop s 124) 95 with
    | true =>
      have := bad_end h2
      simp [this]
    | false =>
      have e : chop (chop s 124) 95 = chop s 124 := by rw [chop, h2, if_neg (by decide)]
      simp [e]
  | false =>
    have e : chop s 124 = s := by rw [chop, h1, if_neg (by decide)]
    rw [e]
    cases h2 : cutB s 95 with
    | true => simp
    | false => simp
end Go.Proofs.YtplnfdgokpgbcaaDoor
