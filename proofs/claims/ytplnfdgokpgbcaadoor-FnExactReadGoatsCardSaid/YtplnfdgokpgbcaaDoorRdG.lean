/- A spot read from its text: the spec's test and the program's are one. -/
import Derived.Test.YtplnfdgokpgbcaaDoorRdF
namespace Go.Proofs.YtplnfdgokpgbcaaDoor
open Go Go.Eng
set_option linter.unusedSimpArgs false
set_option linter.unusedVariables false
set_option maxRecDepth 100000
set_option maxHeartbeats 4000000

theorem num_nosep {s : ByteArray} (h : numB s = true) : Lib.index s.data.toList [44] = -1 := by
  apply Classical.byContradiction
  intro e
  have hg := Lib.index_ge s.data.toList [44]
  have ei : Lib.index s.data.toList [44] = ((Lib.index s.data.toList [44]).toNat : Nat) := by omega
  rw [Lib.index_one] at ei
  obtain ⟨h1, -⟩ := Lib.indexByte_some ei
  have hm := List.mem_of_getElem? h1
  have := ((numB_iff s).1 h).1.2.1 _ hm
  unfold isD at this
  have e44 : (44 : UInt8).toNat = 44 := rfl
  omega
/-- What the spec asks of the text of a spot. -/
def spO (s : ByteArray) : Bool := decide ((splL s 44).length = 2) && (numI ((splL s 44).getD 0 ⟨#[]⟩) 9 && numI ((splL s 44).getD 1 ⟨#[]⟩) 9)
theorem rs_same (s : ByteArray) : rsO s = spO s ∧ (spO s = true → rsV (cutA s 44) = numK ((splL s 44).getD 0 ⟨#[]⟩) ((splL s 44).getD 0 ⟨#[]⟩).size ∧ rsV (cutZ s 44) = numK ((splL s 44).getD 1 ⟨#[]⟩) ((splL s 44).getD 1 ⟨#[]⟩).size) := by
  have e44 : (((44 : UInt8).toNat : Nat) : Int) = 44 := rfl
  by_cases h : (splL s 44).length = 2
  · obtain ⟨c1, c2⟩ := cut_two (s := s) (b := 44) (by rw [e44]; exact h)
    rw [e44] at c2
    have e : rsO s = spO s := by
      unfold rsO spO
      rw [c1, c2]; rfl
    refine ⟨e, fun ht => ?_⟩
    unfold spO at ht
    rw [c2] at ht ⊢
    simp only [Bool.and_eq_true] at ht
    exact ⟨if_pos ht.2.1, if_pos ht.2.2⟩
  · have hs : spO s = false := by unfold spO; rw [decide_eq_false h]; rfl
    refine ⟨?_, fun ht => by rw [hs] at ht; cases ht⟩
    rw [hs]
    unfold rsO
    by_cases e : Lib.index s.data.toList [44] = -1
    · have : cutF s 44 = false := by unfold cutF Lib.cut; rw [if_neg (by omega)]
      rw [this]; rfl
    · have hg := Lib.index_ge s.data.toList [44]
      have ei : Lib.index s.data.toList [44] = ((Lib.index s.data.toList [44]).toNat : Nat) := by omega
      have hz : (cutZ s 44).data.toList = s.data.toList.drop ((Lib.index s.data.toList [44]).toNat + 1) := by
        unfold cutZ Lib.cut
        rw [if_pos (by omega)]; rfl
      have hn : numI (cutZ s 44) 9 = false := by
        cases hh : numI (cutZ s 44) 9 with
        | false => rfl
        | true =>
          exfalso
          unfold numI at hh
          rw [Bool.and_eq_true] at hh
          have h1 := num_nosep hh.1
          rw [hz] at h1
          have h2 := spB_hit ei
          rw [spB_miss h1] at h2
          have h3 := splL_spB s 44
          rw [h2, e44] at h3
          apply h
          have := congrArg List.length h3
          simpa using this
      rw [hn, Bool.and_false]
end Go.Proofs.YtplnfdgokpgbcaaDoor
