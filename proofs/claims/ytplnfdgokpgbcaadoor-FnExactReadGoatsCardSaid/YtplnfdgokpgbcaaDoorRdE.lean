/- strings.Cut at one byte; what is behind the first separator. -/
import Derived.Test.YtplnfdgokpgbcaaDoorRdD
namespace Go.Proofs.YtplnfdgokpgbcaaDoor
open Go Go.Eng
set_option linter.unusedSimpArgs false
set_option linter.unusedVariables false
set_option maxRecDepth 100000
set_option maxHeartbeats 4000000

/-- Before, behind, found. -/
def cutA (s : ByteArray) (b : UInt8) : ByteArray := ⟨(Lib.cut s.data.toList [b]).1.toArray⟩
def cutZ (s : ByteArray) (b : UInt8) : ByteArray := ⟨(Lib.cut s.data.toList [b]).2.1.toArray⟩
def cutF (s : ByteArray) (b : UInt8) : Bool := (Lib.cut s.data.toList [b]).2.2
theorem cut_size (s : ByteArray) (b : UInt8) : (cutA s b).size ≤ s.size ∧ (cutZ s b).size ≤ s.size := by
  unfold cutA cutZ Lib.cut
  rw [size_list, size_list, size_list]
  split
  · constructor <;> simp <;> omega
  · simp
theorem cut_two {s : ByteArray} {b : UInt8} (h : (splL s (b.toNat : Int)).length = 2) : cutF s b = true ∧ splL s (b.toNat : Int) = [cutA s b, cutZ s b] := by
  have hs := splL_spB s b
  have hl : (spB b s.data.toList).length = 2 := by rw [← hs, List.length_map]; exact h
  by_cases e : Lib.index s.data.toList [b] = -1
  · rw [spB_miss e] at hl; simp at hl
  · have hg := Lib.index_ge s.data.toList [b]
    have ei : Lib.index s.data.toList [b] = ((Lib.index s.data.toList [b]).toNat : Nat) := by omega
    have h1 := spB_hit ei
    rw [h1] at hl hs
    have hl1 : (spB b (s.data.toList.drop ((Lib.index s.data.toList [b]).toNat + 1))).length = 1 := by simpa using hl
    have h2 : spB b (s.data.toList.drop ((Lib.index s.data.toList [b]).toNat + 1)) = [s.data.toList.drop ((Lib.index s.data.toList [b]).toNat + 1)] := by
      by_cases e2 : Lib.index (s.data.toList.drop ((Lib.index s.data.toList [b]).toNat + 1)) [b] = -1
      · exact spB_miss e2
      · exfalso
        have hg2 := Lib.index_ge (s.data.toList.drop ((Lib.index s.data.toList [b]).toNat + 1)) [b]
        have h3 := spB_hit (b := b) (l := s.data.toList.drop ((Lib.index s.data.toList [b]).toNat + 1)) (i := (Lib.index (s.data.toList.drop ((Lib.index s.data.toList [b]).toNat + 1)) [b]).toNat) (by omega)
        rw [h3] at hl1
        have := spB_ne b ((s.data.toList.drop ((Lib.index s.data.toList [b]).toNat + 1)).drop ((Lib.index (s.data.toList.drop ((Lib.index s.data.toList [b]).toNat + 1)) [b]).toNat + 1))
        cases hh : spB b ((s.data.toList.drop ((Lib.index s.data.toList [b]).toNat + 1)).drop ((Lib.index (s.data.toList.drop ((Lib.index s.data.toList [b]).toNat + 1)) [b]).toNat + 1)) with
        | nil => exact this hh
        | cons x y => rw [hh] at hl1; simp at hl1
    rw [h2] at hs
    have hc : Lib.cut s.data.toList [b] = (s.data.toList.take (Lib.index s.data.toList [b]).toNat, s.data.toList.drop ((Lib.index s.data.toList [b]).toNat + 1), true) := by
      unfold Lib.cut
      rw [if_pos (by omega)]; rfl
    refine ⟨by unfold cutF; rw [hc], ?_⟩
    apply List.map_inj_right (f := fun x : ByteArray => x.data.toList) (fun _ _ e => ba_ext e) |>.1
    rw [hs]
    unfold cutA cutZ
    rw [hc]; rfl
def cutOS : Fun
  | [.s s, .s p], [] => some (.t3 (.s (cutA s (p.data.getD 0 0))) (.s (cutZ s (p.data.getD 0 0))) (.b (cutF s (p.data.getD 0 0))), [], [p.size = 1 ∧ s.size ≤ 1073741000])
  | _, _ => .none
theorem s_cut : Sound Tryd.prog 95 cutOS := by
  intro args M r M' vs h hvs
  unfold cutOS at h
  split at h
  case h_2 => cases h
  rename_i s p
  cases h
  obtain ⟨⟨h1, h2⟩, -⟩ := hvs
  obtain ⟨b, rfl, hb⟩ := one_byte h1
  intro ρ vals w hD hM hid
  match vals, hD with
  | [v, u], ⟨hv, hu, _⟩ =>
  obtain ⟨rfl, hsz⟩ := hv
  obtain ⟨rfl, -⟩ := hu
  obtain ⟨-, ⟨m, hm⟩, -⟩ := ρ.ok w fun k o hk => (hM.env k o hk).1
  refine (Any.strings_Cut Tryd.lays145 s ⟨#[b]⟩ m w (by omega) hm).mono ?_
  rintro e w' ⟨rfl, n, rfl⟩
  obtain ⟨c1, c2⟩ := cut_size s b
  exact ⟨_, ρ, rfl, ⟨_, _, _, rfl, ⟨rfl, Nat.le_trans c1 hsz⟩, ⟨rfl, Nat.le_trans c2 hsz⟩, rfl⟩, After.quiet hM ⟨rfl, rfl, rfl, Nat.le_refl _, fun _ _ => rfl⟩, fun i hii => (by simp [AV.ids] at hii)⟩
end Go.Proofs.YtplnfdgokpgbcaaDoor
