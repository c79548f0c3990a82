/- Texts taken apart: the program's calls of the library, by the kit's contracts. -/
import Derived.Test.YtplnfdgokpgbcaaDoorRdP
namespace Go.Proofs.YtplnfdgokpgbcaaDoor
open Go Go.Eng
set_option linter.unusedSimpArgs false
set_option linter.unusedVariables false
set_option maxRecDepth 100000
set_option maxHeartbeats 4000000

/-- A suffix of one byte. -/
def csfS : Fun
  | [.s s, .s p], [] => some (.t2 (.s (if cutB s (byA p 0) = true then s.extract 0 (s.size - 1) else s)) (.b (cutB s (byA p 0))), [], [p.size = 1 ∧ s.size ≤ 1073741000])
  | _, _ => .none
theorem one_byte {p : ByteArray} (h : p.size = 1) : ∃ b : UInt8, p = ⟨#[b]⟩ ∧ byA p 0 = (b.toNat : Int) := by
  obtain ⟨⟨l⟩⟩ := p
  match l, h with
  | [b], _ => exact ⟨b, rfl, rfl⟩
theorem s_cutSuffix : Sound Tryd.prog 68 csfS := by
  intro args M r M' vs h hvs
  unfold csfS at h
  split at h
  case h_2 => cases h
  rename_i s p
  cases h
  obtain ⟨⟨h1, h2⟩, -⟩ := hvs
  obtain ⟨b, rfl, hb⟩ := one_byte h1
  rw [hb]
  intro ρ vals w hD hM hid
  match vals, hD with
  | [v, u], ⟨hv, hu, _⟩ =>
  obtain ⟨rfl, hsz⟩ := hv
  obtain ⟨rfl, -⟩ := hu
  refine (Any.strings_CutSuffix Tryd.lays104 s ⟨#[b]⟩ w (by omega)).mono ?_
  rintro e w' ⟨rfl, rfl⟩
  have e1 := suf_one s b
  have e2 := trim_one s b
  refine ⟨_, ρ, rfl, ⟨_, _, rfl, ⟨by rw [← e2], ?_⟩, by rw [← e1]; rfl⟩, After.refl hM, fun i hi => (by simp [AV.ids] at hi)⟩
  split
  · show (s.extract 0 (s.size - 1)).size ≤ _
    rw [ByteArray.size_extract]; omega
  · exact hsz
/-! Split. -/
theorem ext_size (s : ByteArray) (a b : Nat) : (s.extract a b).size ≤ s.size := by rw [ByteArray.size_extract]; omega
theorem splK_size (s : ByteArray) (b : Int) : ∀ i, ∀ x ∈ (splK s b i).1, x.size ≤ s.size := by
  intro i
  induction i with
  | zero => intro x hx; cases hx
  | succ i ih =>
    intro x hx
    unfold splK at hx
    split at hx
    · rcases List.mem_append.1 hx with hx | hx
      · exact ih x hx
      · rw [List.mem_singleton.1 hx]; exact ext_size _ _ _
    · exact ih x hx
theorem splL_size (s : ByteArray) (b : Int) : ∀ x ∈ splL s b, x.size ≤ s.size := by
  intro x hx
  rcases List.mem_append.1 hx with hx | hx
  · exact splK_size s b _ x hx
  · rw [List.mem_singleton.1 hx]; exact ext_size _ _ _
theorem splL_len (s : ByteArray) (b : Int) : (splL s b).length ≤ s.size + 1 := by
  unfold splL
  have := (splK_le s b s.size).2
  rw [List.length_append]; show _ + 1 ≤ _; omega
def splitOS : Fun
  | [.s s, .s p], [] => some (.ow 0 (splL s (byA p 0)).length .str 9, [.s (splL s (byA p 0))], [p.size = 1 ∧ s.size ≤ 1073741000])
  | _, _ => .none
theorem s_split : Sound Tryd.prog 67 splitOS := by
  intro args M r M' vs h hvs
  unfold splitOS at h
  split at h
  case h_2 => cases h
  rename_i s p
  cases h
  obtain ⟨⟨h1, h2⟩, -⟩ := hvs
  obtain ⟨b, rfl, hb⟩ := one_byte h1
  rw [hb]
  intro ρ vals w hD hM hid
  match vals, hD with
  | [v, u], ⟨hv, hu, _⟩ =>
  obtain ⟨rfl, hsz⟩ := hv
  obtain ⟨rfl, -⟩ := hu
  obtain ⟨-, ⟨m, hm⟩, -⟩ := ρ.ok w fun k o hk => (hM.env k o hk).1
  refine (Any.strings_Split Tryd.lays146 (by kernel_rfl) s ⟨#[b]⟩ m w (by omega) hm (Nat.le_refl 1)).mono ?_
  rintro e w' ⟨rfl, rfl⟩
  have hlen := Lib.splitB_all ⟨#[b]⟩ (Nat.le_refl 1) 0 _ s rfl
  rw [split_same] at hlen
  rw [← hlen, split_same]
  have hsize := splL_size s (b.toNat : Int)
  have hl := splL_len s (b.toNat : Int)
  generalize splL s (b.toNat : Int) = L at *
  have hA := After.alloc hM (l := ⟨w.heap.size, L.length, L.length, .str, 9⟩) (b := .s L) (o := .cells (L.map Value.string).toArray 9 (0, 0)) rfl
    ⟨_, rfl, by simp, rfl, rfl, Nat.le_refl _, fun j x hj => ⟨by simp [hj], Nat.le_trans (hsize x (List.mem_of_getElem? hj)) hsz⟩⟩ (fun vs e => by cases e)
  refine ⟨_, _, rfl, ⟨L.length, rfl, Nat.le_refl _, by show _ ≤ 9223372036854775807; omega, rfl, by decide, (Nat.mul_one _).symm, (Nat.mul_one _).symm, rfl⟩, hA, fun i hii => ?_⟩
  simp [AV.ids] at hii
  subst hii
  exact Nat.zero_lt_one

/-! A number of the program. -/
theorem dec_calls (n : Int) (h0 : -9223372036854775808 ≤ n) (h1 : n ≤ 9223372036854775807) (w : World) (htab : Lib.TabIs Tryd.prog w "internal/strconv.uint64pow10" .u64 Lib.pow10Tab) :
    Calls Tryd.prog 37 #[.int .i64 n] w fun e w' => e = .returned (.string ⟨(Lib.itoa n).toArray⟩) ∧ ∃ k os, w' = Go.Sort.grow (w.drewN k) os := by
  have ef : ∀ args w, (callFunc 80 args).run Tryd.prog w = .ok (.enter 80 args) w := enters_of Tryd.func80 (by kernel_rfl) rfl
  go_enter Tryd.func37, Tryd.ntmps37
  go_wp2_with (go_at_call 80; refine (Any.strconv_FormatInt_10 Tryd.laysM173 n h0 h1 _ htab).mono ?_; rintro e w' ⟨rfl, k, os, rfl⟩)
  go_ret
  exact ⟨rfl, k, os, rfl⟩
theorem within_calls (a b c : Int) (w : World) : Calls Tryd.prog 79 #[.int .i64 a, .int .i64 b, .int .i64 c] w fun e w' => e = .returned (.bool (decide (b ≤ a ∧ a ≤ c))) ∧ w' = w := by
  have h1 : ¬ b ≤ a → decide (b ≤ a ∧ a ≤ c) = false := fun h => decide_eq_false fun g => h g.1
  have h2 : b ≤ a → decide (b ≤ a ∧ a ≤ c) = decide (a ≤ c) := fun h => by rw [decide_eq_decide]; exact ⟨fun g => g.2, fun g => ⟨h, g⟩⟩
  generalize decide (b ≤ a ∧ a ≤ c) = r at *
  go_enter Tryd.func79, Tryd.ntmps79
  go_wp2
  · rename_i h
    go_ret
    exact ⟨rfl, rfl⟩
  · rename_i h
    go_ret
    exact ⟨rfl, rfl⟩
end Go.Proofs.YtplnfdgokpgbcaaDoor
