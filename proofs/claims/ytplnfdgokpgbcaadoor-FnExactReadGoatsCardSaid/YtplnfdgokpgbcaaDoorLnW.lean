/- The library's pieces of a range over a text's lines. -/
import Derived.Test.YtplnfdgokpgbcaaDoorLnP
import Derived.Test.YtplnfdgokpgbcaaDoorLnLay
import Derived.Test.YtplnfdgokpgbcaaDoorEngG
namespace Go.Proofs.YtplnfdgokpgbcaaDoor
open Go Go.Eng
set_option linter.unusedSimpArgs false
set_option linter.unusedVariables false
set_option maxRecDepth 100000
set_option maxHeartbeats 4000000

def ixS : Fun
  | [.s s, .i .u8 c], [] => some (.i .i64 (ixL s), [], [c = 10 ∧ s.size ≤ 1073741000])
  | _, _ => .none
theorem s_indexByte : Sound Tryd.prog 99 ixS := by
  intro args M r M' vs h hvs
  unfold ixS at h
  split at h
  case h_2 => cases h
  rename_i s c
  cases h
  obtain ⟨⟨rfl, h2⟩, -⟩ := hvs
  intro ρ vals w hD hM hid
  match vals, hD with
  | [v, u], ⟨hv, hu, _⟩ =>
  obtain ⟨rfl, hsz⟩ := hv
  obtain ⟨rfl, -⟩ := hu
  refine (Any.strings_IndexByte Tryd.lays137 s 10 w).mono ?_
  rintro e w' ⟨rfl, rfl⟩
  have hb := ixL_bounds s
  exact ⟨_, ρ, rfl, ⟨rfl, by show (-9223372036854775808 : Int) ≤ _ ∧ _ ≤ (9223372036854775807 : Int); omega⟩, After.refl hM, fun i hi => (by simp [AV.ids] at hi)⟩
def trS : Fun
  | [.s s, .s p], [] => some (.s (lnC s), [], [p = ⟨#[10]⟩ ∧ s.size ≤ 1073741000])
  | _, _ => .none
theorem lnC_size (x : ByteArray) : (lnC x).size ≤ x.size := by
  unfold lnC
  split
  · exact ext_size _ _ _
  · exact Nat.le_refl _
theorem s_trimSuffix : Sound Tryd.prog 73 trS := by
  intro args M r M' vs h hvs
  unfold trS at h
  split at h
  case h_2 => cases h
  rename_i s p
  cases h
  obtain ⟨⟨rfl, h2⟩, -⟩ := hvs
  intro ρ vals w hD hM hid
  match vals, hD with
  | [v, u], ⟨hv, hu, _⟩ =>
  obtain ⟨rfl, hsz⟩ := hv
  obtain ⟨rfl, -⟩ := hu
  refine (Any.strings_TrimSuffix Tryd.lays102 s ⟨#[10]⟩ w (by omega)).mono ?_
  rintro e w' ⟨rfl, rfl⟩
  have e2 := trim_one s 10
  exact ⟨_, ρ, rfl, ⟨congrArg Value.string e2, Nat.le_trans (lnC_size s) hsz⟩, After.refl hM, fun i hi => (by simp [AV.ids] at hi)⟩
def linesS : Fun
  | [.s s], [] => some (.fn 98 [(0, .str)], [.s [s]], [])
  | _, _ => .none
set_option maxRecDepth 100000 in
theorem s_lines : Sound Tryd.prog 71 linesS := by
  intro args M r M' vs h hvs
  unfold linesS at h
  split at h
  case h_2 => cases h
  rename_i s
  cases h
  refine SpecOK.assume fun hA hM => ?_
  have htb := (TbOk.nil : TbOk Tryd.prog tb0)
  refine SpecOK.of_goes [0] Tryd.func71 rfl ?_
  clear hA hM
  refine Goes.tree Γ_ok htb 1000 false false Tryd.func71 rfl ?_
  ((try simp only [decide_eq_true_eq, decide_eq_false_iff_not, Bool.not_eq_true', Bool.not_eq_false', Bool.not_true, Bool.not_false, Bool.and_eq_true, Bool.or_eq_true, bne_iff_ne, beq_iff_eq, ne_eq]); (try simp only [rng, lo, hi, mnI, mxI, Int.toNat_natCast, Sg.n, Nat.mul_one, Nat.zero_add, Nat.add_zero, Nat.reduceAdd, List.getD_cons_zero, List.getD_cons_succ]))
  ((repeat' (first | (with_reducible apply And.intro) | intro _)); all_goals (first | exact trivial | (with_reducible assumption) | (show (_ : List Blk) = _; rfl) | (first | exact trivial | (with_reducible assumption) | omega | (split <;> omega) | (split <;> split <;> omega)) | skip); all_goals (try (refine ⟨rfl, (by first | exact Nat.le_refl _ | exact Nat.le_of_ble_eq_true rfl), rfl, rfl, ?_, (by repeat' (first | exact trivial | rfl | apply And.intro)), rfl, rfl⟩)))
  exact sameA_refl _
/-- The text of goats that one has made. -/
def goaO : Fun
  | [.ow 0 n .goat 74], [.l .goat rows] => some (.s (goaT rows), [.l .goat rows], [n = rows.length ∧ rows.length ≤ 1073741824])
  | _, _ => .none
theorem s_goatsO : Sound Tryd.prog 15 goaO := by
  intro args M r M' vs h hvs
  unfold goaO at h
  split at h
  case h_2 => cases h
  rename_i n rows
  cases h
  obtain ⟨⟨rfl, h2⟩, -⟩ := hvs
  have h0 : SpecOK Tryd.prog 15 [.fs .goat rows] [] (.s (goaT rows)) [] := s_implGoats _ _ _ _ _ rfl ⟨h2, trivial⟩
  exact lend (pre := []) (post := []) (n := rows.length) (e := 74) h0 rfl (fun x hx => by cases hx) (fun x hx => by cases hx)
end Go.Proofs.YtplnfdgokpgbcaaDoor
