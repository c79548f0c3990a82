/- The text of a fence: the spec and the program. -/
import Derived.Test.YtplnfdgokpgbcaaDoorTxt
namespace Go.Proofs.YtplnfdgokpgbcaaDoor
open Go Go.Eng
set_option linter.unusedSimpArgs false
set_option linter.unusedVariables false
set_option maxRecDepth 100000
set_option maxHeartbeats 4000000

set_option maxRecDepth 100000 in
theorem s_szHurdleS : Sound Tryd.prog 17 (szS .hur) := by
  intro args M r M' vs h hvs
  obtain ⟨xs, n, rfl, rfl, rfl, rfl, rfl⟩ := szS_inv h
  obtain ⟨hl, -⟩ := hvs
  refine SpecOK.assume fun hA hM => ?_
  have htb := (TbOk.nil : TbOk Tryd.prog tb0)
  refine SpecOK.of_goes [] Tryd.func17 rfl ?_
  have hm : xs.length ≤ maxLen := hA.1
  have hm' : maxLen = 9223372036854775807 := rfl
  have hn : rng .i64 n := hA.2.2.1
  simp only [rng, lo, hi] at hn
  clear hA hM
  refine Goes.tree Γ_ok htb 1000 false false Tryd.func17 rfl ?_
  ((try simp only [decide_eq_true_eq, decide_eq_false_iff_not, Bool.not_eq_true', Bool.not_eq_false', Bool.not_true, Bool.not_false, Bool.and_eq_true, Bool.or_eq_true, bne_iff_ne, beq_iff_eq, ne_eq]); (try simp only [rng, lo, hi, mnI, mxI, Int.toNat_natCast, Sg.n, Nat.mul_one, Nat.zero_add, Nat.add_zero, Nat.reduceAdd, List.getD_cons_zero, List.getD_cons_succ]))
  ((repeat' (first | (with_reducible apply And.intro) | intro _)); all_goals (first | exact trivial | (with_reducible assumption) | (show (_ : List Blk) = _; rfl) | (first | exact trivial | (with_reducible assumption) | omega | (split <;> omega) | (split <;> split <;> omega)) | skip); all_goals (try (refine ⟨rfl, (by first | exact Nat.le_refl _ | exact Nat.le_of_ble_eq_true rfl), rfl, rfl, ?_, (by repeat' (first | exact trivial | rfl | apply And.intro)), rfl, rfl⟩)))
  · unfold szN; rw [if_pos (by omega)]; exact sameA_refl _
  · unfold szN; rw [if_neg (by omega)]; exact sameA_refl _

set_option maxRecDepth 100000 in
theorem s_toHurdleS : Sound Tryd.prog 19 (listS .hur) := by
  intro args M r M' vs h hvs
  obtain ⟨xs, rfl, rfl, rfl, rfl, rfl⟩ := listS_inv h
  obtain ⟨hl, -⟩ := hvs
  refine SpecOK.assume fun hA hM => ?_
  have htb := (TbOk.cons s_toHurdle Tryd.func53 rfl rfl (TbOk.nil : TbOk Tryd.prog tb0))
  refine SpecOK.of_goes [] Tryd.func19 rfl ?_
  clear hA hM
  refine Goes.tree Γ_ok htb 1000 true false Tryd.func19 rfl ?_
  ((try simp only [decide_eq_true_eq, decide_eq_false_iff_not, Bool.not_eq_true', Bool.not_eq_false', Bool.not_true, Bool.not_false, Bool.and_eq_true, Bool.or_eq_true, bne_iff_ne, beq_iff_eq, ne_eq]); (try simp only [rng, lo, hi, mnI, mxI, Int.toNat_natCast, Sg.n, Nat.mul_one, Nat.zero_add, Nat.add_zero, Nat.reduceAdd, List.getD_cons_zero, List.getD_cons_succ]))
  ((repeat' (first | (with_reducible apply And.intro) | intro _)); all_goals (first | exact trivial | (with_reducible assumption) | (show (_ : List Blk) = _; rfl) | (first | exact trivial | (with_reducible assumption) | omega | (split <;> omega) | (split <;> split <;> omega)) | skip); all_goals (try (refine ⟨rfl, (by first | exact Nat.le_refl _ | exact Nat.le_of_ble_eq_true rfl), rfl, rfl, ?_, (by repeat' (first | exact trivial | rfl | apply And.intro)), rfl, rfl⟩)))
  refine ⟨?_⟩
  refine Goes.loopR (fun i : Nat => xs.length - i) (fun i => i ≤ xs.length) (fun i => (.fs .hur xs :: .any :: .any :: .ow 0 xs.length .hur 94 :: .i .i64 (i:Int) :: .any :: .any :: .any :: .any :: .any :: .any :: .any :: .any :: .any :: .any :: .any :: .any :: .any :: .any :: .any :: .any :: .any :: .any :: [])) (fun i => [.l .hur (cpR xs (List.replicate xs.length (List.replicate Sg.hur.n 0)) i)]) 0 [0] (by omega) ⟨rfl, rfl, rfl, (by repeat' (first | exact trivial | rfl | apply And.intro)), (by repeat' (first | exact trivial | rfl | apply And.intro)), rfl, rfl, rfl⟩ fun i hle ih => ?_
  have hcl := cpR_len xs (List.replicate xs.length (List.replicate Sg.hur.n 0)) i
  rw [List.length_replicate] at hcl
  refine Goes.tree Γ_ok htb 1000 true false Tryd.func19 rfl ?_
  ((try simp only [decide_eq_true_eq, decide_eq_false_iff_not, Bool.not_eq_true', Bool.not_eq_false', Bool.not_true, Bool.not_false, Bool.and_eq_true, Bool.or_eq_true, bne_iff_ne, beq_iff_eq, ne_eq]); (try simp only [rng, lo, hi, mnI, mxI, Int.toNat_natCast, Sg.n, Nat.mul_one, Nat.zero_add, Nat.add_zero, Nat.reduceAdd, List.getD_cons_zero, List.getD_cons_succ]))
  ((repeat' (first | (with_reducible apply And.intro) | intro _)); all_goals (first | exact trivial | (with_reducible assumption) | (show (_ : List Blk) = _; rfl) | (first | exact trivial | (with_reducible assumption) | omega | (split <;> omega) | (split <;> split <;> omega)) | skip); all_goals (try (refine ⟨rfl, (by first | exact Nat.le_refl _ | exact Nat.le_of_ble_eq_true rfl), rfl, rfl, ?_, (by repeat' (first | exact trivial | rfl | apply And.intro)), rfl, rfl⟩)))
  · exact ⟨ih (i + 1) (by omega) (by omega) [0] _ _ ⟨rfl, rfl, rfl, (by repeat' (first | exact trivial | rfl | apply And.intro)), (by repeat' (first | exact trivial | rfl | apply And.intro)), rfl, rfl, rfl⟩⟩
  · obtain rfl : i = xs.length := by omega
    have e := cpR_all xs (List.replicate xs.length (List.replicate Sg.hur.n 0)) (by rw [List.length_replicate])
    have e' : cpR xs (List.replicate xs.length (List.replicate 3 0)) xs.length = xs := e
    rw [e']
    exact sameA_refl _

set_option maxRecDepth 100000 in
theorem s_eqHurdleE : Sound Tryd.prog 21 (refLS .hur) := by
  intro args M r M' vs h hvs
  obtain ⟨xs, rfl, rfl, rfl, rfl, hl⟩ := refLS_inv h hvs
  refine SpecOK.assume fun hA hM => ?_
  have htb := (TbOk.cons s_eqHurdle Tryd.func56 rfl rfl (TbOk.nil : TbOk Tryd.prog tb0))
  refine SpecOK.of_goes [] Tryd.func21 rfl ?_
  clear hA hM
  refine Goes.tree Γ_ok htb 1000 false false Tryd.func21 rfl ?_
  ((try simp only [decide_eq_true_eq, decide_eq_false_iff_not, Bool.not_eq_true', Bool.not_eq_false', Bool.not_true, Bool.not_false, Bool.and_eq_true, Bool.or_eq_true, bne_iff_ne, beq_iff_eq, ne_eq]); (try simp only [rng, lo, hi, mnI, mxI, Int.toNat_natCast, Sg.n, Nat.mul_one, Nat.zero_add, Nat.add_zero, Nat.reduceAdd, List.getD_cons_zero, List.getD_cons_succ]))
  ((repeat' (first | (with_reducible apply And.intro) | intro _)); all_goals (first | exact trivial | (with_reducible assumption) | (show (_ : List Blk) = _; rfl) | (first | exact trivial | (with_reducible assumption) | omega | (split <;> omega) | (split <;> split <;> omega)) | skip); all_goals (try (refine ⟨rfl, (by first | exact Nat.le_refl _ | exact Nat.le_of_ble_eq_true rfl), rfl, rfl, ?_, (by repeat' (first | exact trivial | rfl | apply And.intro)), rfl, rfl⟩)))
  · contradiction
  refine ⟨?_⟩
  refine Goes.loopR (fun i : Nat => xs.length - i) (fun i => i ≤ xs.length) (fun i => (.fs .hur xs :: .fs .hur xs :: .any :: .any :: .any :: .i .i64 (i:Int) :: .any :: .any :: .any :: .any :: .any :: .any :: .any :: .any :: .any :: .any :: .any :: .any :: .any :: .any :: .any :: .any :: .any :: .any :: .any :: .any :: .any :: [])) (fun i => []) 0 [] (by omega) ⟨rfl, rfl, rfl, (by repeat' (first | exact trivial | rfl | apply And.intro)), (by repeat' (first | exact trivial | rfl | apply And.intro)), rfl, rfl, rfl⟩ fun i hle ih => ?_
  refine Goes.tree Γ_ok htb 1000 false false Tryd.func21 rfl ?_
  ((try simp only [decide_eq_true_eq, decide_eq_false_iff_not, Bool.not_eq_true', Bool.not_eq_false', Bool.not_true, Bool.not_false, Bool.and_eq_true, Bool.or_eq_true, bne_iff_ne, beq_iff_eq, ne_eq]); (try simp only [rng, lo, hi, mnI, mxI, Int.toNat_natCast, Sg.n, Nat.mul_one, Nat.zero_add, Nat.add_zero, Nat.reduceAdd, List.getD_cons_zero, List.getD_cons_succ]))
  ((repeat' (first | (with_reducible apply And.intro) | intro _)); all_goals (first | exact trivial | (with_reducible assumption) | (show (_ : List Blk) = _; rfl) | (first | exact trivial | (with_reducible assumption) | omega | (split <;> omega) | (split <;> split <;> omega)) | skip); all_goals (try (refine ⟨rfl, (by first | exact Nat.le_refl _ | exact Nat.le_of_ble_eq_true rfl), rfl, rfl, ?_, (by repeat' (first | exact trivial | rfl | apply And.intro)), rfl, rfl⟩)))
  · exact ⟨ih (i + 1) (by omega) (by omega) [] _ _ ⟨rfl, rfl, rfl, (by repeat' (first | exact trivial | rfl | apply And.intro)), (by repeat' (first | exact trivial | rfl | apply And.intro)), rfl, rfl, rfl⟩⟩
  · exact sameA_refl _


/-- The text of a cell. -/
def spT (s : List Int) : ByteArray := digS (s.getD 0 0).toNat ++ ⟨#[44]⟩ ++ digS (s.getD 1 0).toNat
def inF (s : List Int) : Bool := decide (0 ≤ s.getD 0 0 ∧ s.getD 0 0 ≤ 9 ∧ 0 ≤ s.getD 1 0 ∧ s.getD 1 0 ≤ 9)
theorem inF_iff {s : List Int} : inF s = true ↔ 0 ≤ s.getD 0 0 ∧ s.getD 0 0 ≤ 9 ∧ 0 ≤ s.getD 1 0 ∧ s.getD 1 0 ≤ 9 := decide_eq_true_iff
theorem spT_len {s : List Int} (h : inF s = true) : (spT s).size ≤ 21 := by
  have := inF_iff.1 h
  have h1 := dig_len (s.getD 0 0).toNat
  have h2 := dig_len (s.getD 1 0).toNat
  unfold spT
  rw [ByteArray.size_append, ByteArray.size_append]
  show _ + 1 + _ ≤ 21
  omega
def decimalS : Fun
  | [.i .i64 n], [] => some (.s (digS n.toNat), [], [0 ≤ n ∧ n < 100])
  | _, _ => .none
set_option maxRecDepth 100000 in
theorem s_decimal : Sound Tryd.prog 37 decimalS := by
  intro args M r M' vs h hvs
  unfold decimalS at h
  split at h
  case h_2 => cases h
  rename_i n
  cases h
  refine SpecOK.assume fun hA hM => ?_
  have htb := (TbOk.cons s_fmt Tryd.func80 rfl rfl (TbOk.nil : TbOk Tryd.prog tb0))
  refine SpecOK.of_goes [] Tryd.func37 rfl ?_
  obtain ⟨⟨h0, h1⟩, -⟩ := hvs
  clear hA hM
  refine Goes.tree Γ_ok htb 1000 false false Tryd.func37 rfl ?_
  ((try simp only [decide_eq_true_eq, decide_eq_false_iff_not, Bool.not_eq_true', Bool.not_eq_false', Bool.not_true, Bool.not_false, Bool.and_eq_true, Bool.or_eq_true, bne_iff_ne, beq_iff_eq, ne_eq]); (try simp only [rng, lo, hi, mnI, mxI, Int.toNat_natCast, Sg.n, Nat.mul_one, Nat.zero_add, Nat.add_zero, Nat.reduceAdd, List.getD_cons_zero, List.getD_cons_succ]))
  ((repeat' (first | (with_reducible apply And.intro) | intro _)); all_goals (first | exact trivial | (with_reducible assumption) | (show (_ : List Blk) = _; rfl) | (first | exact trivial | (with_reducible assumption) | omega | (split <;> omega) | (split <;> split <;> omega)) | skip); all_goals (try (refine ⟨rfl, (by first | exact Nat.le_refl _ | exact Nat.le_of_ble_eq_true rfl), rfl, rfl, ?_, (by repeat' (first | exact trivial | rfl | apply And.intro)), rfl, rfl⟩)))
  all_goals (first | exact sameA_refl _ | trace_state)
def textS : Fun
  | [.ag .spot s], [] => some (.s (spT s), [], [inF s = true])
  | _, _ => .none
set_option maxRecDepth 100000 in
theorem s_text : Sound Tryd.prog 46 textS := by
  intro args M r M' vs h hvs
  unfold textS at h
  split at h
  case h_2 => cases h
  rename_i s
  cases h
  refine SpecOK.assume fun hA hM => ?_
  have htb := (TbOk.cons s_decimal Tryd.func37 rfl rfl (TbOk.nil : TbOk Tryd.prog tb0))
  refine SpecOK.of_goes [] Tryd.func46 rfl ?_
  obtain ⟨a, b, rfl⟩ := len2 hA.1
  obtain ⟨hs, -⟩ := hvs
  have hg := inF_iff.1 hs
  have h1 := dig_len a.toNat
  have h2 := dig_len b.toNat
  simp only [List.getD_cons_zero, List.getD_cons_succ] at hg
  clear hA hM
  refine Goes.tree Γ_ok htb 1000 false false Tryd.func46 rfl ?_
  ((try simp only [decide_eq_true_eq, decide_eq_false_iff_not, Bool.not_eq_true', Bool.not_eq_false', Bool.not_true, Bool.not_false, Bool.and_eq_true, Bool.or_eq_true, bne_iff_ne, beq_iff_eq, ne_eq]); (try simp only [rng, lo, hi, mnI, mxI, Int.toNat_natCast, Sg.n, Nat.mul_one, Nat.zero_add, Nat.add_zero, Nat.reduceAdd, List.getD_cons_zero, List.getD_cons_succ]))
  ((repeat' (first | (with_reducible apply And.intro) | intro _)); all_goals (first | exact trivial | (with_reducible assumption) | (show (_ : List Blk) = _; rfl) | (first | exact trivial | (with_reducible assumption) | omega | (split <;> omega) | (split <;> split <;> omega)) | skip); all_goals (try (refine ⟨rfl, (by first | exact Nat.le_refl _ | exact Nat.le_of_ble_eq_true rfl), rfl, rfl, ?_, (by repeat' (first | exact trivial | rfl | apply And.intro)), rfl, rfl⟩)))
  all_goals (first | exact sameA_refl _ | (show _ ≤ 9223372036854775807; simp only [ByteArray.size_append]; first | (show _ + 1 ≤ _; omega) | (show _ + 1 + _ ≤ _; omega)) | trace_state)
def inFS : Fun
  | [.ag .spot s], [] => some (.b (inF s), [], [])
  | _, _ => .none
set_option maxRecDepth 100000 in
theorem s_l03Spot : Sound Tryd.prog 51 inFS := by
  intro args M r M' vs h hvs
  unfold inFS at h
  split at h
  case h_2 => cases h
  rename_i s
  cases h
  refine SpecOK.assume fun hA hM => ?_
  have htb := (TbOk.cons s_l00In Tryd.func74 rfl rfl (TbOk.nil : TbOk Tryd.prog tb0))
  refine SpecOK.of_goes [] Tryd.func51 rfl ?_
  obtain ⟨a, b, rfl⟩ := len2 hA.1
  obtain ⟨ha, hb, -⟩ := hA.2.1
  change -128 ≤ a ∧ a ≤ 127 at ha; change -128 ≤ b ∧ b ≤ 127 at hb
  clear hA hM
  refine Goes.tree Γ_ok htb 1000 false false Tryd.func51 rfl ?_
  ((try simp only [decide_eq_true_eq, decide_eq_false_iff_not, Bool.not_eq_true', Bool.not_eq_false', Bool.not_true, Bool.not_false, Bool.and_eq_true, Bool.or_eq_true, bne_iff_ne, beq_iff_eq, ne_eq]); (try simp only [rng, lo, hi, mnI, mxI, Int.toNat_natCast, Sg.n, Nat.mul_one, Nat.zero_add, Nat.add_zero, Nat.reduceAdd, List.getD_cons_zero, List.getD_cons_succ]))
  ((repeat' (first | (with_reducible apply And.intro) | intro _)); all_goals (first | exact trivial | (with_reducible assumption) | (show (_ : List Blk) = _; rfl) | (first | exact trivial | (with_reducible assumption) | omega | (split <;> omega) | (split <;> split <;> omega)) | skip); all_goals (try (refine ⟨rfl, (by first | exact Nat.le_refl _ | exact Nat.le_of_ble_eq_true rfl), rfl, rfl, ?_, (by repeat' (first | exact trivial | rfl | apply And.intro)), rfl, rfl⟩)))
  all_goals (try omega)
  · rename_i h
    show inF [a, b] = decide (0 ≤ b ∧ b ≤ 9)
    rw [Bool.eq_iff_iff, inF_iff, decide_eq_true_eq]
    simp only [List.getD_cons_zero, List.getD_cons_succ]; omega
  · rename_i h
    show inF [a, b] = false
    rw [← Bool.not_eq_true, inF_iff]
    simp only [List.getD_cons_zero, List.getD_cons_succ]; omega
set_option maxRecDepth 100000 in
theorem s_isSpot : Sound Tryd.prog 44 inFS := by
  intro args M r M' vs h hvs
  unfold inFS at h
  split at h
  case h_2 => cases h
  rename_i s
  cases h
  refine SpecOK.assume fun hA hM => ?_
  have htb := (TbOk.cons s_isCell Tryd.func86 rfl rfl (TbOk.nil : TbOk Tryd.prog tb0))
  refine SpecOK.of_goes [] Tryd.func44 rfl ?_
  obtain ⟨a, b, rfl⟩ := len2 hA.1
  obtain ⟨ha, hb, -⟩ := hA.2.1
  change -128 ≤ a ∧ a ≤ 127 at ha; change -128 ≤ b ∧ b ≤ 127 at hb
  clear hA hM
  refine Goes.tree Γ_ok htb 1000 false false Tryd.func44 rfl ?_
  ((try simp only [decide_eq_true_eq, decide_eq_false_iff_not, Bool.not_eq_true', Bool.not_eq_false', Bool.not_true, Bool.not_false, Bool.and_eq_true, Bool.or_eq_true, bne_iff_ne, beq_iff_eq, ne_eq]); (try simp only [rng, lo, hi, mnI, mxI, Int.toNat_natCast, Sg.n, Nat.mul_one, Nat.zero_add, Nat.add_zero, Nat.reduceAdd, List.getD_cons_zero, List.getD_cons_succ]))
  ((repeat' (first | (with_reducible apply And.intro) | intro _)); all_goals (first | exact trivial | (with_reducible assumption) | (show (_ : List Blk) = _; rfl) | (first | exact trivial | (with_reducible assumption) | omega | (split <;> omega) | (split <;> split <;> omega)) | skip); all_goals (try (refine ⟨rfl, (by first | exact Nat.le_refl _ | exact Nat.le_of_ble_eq_true rfl), rfl, rfl, ?_, (by repeat' (first | exact trivial | rfl | apply And.intro)), rfl, rfl⟩)))
  all_goals (try first | omega | (show (10 : Int) ≤ 10; decide))
  show inF [a, b] = decide _
  rw [Bool.eq_iff_iff, inF_iff, decide_eq_true_eq]
  show _ ↔ (0 ≤ a ∧ a < 10 ∧ 0 ≤ b ∧ b < 10)
  simp only [List.getD_cons_zero, List.getD_cons_succ]; omega
def nofH (h : List Int) : Bool := !inF h
def nofS : Fun
  | [.ag .hur h], [] => some (.b (nofH h), [], [])
  | _, _ => .none
set_option maxRecDepth 100000 in
theorem s_fen1 : Sound Tryd.prog 55 nofS := by
  intro args M r M' vs h hvs
  unfold nofS at h
  split at h
  case h_2 => cases h
  rename_i h
  cases h
  refine SpecOK.assume fun hA hM => ?_
  have htb := (TbOk.cons s_isSpot Tryd.func44 rfl rfl (TbOk.nil : TbOk Tryd.prog tb0))
  refine SpecOK.of_goes [] Tryd.func55 rfl ?_
  obtain ⟨a, b, c, rfl⟩ := len3 hA.1
  obtain ⟨ha, hb, -⟩ := hA.2.1
  change -128 ≤ a ∧ a ≤ 127 at ha; change -128 ≤ b ∧ b ≤ 127 at hb
  clear hA hM
  refine Goes.tree Γ_ok htb 1000 false false Tryd.func55 rfl ?_
  ((try simp only [decide_eq_true_eq, decide_eq_false_iff_not, Bool.not_eq_true', Bool.not_eq_false', Bool.not_true, Bool.not_false, Bool.and_eq_true, Bool.or_eq_true, bne_iff_ne, beq_iff_eq, ne_eq]); (try simp only [rng, lo, hi, mnI, mxI, Int.toNat_natCast, Sg.n, Nat.mul_one, Nat.zero_add, Nat.add_zero, Nat.reduceAdd, List.getD_cons_zero, List.getD_cons_succ]))
  ((repeat' (first | (with_reducible apply And.intro) | intro _)); all_goals (first | exact trivial | (with_reducible assumption) | (show (_ : List Blk) = _; rfl) | (first | exact trivial | (with_reducible assumption) | omega | (split <;> omega) | (split <;> split <;> omega)) | skip); all_goals (try (refine ⟨rfl, (by first | exact Nat.le_refl _ | exact Nat.le_of_ble_eq_true rfl), rfl, rfl, ?_, (by repeat' (first | exact trivial | rfl | apply And.intro)), rfl, rfl⟩)))
  exact sameA_refl _
def idxOutFS : Fun
  | [.fs .hur rows, .fn 55 []], [] => some (.i .i64 (findI nofH rows), [], [True])
  | _, _ => .none
set_option maxRecDepth 100000 in
theorem s_idxOutF : Sound Tryd.prog 89 idxOutFS := by
  intro args M r M' vs h hvs
  unfold idxOutFS at h
  split at h
  case h_2 => cases h
  rename_i rows
  cases h
  refine SpecOK.assume fun hA hM => ?_
  have htb := (TbOk.cons s_fen1 Tryd.func55 rfl rfl (TbOk.nil : TbOk Tryd.prog tb0))
  refine SpecOK.of_goes [] Tryd.func89 rfl ?_
  have hl : rows.length ≤ maxLen := hA.1
  have hm : maxLen = 9223372036854775807 := rfl
  obtain ⟨hc, -⟩ := hvs
  
  clear hA hM
  refine Goes.tree Γ_ok htb 1000 false false Tryd.func89 rfl ?_
  refine ⟨?_⟩
  refine Goes.loopR (fun i : Nat => rows.length - i) (fun i => i ≤ rows.length ∧ ∀ j, j < i → nofH (rows.getD j []) = false) (fun i => (.fs .hur rows :: .fn 55 [] :: .any :: .any :: .any :: .any :: .any :: .i .i64 (rows.length:Int) :: .i .i64 (i:Int) :: .any :: .any :: .any :: .any :: .any :: .any :: .any :: .any :: .any :: .any :: [])) (fun _ => []) 0 [] ⟨by omega, fun j hj => by omega⟩ ⟨rfl, rfl, rfl, (by repeat' (first | exact trivial | rfl | apply And.intro)), (by repeat' (first | exact trivial | rfl | apply And.intro)), rfl, rfl, rfl⟩ fun i ⟨hle, hno⟩ ih => ?_
  refine Goes.tree Γ_ok htb 1000 false false Tryd.func89 rfl ?_
  ((try simp only [decide_eq_true_eq, decide_eq_false_iff_not, Bool.not_eq_true', Bool.not_eq_false', Bool.not_true, Bool.not_false, Bool.and_eq_true, Bool.or_eq_true, bne_iff_ne, beq_iff_eq, ne_eq]); (try simp only [rng, lo, hi, mnI, mxI, Int.toNat_natCast, Sg.n, Nat.mul_one, Nat.zero_add, Nat.add_zero, Nat.reduceAdd, List.getD_cons_zero, List.getD_cons_succ]))
  ((repeat' (first | (with_reducible apply And.intro) | intro _)); all_goals (first | exact trivial | (with_reducible assumption) | (show (_ : List Blk) = _; rfl) | (first | exact trivial | (with_reducible assumption) | omega | (split <;> omega) | (split <;> split <;> omega)) | skip); all_goals (try (refine ⟨rfl, (by first | exact Nat.le_refl _ | exact Nat.le_of_ble_eq_true rfl), rfl, rfl, ?_, (by repeat' (first | exact trivial | rfl | apply And.intro)), rfl, rfl⟩)))
  · rename_i h1 h2
    rw [findI_some (by omega) h2 hno]
    exact sameA_refl _
  · rename_i h1 h2
    refine ⟨ih (i + 1) ⟨by omega, fun j hj => ?_⟩ (by omega) [] _ _ ⟨rfl, rfl, rfl, (by repeat' (first | exact trivial | rfl | apply And.intro)), (by repeat' (first | exact trivial | rfl | apply And.intro)), rfl, rfl, rfl⟩⟩
    by_cases hji : j = i
    · subst hji; exact h2
    · exact hno j (by omega)
  · obtain rfl : i = rows.length := by omega
    rw [findI_none hno]
    exact sameA_refl _

def hasOutFS : Fun
  | [.fs .hur rows, .fn 55 []], [] => some (.b (rows.any nofH), [], [True])
  | _, _ => .none
set_option maxRecDepth 100000 in
theorem s_hasOutF : Sound Tryd.prog 54 hasOutFS := by
  intro args M r M' vs h hvs
  unfold hasOutFS at h
  split at h
  case h_2 => cases h
  rename_i rows
  cases h
  refine SpecOK.assume fun hA hM => ?_
  have htb := (TbOk.cons s_idxOutF Tryd.func89 rfl rfl (TbOk.nil : TbOk Tryd.prog tb0))
  refine SpecOK.of_goes [] Tryd.func54 rfl ?_
  obtain ⟨hc, -⟩ := hvs
  refine Goes.tree Γ_ok htb 1000 false false Tryd.func54 rfl ?_
  ((try simp only [decide_eq_true_eq, decide_eq_false_iff_not, Bool.not_eq_true', Bool.not_eq_false', Bool.not_true, Bool.not_false, Bool.and_eq_true, Bool.or_eq_true, bne_iff_ne, beq_iff_eq, ne_eq]); (try simp only [rng, lo, hi, mnI, mxI, Int.toNat_natCast, Sg.n, Nat.mul_one, Nat.zero_add, Nat.add_zero, Nat.reduceAdd, List.getD_cons_zero, List.getD_cons_succ]))
  ((repeat' (first | (with_reducible apply And.intro) | intro _)); all_goals (first | exact trivial | (with_reducible assumption) | (show (_ : List Blk) = _; rfl) | (first | exact trivial | (with_reducible assumption) | omega | (split <;> omega) | (split <;> split <;> omega)) | skip); all_goals (try (refine ⟨rfl, (by first | exact Nat.le_refl _ | exact Nat.le_of_ble_eq_true rfl), rfl, rfl, ?_, (by repeat' (first | exact trivial | rfl | apply And.intro)), rfl, rfl⟩)))
  rw [← findI_any]
  exact sameA_refl _


/-! The whole text. -/
theorem getD_memT {l : List (List Int)} {i : Nat} (h : i < l.length) : l.getD i [] ∈ l := by
  rw [List.getD_eq_getElem?_getD, List.getElem?_eq_getElem h]; exact List.getElem_mem _
def sgnT (h : List Int) : ByteArray := if h.getD 2 0 = 0 then ⟨#[124]⟩ else ⟨#[95]⟩
def wrd (h : List Int) : ByteArray := spT h ++ sgnT h
def sepT (i : Nat) (out : ByteArray) : ByteArray := if 0 < i then out ++ ⟨#[32]⟩ else out
def fT (rows : List (List Int)) : Nat → ByteArray
  | 0 => ⟨#[]⟩
  | i + 1 => sepT i (fT rows i) ++ spT (rows.getD i []) ++ sgnT (rows.getD i [])
theorem fT_len {rows : List (List Int)} (h : ∀ s ∈ rows, inF s = true) : ∀ i, i ≤ rows.length → (fT rows i).size ≤ 23 * i := by
  intro i
  induction i with
  | zero => intro _; exact Nat.le_refl 0
  | succ i ih =>
    intro hi
    have h1 := ih (by omega)
    have h2 := spT_len (h _ (getD_memT (by omega : i < rows.length)))
    have h3 : (sgnT (rows.getD i [])).size = 1 := by unfold sgnT; split <;> rfl
    have h4 : (sepT i (fT rows i)).size ≤ (fT rows i).size + 1 := by
      unfold sepT
      split
      · rw [ByteArray.size_append]; exact Nat.le_refl _
      · omega
    unfold fT
    rw [ByteArray.size_append, ByteArray.size_append]
    omega
def l03TextS : Fun
  | [.fs .hur rows], [] => some (.s (fT rows rows.length), [], [rows.length ≤ 180 ∧ ∀ s ∈ rows, inF s = true])
  | _, _ => .none
set_option maxRecDepth 100000 in
theorem s_l03Text : Sound Tryd.prog 52 l03TextS := by
  intro args M r M' vs h hvs
  unfold l03TextS at h
  split at h
  case h_2 => cases h
  rename_i rows
  cases h
  refine SpecOK.assume fun hA hM => ?_
  have htb := (TbOk.cons s_dec2 Tryd.func76 rfl rfl (TbOk.nil : TbOk Tryd.prog tb0))
  refine SpecOK.of_goes [] Tryd.func52 rfl ?_
  obtain ⟨⟨hl, hs⟩, -⟩ := hvs
  have hR : RowsOk .hur rows := hA.2.1
  have hlen : ∀ h ∈ rows, h.length = 3 := fun h hh => (hR h hh).1
  clear hA hM
  have hft := fT_len hs
  refine Goes.tree Γ_ok htb 1000 false false Tryd.func52 rfl ?_
  ((try simp only [decide_eq_true_eq, decide_eq_false_iff_not, Bool.not_eq_true', Bool.not_eq_false', Bool.not_true, Bool.not_false, Bool.and_eq_true, Bool.or_eq_true, bne_iff_ne, beq_iff_eq, ne_eq]); (try simp only [rng, lo, hi, mnI, mxI, Int.toNat_natCast, Sg.n, Nat.mul_one, Nat.zero_add, Nat.add_zero, Nat.reduceAdd, List.getD_cons_zero, List.getD_cons_succ]))
  ((repeat' (first | (with_reducible apply And.intro) | intro _)); all_goals (first | exact trivial | (with_reducible assumption) | (show (_ : List Blk) = _; rfl) | (first | exact trivial | (with_reducible assumption) | omega | (split <;> omega) | (split <;> split <;> omega)) | skip); all_goals (try (refine ⟨rfl, (by first | exact Nat.le_refl _ | exact Nat.le_of_ble_eq_true rfl), rfl, rfl, ?_, (by repeat' (first | exact trivial | rfl | apply And.intro)), rfl, rfl⟩)))
  refine ⟨?_⟩
  refine Goes.loopR (fun i : Nat => rows.length - i) (fun i => i ≤ rows.length) (fun i => (.fs .hur rows :: .any :: .any :: .s (fT rows i) :: .i .i64 (i:Int) :: .any :: .any :: .any :: .any :: .any :: .any :: .any :: .any :: .any :: .any :: .any :: .any :: .any :: .any :: .any :: .any :: .any :: .any :: .any :: .any :: .any :: .any :: .any :: .any :: .any :: .any :: .any :: .any :: .any :: .any :: .any :: .any :: .any :: .any :: .any :: .any :: .any :: .any :: .any :: .any :: [])) (fun _ => []) 0 [] (Nat.zero_le _) ⟨rfl, rfl, rfl, (by repeat' (first | exact trivial | rfl | apply And.intro)), (by repeat' (first | exact trivial | rfl | apply And.intro)), rfl, rfl, rfl⟩ fun i hib ih => ?_
  have hfi := hft i hib
  by_cases hlt : i < rows.length
  · have hm := getD_memT hlt
    have hin := hs _ hm
    obtain ⟨x, y, z, e3⟩ := len3 (hlen _ hm)
    have hsp := spT_len hin
    have ek : fT rows (i + 1) = sepT i (fT rows i) ++ spT (rows.getD i []) ++ sgnT (rows.getD i []) := rfl
    have ih := ih (i + 1)
    rw [ek, e3] at ih
    rw [e3] at hin hsp
    have hg := inF_iff.1 hin
    simp only [List.getD_cons_zero, List.getD_cons_succ] at hg
    have h1 := dig_len x.toNat
    have h2 := dig_len y.toNat
    have et : spT [x, y, z] = digS x.toNat ++ ⟨#[44]⟩ ++ digS y.toNat := rfl
    have eg : sgnT [x, y, z] = if z = 0 then ⟨#[124]⟩ else ⟨#[95]⟩ := rfl
    rw [et, eg] at ih
    by_cases h0 : 0 < i
    · have es : sepT i (fT rows i) = fT rows i ++ ⟨#[32]⟩ := if_pos h0
      rw [es] at ih
      refine Goes.tree Γ_ok htb 1000 false false Tryd.func52 rfl ?_
      ((try simp only [decide_eq_true_eq, decide_eq_false_iff_not, Bool.not_eq_true', Bool.not_eq_false', Bool.not_true, Bool.not_false, Bool.and_eq_true, Bool.or_eq_true, bne_iff_ne, beq_iff_eq, ne_eq]); (try simp only [rng, lo, hi, mnI, mxI, Int.toNat_natCast, Sg.n, Nat.mul_one, Nat.zero_add, Nat.add_zero, Nat.reduceAdd, List.getD_cons_zero, List.getD_cons_succ, e3]))
      ((repeat' (first | (with_reducible apply And.intro) | intro _)); all_goals (first | exact trivial | (with_reducible assumption) | (show (_ : List Blk) = _; rfl) | (first | exact trivial | (with_reducible assumption) | omega | (split <;> omega) | (split <;> split <;> omega)) | skip); all_goals (try (refine ⟨rfl, (by first | exact Nat.le_refl _ | exact Nat.le_of_ble_eq_true rfl), rfl, rfl, ?_, (by repeat' (first | exact trivial | rfl | apply And.intro)), rfl, rfl⟩)))
      all_goals (try first | omega | (show _ ≤ 9223372036854775807; simp only [ByteArray.size_append, szb]; omega))
      · rename_i h
        rw [if_neg h] at ih
        exact ⟨ih (by omega) (by omega) [] _ _ ⟨rfl, rfl, rfl, (by repeat' (first | exact trivial | rfl | apply And.intro)), (by repeat' (first | exact trivial | rfl | apply And.intro)), rfl, rfl, rfl⟩⟩
      · rename_i h
        rw [if_pos (by simpa using h)] at ih
        exact ⟨ih (by omega) (by omega) [] _ _ ⟨rfl, rfl, rfl, (by repeat' (first | exact trivial | rfl | apply And.intro)), (by repeat' (first | exact trivial | rfl | apply And.intro)), rfl, rfl, rfl⟩⟩
    · have es : sepT i (fT rows i) = fT rows i := if_neg h0
      rw [es] at ih
      refine Goes.tree Γ_ok htb 1000 false false Tryd.func52 rfl ?_
      ((try simp only [decide_eq_true_eq, decide_eq_false_iff_not, Bool.not_eq_true', Bool.not_eq_false', Bool.not_true, Bool.not_false, Bool.and_eq_true, Bool.or_eq_true, bne_iff_ne, beq_iff_eq, ne_eq]); (try simp only [rng, lo, hi, mnI, mxI, Int.toNat_natCast, Sg.n, Nat.mul_one, Nat.zero_add, Nat.add_zero, Nat.reduceAdd, List.getD_cons_zero, List.getD_cons_succ, e3]))
      ((repeat' (first | (with_reducible apply And.intro) | intro _)); all_goals (first | exact trivial | (with_reducible assumption) | (show (_ : List Blk) = _; rfl) | (first | exact trivial | (with_reducible assumption) | omega | (split <;> omega) | (split <;> split <;> omega)) | skip); all_goals (try (refine ⟨rfl, (by first | exact Nat.le_refl _ | exact Nat.le_of_ble_eq_true rfl), rfl, rfl, ?_, (by repeat' (first | exact trivial | rfl | apply And.intro)), rfl, rfl⟩)))
      all_goals (try first | omega | (show _ ≤ 9223372036854775807; simp only [ByteArray.size_append, szb]; omega))
      · rename_i h
        rw [if_neg h] at ih
        exact ⟨ih (by omega) (by omega) [] _ _ ⟨rfl, rfl, rfl, (by repeat' (first | exact trivial | rfl | apply And.intro)), (by repeat' (first | exact trivial | rfl | apply And.intro)), rfl, rfl, rfl⟩⟩
      · rename_i h
        rw [if_pos (by simpa using h)] at ih
        exact ⟨ih (by omega) (by omega) [] _ _ ⟨rfl, rfl, rfl, (by repeat' (first | exact trivial | rfl | apply And.intro)), (by repeat' (first | exact trivial | rfl | apply And.intro)), rfl, rfl, rfl⟩⟩
  · obtain rfl : i = rows.length := by omega
    clear ih
    refine Goes.tree Γ_ok htb 1000 false false Tryd.func52 rfl ?_
    ((try simp only [decide_eq_true_eq, decide_eq_false_iff_not, Bool.not_eq_true', Bool.not_eq_false', Bool.not_true, Bool.not_false, Bool.and_eq_true, Bool.or_eq_true, bne_iff_ne, beq_iff_eq, ne_eq]); (try simp only [rng, lo, hi, mnI, mxI, Int.toNat_natCast, Sg.n, Nat.mul_one, Nat.zero_add, Nat.add_zero, Nat.reduceAdd, List.getD_cons_zero, List.getD_cons_succ]))
    ((repeat' (first | (with_reducible apply And.intro) | intro _)); all_goals (first | exact trivial | (with_reducible assumption) | (show (_ : List Blk) = _; rfl) | (first | exact trivial | (with_reducible assumption) | omega | (split <;> omega) | (split <;> split <;> omega)) | skip); all_goals (try (refine ⟨rfl, (by first | exact Nat.le_refl _ | exact Nat.le_of_ble_eq_true rfl), rfl, rfl, ?_, (by repeat' (first | exact trivial | rfl | apply And.intro)), rfl, rfl⟩)))
    exact sameA_refl _

/-! The program: words, joined. -/
def wdK (rows : List (List Int)) : Nat → List ByteArray
  | 0 => []
  | i + 1 => wdK rows i ++ [wrd (rows.getD i [])]
theorem wdK_len (rows : List (List Int)) : ∀ i, (wdK rows i).length = i := by
  intro i
  induction i with
  | zero => rfl
  | succ i ih => unfold wdK; rw [List.length_append, ih]; rfl
theorem join_snoc {l : List (List UInt8)} {x sep : List UInt8} (h : l ≠ []) : Lib.join (l ++ [x]) sep = Lib.join l sep ++ sep ++ x := by
  match l, h with
  | y :: r, _ =>
    rw [List.cons_append, Lib.join_cons, Lib.join_cons]
    unfold Lib.joinTail
    simp
theorem joinL_fT (rows : List (List Int)) : ∀ i, joinL (wdK rows i) ⟨#[32]⟩ = fT rows i := by
  intro i
  induction i with
  | zero => rfl
  | succ i ih =>
    have hl := wdK_len rows i
    unfold wdK fT sepT
    rw [← ih]
    unfold joinL
    rw [List.map_append]
    by_cases h0 : 0 < i
    · rw [if_pos h0]
      rw [show ([wrd (rows.getD i [])].map fun x : ByteArray => x.data.toList) = [(wrd (rows.getD i [])).data.toList] from rfl, join_snoc (fun h => by rw [List.map_eq_nil_iff] at h; rw [h] at hl; simp at hl; omega)]
      rw [ByteArray.ext_iff]
      unfold wrd
      simp
    · obtain rfl : i = 0 := by omega
      rw [if_neg h0]
      show (⟨(Lib.join [(wrd (rows.getD 0 [])).data.toList] [32]).toArray⟩ : ByteArray) = _
      rw [Lib.join_one, ByteArray.ext_iff]
      unfold wrd wdK
      simp [Lib.join_nil]
def fenT (rows : List (List Int)) : ByteArray := if rows.length ≤ 180 ∧ rows.any nofH = false then fT rows rows.length else ⟨#[]⟩
def fenS : Fun
  | [.fs .hur rows], [] => some (.s (fenT rows), [], [rows.length ≤ 1073741824])
  | _, _ => .none
theorem nof_all {rows : List (List Int)} (h : rows.any nofH = false) : ∀ s ∈ rows, inF s = true := by
  intro s hs
  rw [List.any_eq_false] at h
  have := h s hs
  unfold nofH at this
  simpa using this
theorem fen_bad {rows : List (List Int)} {i : Nat} (hi : i < rows.length) (h : inF (rows.getD i []) = false) : fenT rows = ⟨#[]⟩ := by
  refine if_neg fun g => ?_
  have := nof_all g.2 _ (getD_memT hi)
  rw [h] at this; cases this
theorem fen_any {rows : List (List Int)} (h : rows.any nofH = true) : fenT rows = ⟨#[]⟩ := if_neg fun g => by rw [h] at g; cases g.2
theorem fen_long {rows : List (List Int)} (h : 180 < rows.length) : fenT rows = ⟨#[]⟩ := if_neg fun g => by omega
theorem fen_ok {rows : List (List Int)} (h : rows.length ≤ 180) (h' : ∀ j, j < rows.length → inF (rows.getD j []) = true) : fenT rows = fT rows rows.length := by
  refine if_pos ⟨h, ?_⟩
  rw [List.any_eq_false]
  intro s hs
  obtain ⟨j, hj, rfl⟩ := List.mem_iff_getElem.1 hs
  have := h' j hj
  rw [List.getD_eq_getElem?_getD, List.getElem?_eq_getElem hj] at this
  unfold nofH
  simpa using this
set_option maxRecDepth 100000 in
theorem s_specFence : Sound Tryd.prog 18 fenS := by
  intro args M r M' vs h hvs
  unfold fenS at h
  split at h
  case h_2 => cases h
  rename_i rows
  cases h
  refine SpecOK.assume fun hA hM => ?_
  have htb := (TbOk.cons s_l03Spot Tryd.func51 rfl rfl (TbOk.cons s_l03Text Tryd.func52 rfl rfl (TbOk.nil : TbOk Tryd.prog tb0)))
  refine SpecOK.of_goes [] Tryd.func18 rfl ?_
  obtain ⟨hl, -⟩ := hvs
  have hR : RowsOk .hur rows := hA.2.1
  have hlen : ∀ h ∈ rows, h.length = 3 := fun h hh => (hR h hh).1
  clear hA hM
  refine Goes.tree Γ_ok htb 1000 false false Tryd.func18 rfl ?_
  ((try simp only [decide_eq_true_eq, decide_eq_false_iff_not, Bool.not_eq_true', Bool.not_eq_false', Bool.not_true, Bool.not_false, Bool.and_eq_true, Bool.or_eq_true, bne_iff_ne, beq_iff_eq, ne_eq]); (try simp only [rng, lo, hi, mnI, mxI, Int.toNat_natCast, Sg.n, Nat.mul_one, Nat.zero_add, Nat.add_zero, Nat.reduceAdd, List.getD_cons_zero, List.getD_cons_succ]))
  ((repeat' (first | (with_reducible apply And.intro) | intro _)); all_goals (first | exact trivial | (with_reducible assumption) | (show (_ : List Blk) = _; rfl) | (first | exact trivial | (with_reducible assumption) | omega | (split <;> omega) | (split <;> split <;> omega)) | skip); all_goals (try (refine ⟨rfl, (by first | exact Nat.le_refl _ | exact Nat.le_of_ble_eq_true rfl), rfl, rfl, ?_, (by repeat' (first | exact trivial | rfl | apply And.intro)), rfl, rfl⟩)))
  refine ⟨?_⟩
  refine Goes.loopR (fun i : Nat => rows.length - i) (fun i => i ≤ rows.length ∧ ∀ j, j < i → inF (rows.getD j []) = true) (fun i => (.fs .hur rows :: .any :: .any :: .i .i64 (i:Int) :: .any :: .any :: .any :: .any :: .any :: .any :: .any :: .any :: .any :: .any :: .any :: .any :: .any :: .any :: .any :: .any :: .any :: .any :: [])) (fun _ => []) 0 [] ⟨Nat.zero_le _, fun j hj => by omega⟩ ⟨rfl, rfl, rfl, (by repeat' (first | exact trivial | rfl | apply And.intro)), (by repeat' (first | exact trivial | rfl | apply And.intro)), rfl, rfl, rfl⟩ fun i ⟨hib, hno⟩ ih => ?_
  by_cases hlt : i < rows.length
  · have hm := getD_memT hlt
    obtain ⟨x, y, z, e3⟩ := len3 (hlen _ hm)
    have htd : inF (List.take 2 (List.drop 0 [x, y, z])) = inF [x, y, z] := rfl
    refine Goes.tree Γ_ok htb 1000 false false Tryd.func18 rfl ?_
    ((try simp only [decide_eq_true_eq, decide_eq_false_iff_not, Bool.not_eq_true', Bool.not_eq_false', Bool.not_true, Bool.not_false, Bool.and_eq_true, Bool.or_eq_true, bne_iff_ne, beq_iff_eq, ne_eq]); (try simp only [rng, lo, hi, mnI, mxI, Int.toNat_natCast, Sg.n, Nat.mul_one, Nat.zero_add, Nat.add_zero, Nat.reduceAdd, List.getD_cons_zero, List.getD_cons_succ, e3, htd]))
    ((repeat' (first | (with_reducible apply And.intro) | intro _)); all_goals (first | exact trivial | (with_reducible assumption) | (show (_ : List Blk) = _; rfl) | (first | exact trivial | (with_reducible assumption) | omega | (split <;> omega) | (split <;> split <;> omega)) | skip); all_goals (try (refine ⟨rfl, (by first | exact Nat.le_refl _ | exact Nat.le_of_ble_eq_true rfl), rfl, rfl, ?_, (by repeat' (first | exact trivial | rfl | apply And.intro)), rfl, rfl⟩)))
    · rename_i h
      rw [fen_bad hlt (by rw [e3]; exact h)]; exact sameA_refl _
    · rename_i h
      refine ⟨ih (i + 1) ⟨by omega, fun j hj => ?_⟩ (by omega) [] _ _ ⟨rfl, rfl, rfl, (by repeat' (first | exact trivial | rfl | apply And.intro)), (by repeat' (first | exact trivial | rfl | apply And.intro)), rfl, rfl, rfl⟩⟩
      by_cases hji : j = i
      · subst hji; rw [e3]; exact h
      · exact hno j (by omega)
  · obtain rfl : i = rows.length := by omega
    clear ih
    refine Goes.tree Γ_ok htb 1000 false false Tryd.func18 rfl ?_
    ((try simp only [decide_eq_true_eq, decide_eq_false_iff_not, Bool.not_eq_true', Bool.not_eq_false', Bool.not_true, Bool.not_false, Bool.and_eq_true, Bool.or_eq_true, bne_iff_ne, beq_iff_eq, ne_eq]); (try simp only [rng, lo, hi, mnI, mxI, Int.toNat_natCast, Sg.n, Nat.mul_one, Nat.zero_add, Nat.add_zero, Nat.reduceAdd, List.getD_cons_zero, List.getD_cons_succ]))
    ((repeat' (first | (with_reducible apply And.intro) | intro _)); all_goals (first | exact trivial | (with_reducible assumption) | (show (_ : List Blk) = _; rfl) | (first | exact trivial | (with_reducible assumption) | omega | (split <;> omega) | (split <;> split <;> omega)) | skip); all_goals (try (refine ⟨rfl, (by first | exact Nat.le_refl _ | exact Nat.le_of_ble_eq_true rfl), rfl, rfl, ?_, (by repeat' (first | exact trivial | rfl | apply And.intro)), rfl, rfl⟩)))
    · rw [fen_long (by omega)]; exact sameA_refl _
    · rename_i s hs
      obtain ⟨j, hj, rfl⟩ := List.mem_iff_getElem.1 hs
      have := hno j hj
      rwa [List.getD_eq_getElem?_getD, List.getElem?_eq_getElem hj] at this
    · rw [fen_ok (by omega) hno]; exact sameA_refl _
set_option maxRecDepth 100000 in
theorem s_implFence : Sound Tryd.prog 20 fenS := by
  intro args M r M' vs h hvs
  unfold fenS at h
  split at h
  case h_2 => cases h
  rename_i rows
  cases h
  refine SpecOK.assume fun hA hM => ?_
  have htb := (TbOk.cons s_hasOutF Tryd.func54 rfl rfl (TbOk.cons s_text Tryd.func46 rfl rfl (TbOk.cons s_join Tryd.func38 rfl rfl (TbOk.nil : TbOk Tryd.prog tb0))))
  refine SpecOK.of_goes [] Tryd.func20 rfl ?_
  obtain ⟨hl, -⟩ := hvs
  have hR : RowsOk .hur rows := hA.2.1
  have hlen : ∀ h ∈ rows, h.length = 3 := fun h hh => (hR h hh).1
  clear hA hM
  refine Goes.tree Γ_ok htb 1000 false false Tryd.func20 rfl ?_
  ((try simp only [decide_eq_true_eq, decide_eq_false_iff_not, Bool.not_eq_true', Bool.not_eq_false', Bool.not_true, Bool.not_false, Bool.and_eq_true, Bool.or_eq_true, bne_iff_ne, beq_iff_eq, ne_eq]); (try simp only [rng, lo, hi, mnI, mxI, Int.toNat_natCast, Sg.n, Nat.mul_one, Nat.zero_add, Nat.add_zero, Nat.reduceAdd, List.getD_cons_zero, List.getD_cons_succ]))
  ((repeat' (first | (with_reducible apply And.intro) | intro _)); all_goals (first | exact trivial | (with_reducible assumption) | (show (_ : List Blk) = _; rfl) | (first | exact trivial | (with_reducible assumption) | omega | (split <;> omega) | (split <;> split <;> omega)) | skip); all_goals (try (refine ⟨rfl, (by first | exact Nat.le_refl _ | exact Nat.le_of_ble_eq_true rfl), rfl, rfl, ?_, (by repeat' (first | exact trivial | rfl | apply And.intro)), rfl, rfl⟩)))
  · rw [fen_long (by omega)]; exact sameA_refl _
  · rw [fen_any (by assumption)]; exact sameA_refl _
  rename_i h180 hany
  have hs := nof_all hany
  have hft := fT_len hs rows.length (Nat.le_refl _)
  refine ⟨?_⟩
  refine Goes.loopR (fun i : Nat => rows.length - i) (fun i => i ≤ rows.length) (fun i => (.any :: .any :: .any :: .ow 0 (wdK rows i).length .str 9 :: .any :: .any :: .any :: .any :: .any :: .any :: .any :: .any :: .any :: .any :: .any :: .fs .hur rows :: .i .i64 (rows.length : Int) :: .i .i64 (i:Int) :: .any :: .any :: .any :: .any :: .any :: .any :: .any :: .any :: .any :: .any :: .any :: .any :: .any :: .any :: .any :: .any :: [])) (fun i => [.s (wdK rows i)]) 0 [0] (Nat.zero_le _) ⟨rfl, rfl, rfl, (by repeat' (first | exact trivial | rfl | apply And.intro)), (by repeat' (first | exact trivial | rfl | apply And.intro)), rfl, rfl, rfl⟩ fun i hib ih => ?_
  have hwl := wdK_len rows i
  by_cases hlt : i < rows.length
  · have hm := getD_memT hlt
    have hin := hs _ hm
    obtain ⟨x, y, z, e3⟩ := len3 (hlen _ hm)
    have hsp := spT_len hin
    have ih := ih (i + 1)
    have ek : wdK rows (i + 1) = wdK rows i ++ [wrd (rows.getD i [])] := rfl
    rw [ek, e3] at ih
    rw [e3] at hin hsp
    have et : List.take 2 (List.drop 0 [x, y, z]) = [x, y] := rfl
    have ep : spT [x, y] = spT [x, y, z] := rfl
    have eg : wrd [x, y, z] = spT [x, y, z] ++ (if z = 0 then ⟨#[124]⟩ else ⟨#[95]⟩) := rfl
    have ei : inF [x, y] = inF [x, y, z] := rfl
    rw [eg] at ih
    refine Goes.tree Γ_ok htb 1000 false false Tryd.func20 rfl ?_
    ((try simp only [decide_eq_true_eq, decide_eq_false_iff_not, Bool.not_eq_true', Bool.not_eq_false', Bool.not_true, Bool.not_false, Bool.and_eq_true, Bool.or_eq_true, bne_iff_ne, beq_iff_eq, ne_eq]); (try simp only [rng, lo, hi, mnI, mxI, Int.toNat_natCast, Sg.n, Nat.mul_one, Nat.zero_add, Nat.add_zero, Nat.reduceAdd, List.getD_cons_zero, List.getD_cons_succ, e3, et, ep, ei]))
    ((repeat' (first | (with_reducible apply And.intro) | intro _)); all_goals (first | exact trivial | (with_reducible assumption) | (show (_ : List Blk) = _; rfl) | (first | exact trivial | (with_reducible assumption) | omega | (split <;> omega) | (split <;> split <;> omega)) | skip); all_goals (try (refine ⟨rfl, (by first | exact Nat.le_refl _ | exact Nat.le_of_ble_eq_true rfl), rfl, rfl, ?_, (by repeat' (first | exact trivial | rfl | apply And.intro)), rfl, rfl⟩)))
    all_goals (try first | omega | (show _ ≤ 9223372036854775807; simp only [ByteArray.size_append, szb]; omega) | (show (wdK rows i ++ [_]).length ≤ _; rw [List.length_append, hwl]; show i + 1 ≤ _; omega))
    · rename_i h
      rw [if_neg h] at ih
      exact ⟨ih (by omega) (by omega) [3] _ _ ⟨rfl, rfl, rfl, (by repeat' (first | exact trivial | rfl | apply And.intro)), (by repeat' (first | exact trivial | rfl | apply And.intro)), rfl, rfl, rfl⟩⟩
    · rename_i h
      rw [if_pos (by simpa using h)] at ih
      exact ⟨ih (by omega) (by omega) [3] _ _ ⟨rfl, rfl, rfl, (by repeat' (first | exact trivial | rfl | apply And.intro)), (by repeat' (first | exact trivial | rfl | apply And.intro)), rfl, rfl, rfl⟩⟩
  · obtain rfl : i = rows.length := by omega
    clear ih
    have hj := joinL_fT rows rows.length
    have hok : fenT rows = fT rows rows.length := if_pos ⟨by omega, hany⟩
    refine Goes.tree Γ_ok htb 1000 false false Tryd.func20 rfl ?_
    ((try simp only [decide_eq_true_eq, decide_eq_false_iff_not, Bool.not_eq_true', Bool.not_eq_false', Bool.not_true, Bool.not_false, Bool.and_eq_true, Bool.or_eq_true, bne_iff_ne, beq_iff_eq, ne_eq]); (try simp only [rng, lo, hi, mnI, mxI, Int.toNat_natCast, Sg.n, Nat.mul_one, Nat.zero_add, Nat.add_zero, Nat.reduceAdd, List.getD_cons_zero, List.getD_cons_succ, hj]))
    ((repeat' (first | (with_reducible apply And.intro) | intro _)); all_goals (first | exact trivial | (with_reducible assumption) | (show (_ : List Blk) = _; rfl) | (first | exact trivial | (with_reducible assumption) | omega | (split <;> omega) | (split <;> split <;> omega)) | skip); all_goals (try (refine ⟨rfl, (by first | exact Nat.le_refl _ | exact Nat.le_of_ble_eq_true rfl), rfl, rfl, ?_, (by repeat' (first | exact trivial | rfl | apply And.intro)), rfl, rfl⟩)))
    all_goals (try omega)
    rw [hok]; exact sameA_refl _
end Go.Proofs.YtplnfdgokpgbcaaDoor
