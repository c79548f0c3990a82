/- The text of a growth: the spec and the program. -/
import Derived.Test.YtplnfdgokpgbcaaDoorTxt
namespace Go.Proofs.YtplnfdgokpgbcaaDoor
open Go Go.Eng
set_option linter.unusedSimpArgs false
set_option linter.unusedVariables false
set_option maxRecDepth 100000
set_option maxHeartbeats 4000000

def decimTS : Fun
  | [.i .i64 n], [] => some (.s (digS n.toNat), [], [0 ≤ n ∧ n ≤ 1000000])
  | _, _ => .none
set_option maxRecDepth 100000 in
theorem s_decimT : Sound Tryd.prog 37 decimTS := by
  intro args M r M' vs h hvs
  unfold decimTS at h
  split at h
  case h_2 => cases h
  rename_i n
  cases h
  refine SpecOK.assume fun hA hM => ?_
  have htb := (TbOk.cons s_fmtT Tryd.func80 rfl rfl (TbOk.nil : TbOk Tryd.prog tb0))
  refine SpecOK.of_goes [] Tryd.func37 rfl ?_
  obtain ⟨⟨h0, h1⟩, -⟩ := hvs
  clear hA hM
  refine Goes.tree Γ_ok htb 1000 false false Tryd.func37 rfl ?_
  ((try simp only [decide_eq_true_eq, decide_eq_false_iff_not, Bool.not_eq_true', Bool.not_eq_false', Bool.not_true, Bool.not_false, Bool.and_eq_true, Bool.or_eq_true, bne_iff_ne, beq_iff_eq, ne_eq]); (try simp only [rng, lo, hi, mnI, mxI, Int.toNat_natCast, Sg.n, Nat.mul_one, Nat.zero_add, Nat.add_zero, Nat.reduceAdd, List.getD_cons_zero, List.getD_cons_succ]))
  ((repeat' (first | (with_reducible apply And.intro) | intro _)); all_goals (first | exact trivial | (with_reducible assumption) | (show (_ : List Blk) = _; rfl) | (first | exact trivial | (with_reducible assumption) | omega | (split <;> omega) | (split <;> split <;> omega)) | skip); all_goals (try (refine ⟨rfl, (by first | exact Nat.le_refl _ | exact Nat.le_of_ble_eq_true rfl), rfl, rfl, ?_, (by repeat' (first | exact trivial | rfl | apply And.intro)), rfl, rfl⟩)))
  all_goals (first | exact sameA_refl _ | trace_state)
/-- The number at a place. -/
def gW (xs : List Int) (i : Nat) : ByteArray := digS (xs.getD i 0).toNat
def groT (xs : List Int) : ByteArray := txF ⟨#[44]⟩ (gW xs) 11 ++ ⟨#[32]⟩ ++ gW xs 11
theorem gW_len {xs : List Int} (h : okG xs) : ∀ j, j < 12 → (gW xs j).size ≤ 1001 := by
  intro j hj
  have h1 := dig_len (xs.getD j 0).toNat
  unfold gW
  rcases Nat.lt_or_ge j 11 with h2 | h2
  · have := h.1 j h2; omega
  · obtain rfl : j = 11 := by omega
    have := h.2; omega
def groTS : Fun
  | [.pw 0 .gro], [.c .gro xs] => some (.s (groT xs), [.c .gro xs], [okG xs])
  | _, _ => .none
set_option maxRecDepth 100000 in
theorem s_l04Text : Sound Tryd.prog 34 groTS := by
  intro args M r M' vs h hvs
  unfold groTS at h
  split at h
  case h_2 => cases h
  rename_i xs
  cases h
  refine SpecOK.assume fun hA hM => ?_
  have htb := (TbOk.cons s_dec5 Tryd.func76 rfl rfl (TbOk.nil : TbOk Tryd.prog tb0))
  refine SpecOK.of_goes [0] Tryd.func34 rfl ?_
  obtain ⟨hok, -⟩ := hvs
  have hg := gW_len hok
  have hT := fun i (h : i ≤ 11) => txF_len (sep := ⟨#[44]⟩) (f := gW xs) (b := 1001) (Nat.le_refl 1) i fun j hj => hg j (by omega)
  have h11 := hok.2
  clear hA hM
  refine Goes.tree Γ_ok htb 1000 false false Tryd.func34 rfl ?_
  ((try simp only [decide_eq_true_eq, decide_eq_false_iff_not, Bool.not_eq_true', Bool.not_eq_false', Bool.not_true, Bool.not_false, Bool.and_eq_true, Bool.or_eq_true, bne_iff_ne, beq_iff_eq, ne_eq]); (try simp only [rng, lo, hi, mnI, mxI, Int.toNat_natCast, Sg.n, Nat.mul_one, Nat.zero_add, Nat.add_zero, Nat.reduceAdd, List.getD_cons_zero, List.getD_cons_succ]))
  ((repeat' (first | (with_reducible apply And.intro) | intro _)); all_goals (first | exact trivial | (with_reducible assumption) | (show (_ : List Blk) = _; rfl) | (first | exact trivial | (with_reducible assumption) | omega | (split <;> omega) | (split <;> split <;> omega)) | skip); all_goals (try (refine ⟨rfl, (by first | exact Nat.le_refl _ | exact Nat.le_of_ble_eq_true rfl), rfl, rfl, ?_, (by repeat' (first | exact trivial | rfl | apply And.intro)), rfl, rfl⟩)))
  refine ⟨?_⟩
  refine Goes.loopR (fun i : Nat => 11 - i) (fun i => i ≤ 11) (fun i => (.pw 0 .gro :: .any :: .any :: .s (txF ⟨#[44]⟩ (gW xs) i) :: .i .i64 (i:Int) :: .any :: .any :: .any :: .any :: .any :: .any :: .any :: .any :: .any :: .any :: .any :: .any :: .any :: .any :: .any :: .any :: .any :: .any :: .any :: .any :: .any :: .any :: .any :: .any :: .any :: .any :: .any :: [])) (fun _ => [.c .gro xs]) 0 [0] (Nat.zero_le _) ⟨rfl, rfl, rfl, (by repeat' (first | exact trivial | rfl | apply And.intro)), (by repeat' (first | exact trivial | rfl | apply And.intro)), rfl, rfl, rfl⟩ fun i hib ih => ?_
  have hTi := hT i hib
  by_cases hlt : i < 11
  · have hci := hok.1 i hlt
    have hgi := hg i (by omega)
    have ek : txF ⟨#[44]⟩ (gW xs) (i + 1) = (if 0 < i then txF ⟨#[44]⟩ (gW xs) i ++ ⟨#[44]⟩ else txF ⟨#[44]⟩ (gW xs) i) ++ digS (xs.getD i 0).toNat := rfl
    have ih := ih (i + 1)
    rw [ek] at ih
    unfold gW at hgi
    by_cases h0 : 0 < i
    · rw [if_pos h0] at ih
      refine Goes.tree Γ_ok htb 1000 false false Tryd.func34 rfl ?_
      ((try simp only [decide_eq_true_eq, decide_eq_false_iff_not, Bool.not_eq_true', Bool.not_eq_false', Bool.not_true, Bool.not_false, Bool.and_eq_true, Bool.or_eq_true, bne_iff_ne, beq_iff_eq, ne_eq]); (try simp only [rng, lo, hi, mnI, mxI, Int.toNat_natCast, Sg.n, Nat.mul_one, Nat.zero_add, Nat.add_zero, Nat.reduceAdd, List.getD_cons_zero, List.getD_cons_succ]))
      ((repeat' (first | (with_reducible apply And.intro) | intro _)); all_goals (first | exact trivial | (with_reducible assumption) | (show (_ : List Blk) = _; rfl) | (first | exact trivial | (with_reducible assumption) | omega | (split <;> omega) | (split <;> split <;> omega)) | skip); all_goals (try (refine ⟨rfl, (by first | exact Nat.le_refl _ | exact Nat.le_of_ble_eq_true rfl), rfl, rfl, ?_, (by repeat' (first | exact trivial | rfl | apply And.intro)), rfl, rfl⟩)))
      all_goals (try first | omega | (show _ ≤ 9223372036854775807; simp only [ByteArray.size_append, szb]; omega))
      exact ⟨ih (by omega) (by omega) [0] _ _ ⟨rfl, rfl, rfl, (by repeat' (first | exact trivial | rfl | apply And.intro)), (by repeat' (first | exact trivial | rfl | apply And.intro)), rfl, rfl, rfl⟩⟩
    · rw [if_neg h0] at ih
      refine Goes.tree Γ_ok htb 1000 false false Tryd.func34 rfl ?_
      ((try simp only [decide_eq_true_eq, decide_eq_false_iff_not, Bool.not_eq_true', Bool.not_eq_false', Bool.not_true, Bool.not_false, Bool.and_eq_true, Bool.or_eq_true, bne_iff_ne, beq_iff_eq, ne_eq]); (try simp only [rng, lo, hi, mnI, mxI, Int.toNat_natCast, Sg.n, Nat.mul_one, Nat.zero_add, Nat.add_zero, Nat.reduceAdd, List.getD_cons_zero, List.getD_cons_succ]))
      ((repeat' (first | (with_reducible apply And.intro) | intro _)); all_goals (first | exact trivial | (with_reducible assumption) | (show (_ : List Blk) = _; rfl) | (first | exact trivial | (with_reducible assumption) | omega | (split <;> omega) | (split <;> split <;> omega)) | skip); all_goals (try (refine ⟨rfl, (by first | exact Nat.le_refl _ | exact Nat.le_of_ble_eq_true rfl), rfl, rfl, ?_, (by repeat' (first | exact trivial | rfl | apply And.intro)), rfl, rfl⟩)))
      all_goals (try first | omega | (show _ ≤ 9223372036854775807; simp only [ByteArray.size_append, szb]; omega))
      exact ⟨ih (by omega) (by omega) [0] _ _ ⟨rfl, rfl, rfl, (by repeat' (first | exact trivial | rfl | apply And.intro)), (by repeat' (first | exact trivial | rfl | apply And.intro)), rfl, rfl, rfl⟩⟩
  · obtain rfl : i = 11 := by omega
    clear ih
    have e11 : gW xs 11 = digS (xs.getD 11 0).toNat := rfl
    have hg11 := hg 11 (by omega)
    rw [e11] at hg11
    refine Goes.tree Γ_ok htb 1000 false false Tryd.func34 rfl ?_
    ((try simp only [decide_eq_true_eq, decide_eq_false_iff_not, Bool.not_eq_true', Bool.not_eq_false', Bool.not_true, Bool.not_false, Bool.and_eq_true, Bool.or_eq_true, bne_iff_ne, beq_iff_eq, ne_eq]); (try simp only [rng, lo, hi, mnI, mxI, Int.toNat_natCast, Sg.n, Nat.mul_one, Nat.zero_add, Nat.add_zero, Nat.reduceAdd, List.getD_cons_zero, List.getD_cons_succ]))
    ((repeat' (first | (with_reducible apply And.intro) | intro _)); all_goals (first | exact trivial | (with_reducible assumption) | (show (_ : List Blk) = _; rfl) | (first | exact trivial | (with_reducible assumption) | omega | (split <;> omega) | (split <;> split <;> omega)) | skip); all_goals (try (refine ⟨rfl, (by first | exact Nat.le_refl _ | exact Nat.le_of_ble_eq_true rfl), rfl, rfl, ?_, (by repeat' (first | exact trivial | rfl | apply And.intro)), rfl, rfl⟩)))
    all_goals (try first | omega | (show _ ≤ 9223372036854775807; simp only [ByteArray.size_append, szb]; omega))
    exact sameA_refl _
def groVS : Fun
  | [.ag .gro xs], [] => some (.s (if okG xs then groT xs else ⟨#[]⟩), [], [])
  | _, _ => .none
set_option maxRecDepth 100000 in
theorem s_specGrowthText : Sound Tryd.prog 9 groVS := by
  intro args M r M' vs h hvs
  unfold groVS at h
  split at h
  case h_2 => cases h
  rename_i xs
  cases h
  refine SpecOK.assume fun hA hM => ?_
  have htb := (TbOk.cons s_l04Ok Tryd.func33 rfl rfl (TbOk.cons s_l04Text Tryd.func34 rfl rfl (TbOk.nil : TbOk Tryd.prog tb0)))
  refine SpecOK.of_goes [] Tryd.func9 rfl ?_
  clear hA hM
  refine Goes.tree Γ_ok htb 1000 false false Tryd.func9 rfl ?_
  ((try simp only [decide_eq_true_eq, decide_eq_false_iff_not, Bool.not_eq_true', Bool.not_eq_false', Bool.not_true, Bool.not_false, Bool.and_eq_true, Bool.or_eq_true, bne_iff_ne, beq_iff_eq, ne_eq]); (try simp only [rng, lo, hi, mnI, mxI, Int.toNat_natCast, Sg.n, Nat.mul_one, Nat.zero_add, Nat.add_zero, Nat.reduceAdd, List.getD_cons_zero, List.getD_cons_succ]))
  ((repeat' (first | (with_reducible apply And.intro) | intro _)); all_goals (first | exact trivial | (with_reducible assumption) | (show (_ : List Blk) = _; rfl) | (first | exact trivial | (with_reducible assumption) | omega | (split <;> omega) | (split <;> split <;> omega)) | skip); all_goals (try (refine ⟨rfl, (by first | exact Nat.le_refl _ | exact Nat.le_of_ble_eq_true rfl), rfl, rfl, ?_, (by repeat' (first | exact trivial | rfl | apply And.intro)), rfl, rfl⟩)))
  · rename_i h
    rw [if_neg h]; exact sameA_refl _
  · rename_i h
    rw [if_pos h]; exact sameA_refl _
set_option maxRecDepth 100000 in
theorem s_implGrowthText : Sound Tryd.prog 11 groVS := by
  intro args M r M' vs h hvs
  unfold groVS at h
  split at h
  case h_2 => cases h
  rename_i xs
  cases h
  refine SpecOK.assume fun hA hM => ?_
  have htb := (TbOk.cons s_implValidGrowth Tryd.func36 rfl rfl (TbOk.cons s_decimT Tryd.func37 rfl rfl (TbOk.cons s_joinO Tryd.func38 rfl rfl (TbOk.nil : TbOk Tryd.prog tb0))))
  refine SpecOK.of_goes [] Tryd.func11 rfl ?_
  have hl : xs.length = 12 := hA.1
  clear hA hM
  refine Goes.tree Γ_ok htb 1000 false false Tryd.func11 rfl ?_
  ((try simp only [decide_eq_true_eq, decide_eq_false_iff_not, Bool.not_eq_true', Bool.not_eq_false', Bool.not_true, Bool.not_false, Bool.and_eq_true, Bool.or_eq_true, bne_iff_ne, beq_iff_eq, ne_eq]); (try simp only [rng, lo, hi, mnI, mxI, Int.toNat_natCast, Sg.n, Nat.mul_one, Nat.zero_add, Nat.add_zero, Nat.reduceAdd, List.getD_cons_zero, List.getD_cons_succ]))
  ((repeat' (first | (with_reducible apply And.intro) | intro _)); all_goals (first | exact trivial | (with_reducible assumption) | (show (_ : List Blk) = _; rfl) | (first | exact trivial | (with_reducible assumption) | omega | (split <;> omega) | (split <;> split <;> omega)) | skip); all_goals (try (refine ⟨rfl, (by first | exact Nat.le_refl _ | exact Nat.le_of_ble_eq_true rfl), rfl, rfl, ?_, (by repeat' (first | exact trivial | rfl | apply And.intro)), rfl, rfl⟩)))
  · rename_i h
    rw [if_neg h]; exact sameA_refl _
  rename_i hok
  rw [if_pos hok]
  have hg := gW_len hok
  have hT := txF_len (sep := ⟨#[44]⟩) (f := gW xs) (b := 1001) (Nat.le_refl 1) 11 fun j hj => hg j (by omega)
  have h11 := hok.2
  have htk : ∀ i, i < 11 → (List.take 11 (List.drop 0 xs)).getD i 0 = xs.getD i 0 := fun i h => by
    rw [List.drop_zero, List.getD_eq_getElem?_getD, List.getElem?_take_of_lt h, ← List.getD_eq_getElem?_getD]
  refine ⟨?_⟩
  refine Goes.loopR (fun i : Nat => 11 - i) (fun i => i ≤ 11) (fun i => (.any :: .pw 0 .gro :: .any :: .ow 1 (wdF (gW xs) i).length .str 9 :: .any :: .any :: .any :: .any :: .any :: .any :: .any :: .ag .tab (List.take 11 (List.drop 0 xs)) :: .i .i64 (i:Int) :: .any :: .any :: .any :: .any :: .any :: .any :: .any :: .any :: .any :: .any :: .any :: .any :: .any :: .any :: .any :: .any :: .any :: [])) (fun i => [.c .gro xs, .s (wdF (gW xs) i)]) 0 [0, 1] (Nat.zero_le _) ⟨rfl, rfl, rfl, (by repeat' (first | exact trivial | rfl | apply And.intro)), (by repeat' (first | exact trivial | rfl | apply And.intro)), rfl, rfl, rfl⟩ fun i hib ih => ?_
  have hwl := wdF_len (gW xs) i
  by_cases hlt : i < 11
  · have hci := hok.1 i hlt
    have hgi := hg i (by omega)
    have hti := htk i hlt
    have ek : wdF (gW xs) (i + 1) = wdF (gW xs) i ++ [digS (xs.getD i 0).toNat] := rfl
    have ih := ih (i + 1)
    rw [ek] at ih
    unfold gW at hgi
    refine Goes.tree Γ_ok htb 1000 false false Tryd.func11 rfl ?_
    ((try simp only [decide_eq_true_eq, decide_eq_false_iff_not, Bool.not_eq_true', Bool.not_eq_false', Bool.not_true, Bool.not_false, Bool.and_eq_true, Bool.or_eq_true, bne_iff_ne, beq_iff_eq, ne_eq]); (try simp only [rng, lo, hi, mnI, mxI, Int.toNat_natCast, Sg.n, Nat.mul_one, Nat.zero_add, Nat.add_zero, Nat.reduceAdd, List.getD_cons_zero, List.getD_cons_succ, hti]))
    ((repeat' (first | (with_reducible apply And.intro) | intro _)); all_goals (first | exact trivial | (with_reducible assumption) | (show (_ : List Blk) = _; rfl) | (first | exact trivial | (with_reducible assumption) | omega | (split <;> omega) | (split <;> split <;> omega)) | skip); all_goals (try (refine ⟨rfl, (by first | exact Nat.le_refl _ | exact Nat.le_of_ble_eq_true rfl), rfl, rfl, ?_, (by repeat' (first | exact trivial | rfl | apply And.intro)), rfl, rfl⟩)))
    all_goals (try first | omega | (show _ ≤ 9223372036854775807; omega) | (show (wdF (gW xs) i ++ [_]).length ≤ _; rw [List.length_append, hwl]; show i + 1 ≤ _; omega))
    exact ⟨ih (by omega) (by omega) [0, 3] _ _ ⟨rfl, rfl, rfl, (by repeat' (first | exact trivial | rfl | apply And.intro)), (by repeat' (first | exact trivial | rfl | apply And.intro)), rfl, rfl, rfl⟩⟩
  · obtain rfl : i = 11 := by omega
    clear ih
    have hj := joinL_txF ⟨#[44]⟩ (gW xs) 11
    have e11 : gW xs 11 = digS (xs.getD 11 0).toNat := rfl
    have hg11 := hg 11 (by omega)
    rw [e11] at hg11
    refine Goes.tree Γ_ok htb 1000 false false Tryd.func11 rfl ?_
    ((try simp only [decide_eq_true_eq, decide_eq_false_iff_not, Bool.not_eq_true', Bool.not_eq_false', Bool.not_true, Bool.not_false, Bool.and_eq_true, Bool.or_eq_true, bne_iff_ne, beq_iff_eq, ne_eq]); (try simp only [rng, lo, hi, mnI, mxI, Int.toNat_natCast, Sg.n, Nat.mul_one, Nat.zero_add, Nat.add_zero, Nat.reduceAdd, List.getD_cons_zero, List.getD_cons_succ, hj]))
    ((repeat' (first | (with_reducible apply And.intro) | intro _)); all_goals (first | exact trivial | (with_reducible assumption) | (show (_ : List Blk) = _; rfl) | (first | exact trivial | (with_reducible assumption) | omega | (split <;> omega) | (split <;> split <;> omega)) | skip); all_goals (try (refine ⟨rfl, (by first | exact Nat.le_refl _ | exact Nat.le_of_ble_eq_true rfl), rfl, rfl, ?_, (by repeat' (first | exact trivial | rfl | apply And.intro)), rfl, rfl⟩)))
    all_goals (try first | omega | (show _ ≤ 9223372036854775807; simp only [ByteArray.size_append, szb]; omega))
    exact sameA_refl _
end Go.Proofs.YtplnfdgokpgbcaaDoor
