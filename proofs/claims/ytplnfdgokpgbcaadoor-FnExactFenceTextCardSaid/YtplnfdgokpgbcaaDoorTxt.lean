/- Numbers' texts and joined texts: the library by the kit's contracts; the spec. -/
import Derived.Test.YtplnfdgokpgbcaaDoorTextLay
import Derived.Test.YtplnfdgokpgbcaaDoorLists
import Derived.Test.YtplnfdgokpgbcaaDoorEngG
namespace Go.Proofs.YtplnfdgokpgbcaaDoor
open Go Go.Eng
set_option linter.unusedSimpArgs false
set_option linter.unusedVariables false
set_option maxRecDepth 100000
set_option maxHeartbeats 4000000

/-- A number's text. -/
def digS (n : Nat) : ByteArray := ⟨(Lib.decDigits n).toArray⟩
theorem dig_one {n : Nat} (h : n < 10) : digS n = ⟨#[UInt8.ofNat (48 + n)]⟩ := by
  unfold digS Lib.decDigits
  rw [dif_pos h]
theorem dig_one' {n : Nat} (h : n < 10) : digS n = ⟨#[UInt8.ofNat (48 + n % 10)]⟩ := by rw [dig_one h, Nat.mod_eq_of_lt h]
theorem dig_more {n : Nat} (h : ¬ n < 10) : digS n = digS (n / 10) ++ ⟨#[UInt8.ofNat (48 + n % 10)]⟩ := by
  have e : Lib.decDigits n = Lib.decDigits (n / 10) ++ [UInt8.ofNat (48 + n % 10)] := by
    rw [Lib.decDigits, dif_neg h]
  unfold digS
  rw [e, ByteArray.ext_iff]
  simp
theorem dec_len (n : Nat) : (Lib.decDigits n).length ≤ n + 1 := by
  induction n using Nat.strongRecOn with
  | ind n ih =>
    unfold Lib.decDigits
    split
    · simp
    · rw [List.length_append]
      have := ih (n / 10) (by omega)
      simp only [List.length_cons, List.length_nil]; omega
theorem dig_len (n : Nat) : (digS n).size ≤ n + 1 := by
  have := dec_len n
  unfold digS
  simpa [ByteArray.size] using this

def fmtS : Fun
  | [.i .i64 n, .i .i64 b], [] => some (.s (digS n.toNat), [], [0 ≤ n ∧ n < 100 ∧ b = 10])
  | _, _ => .none
theorem s_fmt : Sound Tryd.prog 80 fmtS := by
  intro args M r M' vs h hvs
  unfold fmtS at h
  split at h
  case h_2 => cases h
  rename_i n b
  cases h
  obtain ⟨⟨h0, h1, rfl⟩, -⟩ := hvs
  intro ρ vals w hD hM hid
  match vals, hD with
  | [v, u], ⟨hv, hu, _⟩ =>
  obtain ⟨rfl, -⟩ := hv
  obtain ⟨rfl, -⟩ := hu
  have hc := Any.strconv_FormatInt_10_small Tryd.lays173 n.toNat (by omega) w
  rw [Int.toNat_of_nonneg h0] at hc
  refine hc.mono ?_
  rintro e w' ⟨rfl, rfl⟩
  have hl := dig_len n.toNat
  exact ⟨_, ρ, rfl, ⟨rfl, by show _ ≤ 9223372036854775807; omega⟩, After.refl hM, fun i hi => (by simp [AV.ids] at hi)⟩

def joinL (l : List ByteArray) (sep : ByteArray) : ByteArray := ⟨(Lib.join (l.map (·.data.toList)) sep.data.toList).toArray⟩
def joinS : Fun
  | [.fstr l, .s sep], [] => some (.s (joinL l sep), [], [(joinL l sep).size ≤ 140737488355328 ∧ l.length ≤ 140737488355328])
  | _, _ => .none
theorem s_join : Sound Tryd.prog 38 joinS := by
  intro args M r M' vs h hvs
  unfold joinS at h
  split at h
  case h_2 => cases h
  rename_i l sep
  cases h
  obtain ⟨⟨h0, h1⟩, -⟩ := hvs
  intro ρ vals w hD hM hid
  match vals, hD with
  | [v, u], ⟨hv, hu, _⟩ =>
  obtain ⟨h3, a, cap, rfl, hcap, h5⟩ := hv
  obtain ⟨rfl, -⟩ := hu
  rcases h5 with rfl | ⟨k, o, C, ty, fz, rfl, hF, hC⟩
  · refine (Any.strings_Join_none Tryd.lays156 Tryd.Builder_Extra_156 a cap sep w).mono ?_
    rintro e w' ⟨rfl, rfl⟩
    exact ⟨_, ρ, rfl, ⟨rfl, Nat.le_trans h0 (by decide)⟩, After.refl hM, fun i hi => (by simp [AV.ids] at hi)⟩
  · have hk := (hM.env k _ hF).1
    refine (Any.strings_Join Tryd.lays156 Tryd.Builder_Extra_156 k o cap l sep w (fun j x hj => ?_) (Array.getElem?_eq_some_iff.1 hk).1 h1 hcap ?_).mono ?_
    · rw [cell_of_row w _ _ C _ _ hk]
      exact (hC j x hj).1
    · have := h0
      unfold joinL at this
      simpa [ByteArray.size] using this
    · rintro e w' ⟨rfl, hb⟩
      exact ⟨_, ρ, rfl, ⟨rfl, Nat.le_trans h0 (by decide)⟩, After.quiet hM hb, fun i hi => (by simp [AV.ids] at hi)⟩

/-- The spec's numeral, by levels. -/
def decS (k : Nat) : Fun
  | [.i .i64 n], [] => some (.s (digS n.toNat), [], [0 ≤ n ∧ n < 10 ^ k])
  | _, _ => .none
theorem one_row' {α : Type} (a s : α) : (List.replicate 1 a).set 0 s = [s] := rfl
theorem by1 (m : Nat) : bytesR [[48 + ((m % 10 : Nat) : Int)]] = ⟨#[UInt8.ofNat (48 + m % 10)]⟩ := by
  show (⟨#[UInt8.ofNat (48 + ((m % 10 : Nat) : Int)).toNat]⟩ : ByteArray) = _
  rw [show (48 + ((m % 10 : Nat) : Int)).toNat = 48 + m % 10 from by omega]
theorem by_len (m : Nat) : (digS (m / 10) ++ bytesR [[48 + ((m % 10 : Nat) : Int)]]).size = (digS (m / 10)).size + 1 := by
  rw [ByteArray.size_append]; rfl
set_option maxRecDepth 100000 in
theorem s_dec1 : Sound Tryd.prog 76 (decS 1) := by
  intro args M r M' vs h hvs
  unfold decS at h
  split at h
  case h_2 => cases h
  rename_i n
  cases h
  refine SpecOK.assume fun hA hM => ?_
  have htb := (TbOk.nil : TbOk Tryd.prog tb0)
  refine SpecOK.of_goes [] Tryd.func76 rfl ?_
  obtain ⟨⟨h0, h1⟩, -⟩ := hvs
  obtain ⟨m, rfl⟩ : ∃ m : Nat, n = (m : Int) := ⟨n.toNat, by omega⟩
  have hr : Int.tmod (m : Int) 10 = ((m % 10 : Nat) : Int) := by rw [Int.tmod_eq_emod_of_nonneg h0]; omega
  have hq : Int.tdiv (m : Int) 10 = ((m / 10 : Nat) : Int) := by rw [Int.tdiv_eq_ediv_of_nonneg h0]; omega
  have hl := dig_len (m / 10)
  have hb := by1 m
  have hs := by_len m
  clear hA hM
  refine Goes.tree Γ_ok htb 1000 false false Tryd.func76 rfl ?_
  ((try simp only [decide_eq_true_eq, decide_eq_false_iff_not, Bool.not_eq_true', Bool.not_eq_false', Bool.not_true, Bool.not_false, Bool.and_eq_true, Bool.or_eq_true, bne_iff_ne, beq_iff_eq, ne_eq]); (try simp only [rng, lo, hi, mnI, mxI, Int.toNat_natCast, Sg.n, Nat.mul_one, Nat.zero_add, Nat.add_zero, Nat.reduceAdd, List.getD_cons_zero, List.getD_cons_succ, hr, hq, one_row']))
  ((repeat' (first | (with_reducible apply And.intro) | intro _)); all_goals (first | exact trivial | (with_reducible assumption) | (show (_ : List Blk) = _; rfl) | (first | exact trivial | (with_reducible assumption) | omega | (split <;> omega) | (split <;> split <;> omega)) | skip); all_goals (try (refine ⟨rfl, (by first | exact Nat.le_refl _ | exact Nat.le_of_ble_eq_true rfl), rfl, rfl, ?_, (by repeat' (first | exact trivial | rfl | apply And.intro)), rfl, rfl⟩)))
  all_goals (try first | rfl | (show _ ≤ 9223372036854775807; first | decide | omega | (rw [hs]; omega)) | omega)
  · rename_i h
    rw [hb, ← dig_one' (by omega : m < 10)]; exact sameA_refl _
set_option maxRecDepth 100000 in
theorem s_dec2 : Sound Tryd.prog 76 (decS 2) := by
  intro args M r M' vs h hvs
  unfold decS at h
  split at h
  case h_2 => cases h
  rename_i n
  cases h
  refine SpecOK.assume fun hA hM => ?_
  have htb := (TbOk.cons s_dec1 Tryd.func76 rfl rfl (TbOk.nil : TbOk Tryd.prog tb0))
  refine SpecOK.of_goes [] Tryd.func76 rfl ?_
  obtain ⟨⟨h0, h1⟩, -⟩ := hvs
  obtain ⟨m, rfl⟩ : ∃ m : Nat, n = (m : Int) := ⟨n.toNat, by omega⟩
  have hr : Int.tmod (m : Int) 10 = ((m % 10 : Nat) : Int) := by rw [Int.tmod_eq_emod_of_nonneg h0]; omega
  have hq : Int.tdiv (m : Int) 10 = ((m / 10 : Nat) : Int) := by rw [Int.tdiv_eq_ediv_of_nonneg h0]; omega
  have hl := dig_len (m / 10)
  have hb := by1 m
  have hs := by_len m
  clear hA hM
  refine Goes.tree Γ_ok htb 1000 false false Tryd.func76 rfl ?_
  ((try simp only [decide_eq_true_eq, decide_eq_false_iff_not, Bool.not_eq_true', Bool.not_eq_false', Bool.not_true, Bool.not_false, Bool.and_eq_true, Bool.or_eq_true, bne_iff_ne, beq_iff_eq, ne_eq]); (try simp only [rng, lo, hi, mnI, mxI, Int.toNat_natCast, Sg.n, Nat.mul_one, Nat.zero_add, Nat.add_zero, Nat.reduceAdd, List.getD_cons_zero, List.getD_cons_succ, hr, hq, one_row']))
  ((repeat' (first | (with_reducible apply And.intro) | intro _)); all_goals (first | exact trivial | (with_reducible assumption) | (show (_ : List Blk) = _; rfl) | (first | exact trivial | (with_reducible assumption) | omega | (split <;> omega) | (split <;> split <;> omega)) | skip); all_goals (try (refine ⟨rfl, (by first | exact Nat.le_refl _ | exact Nat.le_of_ble_eq_true rfl), rfl, rfl, ?_, (by repeat' (first | exact trivial | rfl | apply And.intro)), rfl, rfl⟩)))
  all_goals (try first | rfl | (show _ ≤ 9223372036854775807; first | decide | omega | (rw [hs]; omega)) | omega)
  · rename_i h
    rw [hb, ← dig_one' (by omega : m < 10)]; exact sameA_refl _
  · rename_i h
    show sameA (.s (digS m)) (.s (digS (m / 10) ++ bytesR [[48 + ((m % 10 : Nat) : Int)]]))
    rw [hb, ← dig_more (by omega : ¬ m < 10)]; exact sameA_refl _
set_option maxRecDepth 100000 in
theorem s_dec3 : Sound Tryd.prog 76 (decS 3) := by
  intro args M r M' vs h hvs
  unfold decS at h
  split at h
  case h_2 => cases h
  rename_i n
  cases h
  refine SpecOK.assume fun hA hM => ?_
  have htb := (TbOk.cons s_dec2 Tryd.func76 rfl rfl (TbOk.nil : TbOk Tryd.prog tb0))
  refine SpecOK.of_goes [] Tryd.func76 rfl ?_
  obtain ⟨⟨h0, h1⟩, -⟩ := hvs
  obtain ⟨m, rfl⟩ : ∃ m : Nat, n = (m : Int) := ⟨n.toNat, by omega⟩
  have hr : Int.tmod (m : Int) 10 = ((m % 10 : Nat) : Int) := by rw [Int.tmod_eq_emod_of_nonneg h0]; omega
  have hq : Int.tdiv (m : Int) 10 = ((m / 10 : Nat) : Int) := by rw [Int.tdiv_eq_ediv_of_nonneg h0]; omega
  have hl := dig_len (m / 10)
  have hb := by1 m
  have hs := by_len m
  clear hA hM
  refine Goes.tree Γ_ok htb 1000 false false Tryd.func76 rfl ?_
  ((try simp only [decide_eq_true_eq, decide_eq_false_iff_not, Bool.not_eq_true', Bool.not_eq_false', Bool.not_true, Bool.not_false, Bool.and_eq_true, Bool.or_eq_true, bne_iff_ne, beq_iff_eq, ne_eq]); (try simp only [rng, lo, hi, mnI, mxI, Int.toNat_natCast, Sg.n, Nat.mul_one, Nat.zero_add, Nat.add_zero, Nat.reduceAdd, List.getD_cons_zero, List.getD_cons_succ, hr, hq, one_row']))
  ((repeat' (first | (with_reducible apply And.intro) | intro _)); all_goals (first | exact trivial | (with_reducible assumption) | (show (_ : List Blk) = _; rfl) | (first | exact trivial | (with_reducible assumption) | omega | (split <;> omega) | (split <;> split <;> omega)) | skip); all_goals (try (refine ⟨rfl, (by first | exact Nat.le_refl _ | exact Nat.le_of_ble_eq_true rfl), rfl, rfl, ?_, (by repeat' (first | exact trivial | rfl | apply And.intro)), rfl, rfl⟩)))
  all_goals (try first | rfl | (show _ ≤ 9223372036854775807; first | decide | omega | (rw [hs]; omega)) | omega)
  · rename_i h
    rw [hb, ← dig_one' (by omega : m < 10)]; exact sameA_refl _
  · rename_i h
    show sameA (.s (digS m)) (.s (digS (m / 10) ++ bytesR [[48 + ((m % 10 : Nat) : Int)]]))
    rw [hb, ← dig_more (by omega : ¬ m < 10)]; exact sameA_refl _
set_option maxRecDepth 100000 in
theorem s_dec4 : Sound Tryd.prog 76 (decS 4) := by
  intro args M r M' vs h hvs
  unfold decS at h
  split at h
  case h_2 => cases h
  rename_i n
  cases h
  refine SpecOK.assume fun hA hM => ?_
  have htb := (TbOk.cons s_dec3 Tryd.func76 rfl rfl (TbOk.nil : TbOk Tryd.prog tb0))
  refine SpecOK.of_goes [] Tryd.func76 rfl ?_
  obtain ⟨⟨h0, h1⟩, -⟩ := hvs
  obtain ⟨m, rfl⟩ : ∃ m : Nat, n = (m : Int) := ⟨n.toNat, by omega⟩
  have hr : Int.tmod (m : Int) 10 = ((m % 10 : Nat) : Int) := by rw [Int.tmod_eq_emod_of_nonneg h0]; omega
  have hq : Int.tdiv (m : Int) 10 = ((m / 10 : Nat) : Int) := by rw [Int.tdiv_eq_ediv_of_nonneg h0]; omega
  have hl := dig_len (m / 10)
  have hb := by1 m
  have hs := by_len m
  clear hA hM
  refine Goes.tree Γ_ok htb 1000 false false Tryd.func76 rfl ?_
  ((try simp only [decide_eq_true_eq, decide_eq_false_iff_not, Bool.not_eq_true', Bool.not_eq_false', Bool.not_true, Bool.not_false, Bool.and_eq_true, Bool.or_eq_true, bne_iff_ne, beq_iff_eq, ne_eq]); (try simp only [rng, lo, hi, mnI, mxI, Int.toNat_natCast, Sg.n, Nat.mul_one, Nat.zero_add, Nat.add_zero, Nat.reduceAdd, List.getD_cons_zero, List.getD_cons_succ, hr, hq, one_row']))
  ((repeat' (first | (with_reducible apply And.intro) | intro _)); all_goals (first | exact trivial | (with_reducible assumption) | (show (_ : List Blk) = _; rfl) | (first | exact trivial | (with_reducible assumption) | omega | (split <;> omega) | (split <;> split <;> omega)) | skip); all_goals (try (refine ⟨rfl, (by first | exact Nat.le_refl _ | exact Nat.le_of_ble_eq_true rfl), rfl, rfl, ?_, (by repeat' (first | exact trivial | rfl | apply And.intro)), rfl, rfl⟩)))
  all_goals (try first | rfl | (show _ ≤ 9223372036854775807; first | decide | omega | (rw [hs]; omega)) | omega)
  · rename_i h
    rw [hb, ← dig_one' (by omega : m < 10)]; exact sameA_refl _
  · rename_i h
    show sameA (.s (digS m)) (.s (digS (m / 10) ++ bytesR [[48 + ((m % 10 : Nat) : Int)]]))
    rw [hb, ← dig_more (by omega : ¬ m < 10)]; exact sameA_refl _
set_option maxRecDepth 100000 in
theorem s_dec5 : Sound Tryd.prog 76 (decS 5) := by
  intro args M r M' vs h hvs
  unfold decS at h
  split at h
  case h_2 => cases h
  rename_i n
  cases h
  refine SpecOK.assume fun hA hM => ?_
  have htb := (TbOk.cons s_dec4 Tryd.func76 rfl rfl (TbOk.nil : TbOk Tryd.prog tb0))
  refine SpecOK.of_goes [] Tryd.func76 rfl ?_
  obtain ⟨⟨h0, h1⟩, -⟩ := hvs
  obtain ⟨m, rfl⟩ : ∃ m : Nat, n = (m : Int) := ⟨n.toNat, by omega⟩
  have hr : Int.tmod (m : Int) 10 = ((m % 10 : Nat) : Int) := by rw [Int.tmod_eq_emod_of_nonneg h0]; omega
  have hq : Int.tdiv (m : Int) 10 = ((m / 10 : Nat) : Int) := by rw [Int.tdiv_eq_ediv_of_nonneg h0]; omega
  have hl := dig_len (m / 10)
  have hb := by1 m
  have hs := by_len m
  clear hA hM
  refine Goes.tree Γ_ok htb 1000 false false Tryd.func76 rfl ?_
  ((try simp only [decide_eq_true_eq, decide_eq_false_iff_not, Bool.not_eq_true', Bool.not_eq_false', Bool.not_true, Bool.not_false, Bool.and_eq_true, Bool.or_eq_true, bne_iff_ne, beq_iff_eq, ne_eq]); (try simp only [rng, lo, hi, mnI, mxI, Int.toNat_natCast, Sg.n, Nat.mul_one, Nat.zero_add, Nat.add_zero, Nat.reduceAdd, List.getD_cons_zero, List.getD_cons_succ, hr, hq, one_row']))
  ((repeat' (first | (with_reducible apply And.intro) | intro _)); all_goals (first | exact trivial | (with_reducible assumption) | (show (_ : List Blk) = _; rfl) | (first | exact trivial | (with_reducible assumption) | omega | (split <;> omega) | (split <;> split <;> omega)) | skip); all_goals (try (refine ⟨rfl, (by first | exact Nat.le_refl _ | exact Nat.le_of_ble_eq_true rfl), rfl, rfl, ?_, (by repeat' (first | exact trivial | rfl | apply And.intro)), rfl, rfl⟩)))
  all_goals (try first | rfl | (show _ ≤ 9223372036854775807; first | decide | omega | (rw [hs]; omega)) | omega)
  · rename_i h
    rw [hb, ← dig_one' (by omega : m < 10)]; exact sameA_refl _
  · rename_i h
    show sameA (.s (digS m)) (.s (digS (m / 10) ++ bytesR [[48 + ((m % 10 : Nat) : Int)]]))
    rw [hb, ← dig_more (by omega : ¬ m < 10)]; exact sameA_refl _
end Go.Proofs.YtplnfdgokpgbcaaDoor
