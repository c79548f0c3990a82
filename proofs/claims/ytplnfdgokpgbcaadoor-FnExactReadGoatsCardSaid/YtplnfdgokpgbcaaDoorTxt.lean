/- Numbers' texts and joined texts: the library by the kit's contracts; the spec. -/
import Derived.Test.YtplnfdgokpgbcaaDoorTextLay
import Derived.Test.YtplnfdgokpgbcaaDoorLists
import Derived.Test.YtplnfdgokpgbcaaDoorEngG
namespace Go.Proofs.YtplnfdgokpgbcaaDoor
open Go Go.Eng
set_option linter.unusedSimpArgs false
set_option linter.unusedVariables false
set_option maxRecDepth 100000
set_option maxHeartbeats 4000000

/-- A number's text. -/
def digS (n : Nat) : ByteArray := ⟨(Lib.decDigits n).toArray⟩
theorem dig_one {n : Nat} (h : n < 10) : digS n = ⟨#[UInt8.ofNat (48 + n)]⟩ := by
  unfold digS Lib.decDigits
  rw [dif_pos h]
theorem dig_one' {n : Nat} (h : n < 10) : digS n = ⟨#[UInt8.ofNat (48 + n % 10)]⟩ := by rw [dig_one h, Nat.mod_eq_of_lt h]
theorem dig_more {n : Nat} (h : ¬ n < 10) : digS n = digS (n / 10) ++ ⟨#[UInt8.ofNat (48 + n % 10)]⟩ := by
  have e : Lib.decDigits n = Lib.decDigits (n / 10) ++ [UInt8.ofNat (48 + n % 10)] := by
    rw [Lib.decDigits, dif_neg h]
  unfold digS
  rw [e, ByteArray.ext_iff]
  simp
theorem dec_len (n : Nat) : (Lib.decDigits n).length ≤ n + 1 := by
  induction n using Nat.strongRecOn with
  | ind n ih =>
    unfold Lib.decDigits
    split
    · simp
    · rw [List.length_append]
      have := ih (n / 10) (by omega)
      simp only [List.length_cons, List.length_nil]; omega
theorem dig_len (n : Nat) : (digS n).size ≤ n + 1 := by
  have := dec_len n
  unfold digS
  simpa [ByteArray.size] using this

def fmtS : Fun
  | [.i .i64 n, .i .i64 b], [] => some (.s (digS n.toNat), [], [0 ≤ n ∧ n < 100 ∧ b = 10])
  | _, _ => .none
theorem s_fmt : Sound Tryd.prog 80 fmtS := by
  intro args M r M' vs h hvs
  unfold fmtS at h
  split at h
  case h_2 => cases h
  rename_i n b
  cases h
  obtain ⟨⟨h0, h1, rfl⟩, -⟩ := hvs
  intro ρ vals w hD hM hid
  match vals, hD with
  | [v, u], ⟨hv, hu, _⟩ =>
  obtain ⟨rfl, -⟩ := hv
  obtain ⟨rfl, -⟩ := hu
  have hc := Any.strconv_FormatInt_10_small Tryd.lays173 n.toNat (by omega) w
  rw [Int.toNat_of_nonneg h0] at hc
  refine hc.mono ?_
  rintro e w' ⟨rfl, rfl⟩
  have hl := dig_len n.toNat
  exact ⟨_, ρ, rfl, ⟨rfl, by show _ ≤ 9223372036854775807; omega⟩, After.refl hM, fun i hi => (by simp [AV.ids] at hi)⟩

/-- With the library's table: every number from 0 on. -/
def fmtTS : Fun
  | [.i .i64 n, .i .i64 b], [] => some (.s (digS n.toNat), [], [0 ≤ n ∧ n ≤ 1000000 ∧ b = 10])
  | _, _ => .none
theorem s_fmtT : Sound Tryd.prog 80 fmtTS := by
  intro args M r M' vs h hvs
  unfold fmtTS at h
  split at h
  case h_2 => cases h
  rename_i n b
  cases h
  obtain ⟨⟨h0, h1, rfl⟩, -⟩ := hvs
  intro ρ vals w hD hM hid
  match vals, hD with
  | [v, u], ⟨hv, hu, _⟩ =>
  obtain ⟨rfl, -⟩ := hv
  obtain ⟨rfl, -⟩ := hu
  have htab : Lib.TabIs Tryd.prog w "internal/strconv.uint64pow10" .u64 Lib.pow10Tab := by
    have hg := ρ.ok w fun k o hk => (hM.env k o hk).1
    first | exact hg | exact hg.1
  refine (Any.strconv_FormatInt_10 Tryd.laysM173 n (by omega) (by omega) w htab).mono ?_
  rintro e w' ⟨rfl, k, os, rfl⟩
  have hl := dig_len n.toNat
  have e1 : Lib.itoa n = Lib.decDigits n.toNat := if_neg (by omega)
  refine ⟨_, ρ, rfl, ⟨by rw [e1]; rfl, by show _ ≤ 9223372036854775807; omega⟩, After.quiet hM ⟨rfl, rfl, rfl, ?_, fun k hk => ?_⟩, fun i hi => (by simp [AV.ids] at hi)⟩
  · show w.heap.size ≤ (w.heap ++ os).size
    simp
  · show (w.heap ++ os)[k]? = w.heap[k]?
    rw [Array.getElem?_append_left hk]

def joinL (l : List ByteArray) (sep : ByteArray) : ByteArray := ⟨(Lib.join (l.map (·.data.toList)) sep.data.toList).toArray⟩
def joinS : Fun
  | [.fstr l, .s sep], [] => some (.s (joinL l sep), [], [(joinL l sep).size ≤ 140737488355328 ∧ l.length ≤ 140737488355328])
  | _, _ => .none
theorem s_join : Sound Tryd.prog 38 joinS := by
  intro args M r M' vs h hvs
  unfold joinS at h
  split at h
  case h_2 => cases h
  rename_i l sep
  cases h
  obtain ⟨⟨h0, h1⟩, -⟩ := hvs
  intro ρ vals w hD hM hid
  match vals, hD with
  | [v, u], ⟨hv, hu, _⟩ =>
  obtain ⟨h3, a, cap, rfl, hcap, h5⟩ := hv
  obtain ⟨rfl, -⟩ := hu
  rcases h5 with rfl | ⟨k, o, C, ty, fz, rfl, hF, hC⟩
  · refine (Any.strings_Join_none Tryd.lays156 Tryd.Builder_Extra_156 a cap sep w).mono ?_
    rintro e w' ⟨rfl, rfl⟩
    exact ⟨_, ρ, rfl, ⟨rfl, Nat.le_trans h0 (by decide)⟩, After.refl hM, fun i hi => (by simp [AV.ids] at hi)⟩
  · have hk := (hM.env k _ hF).1
    refine (Any.strings_Join Tryd.lays156 Tryd.Builder_Extra_156 k o cap l sep w (fun j x hj => ?_) (Array.getElem?_eq_some_iff.1 hk).1 h1 hcap ?_).mono ?_
    · rw [cell_of_row w _ _ C _ _ hk]
      exact (hC j x hj).1
    · have := h0
      unfold joinL at this
      simpa [ByteArray.size] using this
    · rintro e w' ⟨rfl, hb⟩
      exact ⟨_, ρ, rfl, ⟨rfl, Nat.le_trans h0 (by decide)⟩, After.quiet hM hb, fun i hi => (by simp [AV.ids] at hi)⟩

/-- A list of one's own is joined. -/
def joinOS : Fun
  | [.ow 0 n .str e, .s sep], [.s l] => some (.s (joinL l sep), [.s l], [(joinL l sep).size ≤ 140737488355328 ∧ l.length ≤ 140737488355328])
  | _, _ => .none
theorem s_joinO : Sound Tryd.prog 38 joinOS := by
  intro args M r M' vs h hvs
  unfold joinOS at h
  split at h
  case h_2 => cases h
  rename_i n e sep l
  cases h
  obtain ⟨⟨h0, h1⟩, -⟩ := hvs
  intro ρ vals w hD hM hid
  match vals, hD with
  | [v, u], ⟨hv, hu, _⟩ =>
  obtain ⟨cap, rfl, q1, q2, q3, q4, q5, q6, q7⟩ := hv
  obtain ⟨rfl, -⟩ := hu
  obtain ⟨C, c1, c2, c3, c4, c5, c6⟩ := hM.blk 0 _ rfl
  have hn : n = l.length := by rw [c4, q5]; simp [Sg.n]
  subst hn
  refine (Any.strings_Join Tryd.lays156 Tryd.Builder_Extra_156 (ρ 0).blk 0 cap l sep w (fun j x hj => ?_) (Array.getElem?_eq_some_iff.1 c1).1 h1 q1 ?_).mono ?_
  · rw [cell_of_row w _ _ C _ _ c1, Nat.zero_add]
    exact (c6 j x hj).1
  · have := h0
    unfold joinL at this
    simpa [ByteArray.size] using this
  · rintro e w' ⟨rfl, hb⟩
    exact ⟨_, ρ, rfl, ⟨rfl, Nat.le_trans h0 (by decide)⟩, After.quietM hM hb, fun i hi => (by simp [AV.ids] at hi)⟩

/-! Words, one after the other, and joined. -/
def wdF (f : Nat → ByteArray) : Nat → List ByteArray
  | 0 => []
  | i + 1 => wdF f i ++ [f i]
def txF (sep : ByteArray) (f : Nat → ByteArray) : Nat → ByteArray
  | 0 => ⟨#[]⟩
  | i + 1 => (if 0 < i then txF sep f i ++ sep else txF sep f i) ++ f i
theorem wdF_len (f : Nat → ByteArray) : ∀ i, (wdF f i).length = i := by
  intro i
  induction i with
  | zero => rfl
  | succ i ih => unfold wdF; rw [List.length_append, ih]; rfl
theorem join_snoc' {l : List (List UInt8)} {x sep : List UInt8} (h : l ≠ []) : Lib.join (l ++ [x]) sep = Lib.join l sep ++ sep ++ x := by
  match l, h with
  | y :: r, _ =>
    rw [List.cons_append, Lib.join_cons, Lib.join_cons]
    unfold Lib.joinTail
    simp
theorem joinL_txF (sep : ByteArray) (f : Nat → ByteArray) : ∀ i, joinL (wdF f i) sep = txF sep f i := by
  intro i
  induction i with
  | zero => rfl
  | succ i ih =>
    have hl := wdF_len f i
    unfold wdF txF
    rw [← ih]
    unfold joinL
    rw [List.map_append]
    by_cases h0 : 0 < i
    · rw [if_pos h0]
      rw [show ([f i].map fun x : ByteArray => x.data.toList) = [(f i).data.toList] from rfl, join_snoc' (fun h => by rw [List.map_eq_nil_iff] at h; rw [h] at hl; simp at hl; omega)]
      rw [ByteArray.ext_iff]
      simp
    · obtain rfl : i = 0 := by omega
      rw [if_neg h0]
      show (⟨(Lib.join [(f 0).data.toList] sep.data.toList).toArray⟩ : ByteArray) = _
      rw [Lib.join_one, ByteArray.ext_iff]
      unfold wdF
      simp [Lib.join_nil]
theorem txF_len {sep : ByteArray} {f : Nat → ByteArray} {b : Nat} (hs : sep.size ≤ 1) : ∀ i, (∀ j, j < i → (f j).size ≤ b) → (txF sep f i).size ≤ (b + 1) * i := by
  intro i
  induction i with
  | zero => intro _; exact Nat.le_refl 0
  | succ i ih =>
    intro h
    have h1 := ih fun j hj => h j (by omega)
    have h2 := h i (by omega)
    unfold txF
    rw [ByteArray.size_append, Nat.mul_succ]
    split
    · rw [ByteArray.size_append]; omega
    · omega
theorem szb (b : UInt8) : (ByteArray.mk #[b]).size = 1 := rfl

/-- The spec's numeral, by levels. -/
def decS (k : Nat) : Fun
  | [.i .i64 n], [] => some (.s (digS n.toNat), [], [0 ≤ n ∧ n < 10 ^ k])
  | _, _ => .none
theorem one_row' {α : Type} (a s : α) : (List.replicate 1 a).set 0 s = [s] := rfl
theorem by1 (m : Nat) : bytesR [[48 + ((m % 10 : Nat) : Int)]] = ⟨#[UInt8.ofNat (48 + m % 10)]⟩ := by
  show (⟨#[UInt8.ofNat (48 + ((m % 10 : Nat) : Int)).toNat]⟩ : ByteArray) = _
  rw [show (48 + ((m % 10 : Nat) : Int)).toNat = 48 + m % 10 from by omega]
theorem by_len (m : Nat) : (digS (m / 10) ++ bytesR [[48 + ((m % 10 : Nat) : Int)]]).size = (digS (m / 10)).size + 1 := by
  rw [ByteArray.size_append]; rfl
set_option maxRecDepth 100000 in
theorem s_dec1 : Sound Tryd.prog 76 (decS 1) := by
  intro args M r M' vs h hvs
  unfold decS at h
  split at h
  case h_2 => cases h
  rename_i n
  cases h
  refine SpecOK.assume fun hA hM => ?_
  have htb := (TbOk.nil : TbOk Tryd.prog tb0)
  refine SpecOK.of_goes [] Tryd.func76 rfl ?_
  obtain ⟨⟨h0, h1⟩, -⟩ := hvs
  obtain ⟨m, rfl⟩ : ∃ m : Nat, n = (m : Int) := ⟨n.toNat, by omega⟩
  have hr : Int.tmod (m : Int) 10 = ((m % 10 : Nat) : Int) := by rw [Int.tmod_eq_emod_of_nonneg h0]; omega
  have hq : Int.tdiv (m : Int) 10 = ((m / 10 : Nat) : Int) := by rw [Int.tdiv_eq_ediv_of_nonneg h0]; omega
  have hl := dig_len (m / 10)
  have hb := by1 m
  have hs := by_len m
  clear hA hM
  refine Goes.tree Γ_ok htb 1000 false false Tryd.func76 rfl ?_
  ((try simp only [decide_eq_true_eq, decide_eq_false_iff_not, Bool.not_eq_true', Bool.not_eq_false', Bool.not_true, Bool.not_false, Bool.and_eq_true, Bool.or_eq_true, bne_iff_ne, beq_iff_eq, ne_eq]); (try simp only [rng, lo, hi, mnI, mxI, Int.toNat_natCast, Sg.n, Nat.mul_one, Nat.zero_add, Nat.add_zero, Nat.reduceAdd, List.getD_cons_zero, List.getD_cons_succ, hr, hq, one_row']))
  ((repeat' (first | (with_reducible apply And.intro) | intro _)); all_goals (first | exact trivial | (with_reducible assumption) | (show (_ : List Blk) = _; rfl) | (first | exact trivial | (with_reducible assumption) | omega | (split <;> omega) | (split <;> split <;> omega)) | skip); all_goals (try (refine ⟨rfl, (by first | exact Nat.le_refl _ | exact Nat.le_of_ble_eq_true rfl), rfl, rfl, ?_, (by repeat' (first | exact trivial | rfl | apply And.intro)), rfl, rfl⟩)))
  all_goals (try first | rfl | (show _ ≤ 9223372036854775807; first | decide | omega | (rw [hs]; omega)) | omega)
  · rename_i h
    rw [hb, ← dig_one' (by omega : m < 10)]; exact sameA_refl _
set_option maxRecDepth 100000 in
theorem s_dec2 : Sound Tryd.prog 76 (decS 2) := by
  intro args M r M' vs h hvs
  unfold decS at h
  split at h
  case h_2 => cases h
  rename_i n
  cases h
  refine SpecOK.assume fun hA hM => ?_
  have htb := (TbOk.cons s_dec1 Tryd.func76 rfl rfl (TbOk.nil : TbOk Tryd.prog tb0))
  refine SpecOK.of_goes [] Tryd.func76 rfl ?_
  obtain ⟨⟨h0, h1⟩, -⟩ := hvs
  obtain ⟨m, rfl⟩ : ∃ m : Nat, n = (m : Int) := ⟨n.toNat, by omega⟩
  have hr : Int.tmod (m : Int) 10 = ((m % 10 : Nat) : Int) := by rw [Int.tmod_eq_emod_of_nonneg h0]; omega
  have hq : Int.tdiv (m : Int) 10 = ((m / 10 : Nat) : Int) := by rw [Int.tdiv_eq_ediv_of_nonneg h0]; omega
  have hl := dig_len (m / 10)
  have hb := by1 m
  have hs := by_len m
  clear hA hM
  refine Goes.tree Γ_ok htb 1000 false false Tryd.func76 rfl ?_
  ((try simp only [decide_eq_true_eq, decide_eq_false_iff_not, Bool.not_eq_true', Bool.not_eq_false', Bool.not_true, Bool.not_false, Bool.and_eq_true, Bool.or_eq_true, bne_iff_ne, beq_iff_eq, ne_eq]); (try simp only [rng, lo, hi, mnI, mxI, Int.toNat_natCast, Sg.n, Nat.mul_one, Nat.zero_add, Nat.add_zero, Nat.reduceAdd, List.getD_cons_zero, List.getD_cons_succ, hr, hq, one_row']))
  ((repeat' (first | (with_reducible apply And.intro) | intro _)); all_goals (first | exact trivial | (with_reducible assumption) | (show (_ : List Blk) = _; rfl) | (first | exact trivial | (with_reducible assumption) | omega | (split <;> omega) | (split <;> split <;> omega)) | skip); all_goals (try (refine ⟨rfl, (by first | exact Nat.le_refl _ | exact Nat.le_of_ble_eq_true rfl), rfl, rfl, ?_, (by repeat' (first | exact trivial | rfl | apply And.intro)), rfl, rfl⟩)))
  all_goals (try first | rfl | (show _ ≤ 9223372036854775807; first | decide | omega | (rw [hs]; omega)) | omega)
  · rename_i h
    rw [hb, ← dig_one' (by omega : m < 10)]; exact sameA_refl _
  · rename_i h
    show sameA (.s (digS m)) (.s (digS (m / 10) ++ bytesR [[48 + ((m % 10 : Nat) : Int)]]))
    rw [hb, ← dig_more (by omega : ¬ m < 10)]; exact sameA_refl _
set_option maxRecDepth 100000 in
theorem s_dec3 : Sound Tryd.prog 76 (decS 3) := by
  intro args M r M' vs h hvs
  unfold decS at h
  split at h
  case h_2 => cases h
  rename_i n
  cases h
  refine SpecOK.assume fun hA hM => ?_
  have htb := (TbOk.cons s_dec2 Tryd.func76 rfl rfl (TbOk.nil : TbOk Tryd.prog tb0))
  refine SpecOK.of_goes [] Tryd.func76 rfl ?_
  obtain ⟨⟨h0, h1⟩, -⟩ := hvs
  obtain ⟨m, rfl⟩ : ∃ m : Nat, n = (m : Int) := ⟨n.toNat, by omega⟩
  have hr : Int.tmod (m : Int) 10 = ((m % 10 : Nat) : Int) := by rw [Int.tmod_eq_emod_of_nonneg h0]; omega
  have hq : Int.tdiv (m : Int) 10 = ((m / 10 : Nat) : Int) := by rw [Int.tdiv_eq_ediv_of_nonneg h0]; omega
  have hl := dig_len (m / 10)
  have hb := by1 m
  have hs := by_len m
  clear hA hM
  refine Goes.tree Γ_ok htb 1000 false false Tryd.func76 rfl ?_
  ((try simp only [decide_eq_true_eq, decide_eq_false_iff_not, Bool.not_eq_true', Bool.not_eq_false', Bool.not_true, Bool.not_false, Bool.and_eq_true, Bool.or_eq_true, bne_iff_ne, beq_iff_eq, ne_eq]); (try simp only [rng, lo, hi, mnI, mxI, Int.toNat_natCast, Sg.n, Nat.mul_one, Nat.zero_add, Nat.add_zero, Nat.reduceAdd, List.getD_cons_zero, List.getD_cons_succ, hr, hq, one_row']))
  ((repeat' (first | (with_reducible apply And.intro) | intro _)); all_goals (first | exact trivial | (with_reducible assumption) | (show (_ : List Blk) = _; rfl) | (first | exact trivial | (with_reducible assumption) | omega | (split <;> omega) | (split <;> split <;> omega)) | skip); all_goals (try (refine ⟨rfl, (by first | exact Nat.le_refl _ | exact Nat.le_of_ble_eq_true rfl), rfl, rfl, ?_, (by repeat' (first | exact trivial | rfl | apply And.intro)), rfl, rfl⟩)))
  all_goals (try first | rfl | (show _ ≤ 9223372036854775807; first | decide | omega | (rw [hs]; omega)) | omega)
  · rename_i h
    rw [hb, ← dig_one' (by omega : m < 10)]; exact sameA_refl _
  · rename_i h
    show sameA (.s (digS m)) (.s (digS (m / 10) ++ bytesR [[48 + ((m % 10 : Nat) : Int)]]))
    rw [hb, ← dig_more (by omega : ¬ m < 10)]; exact sameA_refl _
set_option maxRecDepth 100000 in
theorem s_dec4 : Sound Tryd.prog 76 (decS 4) := by
  intro args M r M' vs h hvs
  unfold decS at h
  split at h
  case h_2 => cases h
  rename_i n
  cases h
  refine SpecOK.assume fun hA hM => ?_
  have htb := (TbOk.cons s_dec3 Tryd.func76 rfl rfl (TbOk.nil : TbOk Tryd.prog tb0))
  refine SpecOK.of_goes [] Tryd.func76 rfl ?_
  obtain ⟨⟨h0, h1⟩, -⟩ := hvs
  obtain ⟨m, rfl⟩ : ∃ m : Nat, n = (m : Int) := ⟨n.toNat, by omega⟩
  have hr : Int.tmod (m : Int) 10 = ((m % 10 : Nat) : Int) := by rw [Int.tmod_eq_emod_of_nonneg h0]; omega
  have hq : Int.tdiv (m : Int) 10 = ((m / 10 : Nat) : Int) := by rw [Int.tdiv_eq_ediv_of_nonneg h0]; omega
  have hl := dig_len (m / 10)
  have hb := by1 m
  have hs := by_len m
  clear hA hM
  refine Goes.tree Γ_ok htb 1000 false false Tryd.func76 rfl ?_
  ((try simp only [decide_eq_true_eq, decide_eq_false_iff_not, Bool.not_eq_true', Bool.not_eq_false', Bool.not_true, Bool.not_false, Bool.and_eq_true, Bool.or_eq_true, bne_iff_ne, beq_iff_eq, ne_eq]); (try simp only [rng, lo, hi, mnI, mxI, Int.toNat_natCast, Sg.n, Nat.mul_one, Nat.zero_add, Nat.add_zero, Nat.reduceAdd, List.getD_cons_zero, List.getD_cons_succ, hr, hq, one_row']))
  ((repeat' (first | (with_reducible apply And.intro) | intro _)); all_goals (first | exact trivial | (with_reducible assumption) | (show (_ : List Blk) = _; rfl) | (first | exact trivial | (with_reducible assumption) | omega | (split <;> omega) | (split <;> split <;> omega)) | skip); all_goals (try (refine ⟨rfl, (by first | exact Nat.le_refl _ | exact Nat.le_of_ble_eq_true rfl), rfl, rfl, ?_, (by repeat' (first | exact trivial | rfl | apply And.intro)), rfl, rfl⟩)))
  all_goals (try first | rfl | (show _ ≤ 9223372036854775807; first | decide | omega | (rw [hs]; omega)) | omega)
  · rename_i h
    rw [hb, ← dig_one' (by omega : m < 10)]; exact sameA_refl _
  · rename_i h
    show sameA (.s (digS m)) (.s (digS (m / 10) ++ bytesR [[48 + ((m % 10 : Nat) : Int)]]))
    rw [hb, ← dig_more (by omega : ¬ m < 10)]; exact sameA_refl _
set_option maxRecDepth 100000 in
theorem s_dec5 : Sound Tryd.prog 76 (decS 5) := by
  intro args M r M' vs h hvs
  unfold decS at h
  split at h
  case h_2 => cases h
  rename_i n
  cases h
  refine SpecOK.assume fun hA hM => ?_
  have htb := (TbOk.cons s_dec4 Tryd.func76 rfl rfl (TbOk.nil : TbOk Tryd.prog tb0))
  refine SpecOK.of_goes [] Tryd.func76 rfl ?_
  obtain ⟨⟨h0, h1⟩, -⟩ := hvs
  obtain ⟨m, rfl⟩ : ∃ m : Nat, n = (m : Int) := ⟨n.toNat, by omega⟩
  have hr : Int.tmod (m : Int) 10 = ((m % 10 : Nat) : Int) := by rw [Int.tmod_eq_emod_of_nonneg h0]; omega
  have hq : Int.tdiv (m : Int) 10 = ((m / 10 : Nat) : Int) := by rw [Int.tdiv_eq_ediv_of_nonneg h0]; omega
  have hl := dig_len (m / 10)
  have hb := by1 m
  have hs := by_len m
  clear hA hM
  refine Goes.tree Γ_ok htb 1000 false false Tryd.func76 rfl ?_
  ((try simp only [decide_eq_true_eq, decide_eq_false_iff_not, Bool.not_eq_true', Bool.not_eq_false', Bool.not_true, Bool.not_false, Bool.and_eq_true, Bool.or_eq_true, bne_iff_ne, beq_iff_eq, ne_eq]); (try simp only [rng, lo, hi, mnI, mxI, Int.toNat_natCast, Sg.n, Nat.mul_one, Nat.zero_add, Nat.add_zero, Nat.reduceAdd, List.getD_cons_zero, List.getD_cons_succ, hr, hq, one_row']))
  ((repeat' (first | (with_reducible apply And.intro) | intro _)); all_goals (first | exact trivial | (with_reducible assumption) | (show (_ : List Blk) = _; rfl) | (first | exact trivial | (with_reducible assumption) | omega | (split <;> omega) | (split <;> split <;> omega)) | skip); all_goals (try (refine ⟨rfl, (by first | exact Nat.le_refl _ | exact Nat.le_of_ble_eq_true rfl), rfl, rfl, ?_, (by repeat' (first | exact trivial | rfl | apply And.intro)), rfl, rfl⟩)))
  all_goals (try first | rfl | (show _ ≤ 9223372036854775807; first | decide | omega | (rw [hs]; omega)) | omega)
  · rename_i h
    rw [hb, ← dig_one' (by omega : m < 10)]; exact sameA_refl _
  · rename_i h
    show sameA (.s (digS m)) (.s (digS (m / 10) ++ bytesR [[48 + ((m % 10 : Nat) : Int)]]))
    rw [hb, ← dig_more (by omega : ¬ m < 10)]; exact sameA_refl _
end Go.Proofs.YtplnfdgokpgbcaaDoor
