/- Numerals, plain: what the spec reads and what the library reads are the same. -/
import Derived.Test.YtplnfdgokpgbcaaDoorRdS
import Derived.Lib.ParseIntBTie
namespace Go.Proofs.YtplnfdgokpgbcaaDoor
open Go Go.Eng
set_option linter.unusedSimpArgs false
set_option linter.unusedVariables false
set_option maxRecDepth 100000
set_option maxHeartbeats 4000000

def valN (l : List UInt8) : Nat := l.foldl (fun a c => 10 * a + (c.toNat - 48)) 0
def isD (c : UInt8) : Prop := 48 ≤ c.toNat ∧ c.toNat ≤ 57
/-- A numeral without needless zeros. -/
def okL (l : List UInt8) : Prop := l ≠ [] ∧ (∀ c ∈ l, isD c) ∧ ((l.headD 0).toNat = 48 → l.length = 1)
theorem valN_snoc (l : List UInt8) (c : UInt8) : valN (l ++ [c]) = 10 * valN l + (c.toNat - 48) := by simp [valN, List.foldl_append]
theorem dec_more {n : Nat} (h : ¬ n < 10) : Lib.decDigits n = Lib.decDigits (n / 10) ++ [UInt8.ofNat (48 + n % 10)] := by rw [Lib.decDigits, dif_neg h]
theorem ofNat48 {k : Nat} (h : k < 10) : (UInt8.ofNat (48 + k)).toNat = 48 + k := by
  rw [UInt8.toNat_ofNat']; omega
theorem dec_ok (n : Nat) : okL (Lib.decDigits n) ∧ valN (Lib.decDigits n) = n ∧ (0 < n → (Lib.decDigits n |>.headD 0).toNat ≠ 48) := by
  induction n using Nat.strongRecOn with
  | ind n ih =>
    by_cases h : n < 10
    · rw [Lib.decDigits_one h]
      have e := ofNat48 h
      refine ⟨⟨by simp, fun c hc => ?_, fun _ => rfl⟩, ?_, fun h0 => ?_⟩
      · rw [List.mem_singleton.1 hc]; unfold isD; rw [e]; omega
      · simp only [valN, List.foldl_cons, List.foldl_nil, e]; omega
      · show (UInt8.ofNat (48 + n)).toNat ≠ 48; rw [e]; omega
    · rw [dec_more h]
      obtain ⟨⟨i1, i2, i3⟩, i4, i5⟩ := ih (n / 10) (by omega)
      have e := ofNat48 (show n % 10 < 10 by omega)
      obtain ⟨c, l, hl⟩ := List.exists_cons_of_ne_nil i1
      have i6 := i5 (by omega)
      rw [hl] at i6
      refine ⟨⟨by simp, fun d hd => ?_, fun h0 => ?_⟩, ?_, fun _ => ?_⟩
      · rcases List.mem_append.1 hd with hd | hd
        · exact i2 d hd
        · rw [List.mem_singleton.1 hd]; unfold isD; rw [e]; omega
      · rw [hl] at h0; exact absurd h0 i6
      · rw [valN_snoc, i4, e]; omega
      · rw [hl]; exact i6
theorem dec_of {l : List UInt8} (h : okL l) : l = Lib.decDigits (valN l) := by
  have key : ∀ (k : Nat) (l : List UInt8), l.length = k → okL l → l = Lib.decDigits (valN l) := by
    intro k
    induction k using Nat.strongRecOn with
    | ind k ih =>
      intro l hk h
      obtain ⟨h1, h2, h3⟩ := h
      rcases List.eq_nil_or_concat l with e | ⟨m, c, e⟩
      · exact absurd e h1
      · rw [List.concat_eq_append] at e
        subst e
        have hc : isD c := h2 c (List.mem_append.2 (.inr (List.mem_singleton.2 rfl)))
        unfold isD at hc
        have hcc : UInt8.ofNat (48 + (c.toNat - 48)) = c := by
          apply UInt8.toNat_inj.1
          rw [ofNat48 (by omega)]; omega
        rw [valN_snoc]
        cases m with
        | nil =>
          have hv : valN [] = 0 := rfl
          rw [hv, Lib.decDigits_one (by omega)]
          rw [show 48 + (10 * 0 + (c.toNat - 48)) = 48 + (c.toNat - 48) by omega, hcc]
          rfl
        | cons a m =>
          have ha : a.toNat ≠ 48 := fun e => by
            have := h3 e
            simp at this
          have hm : okL (a :: m) := ⟨by simp, fun d hd => h2 d (List.mem_append.2 (.inl hd)), fun e => absurd e ha⟩
          have hi := ih (a :: m).length (by rw [← hk]; simp) (a :: m) rfl hm
          have hv : 0 < valN (a :: m) := by
            apply Nat.pos_of_ne_zero
            intro e0
            rw [e0, Lib.decDigits_one (by decide)] at hi
            have := (List.cons.inj hi).1
            rw [this] at ha
            exact ha rfl
          rw [dec_more (show ¬ 10 * valN (a :: m) + (c.toNat - 48) < 10 by omega)]
          rw [show (10 * valN (a :: m) + (c.toNat - 48)) / 10 = valN (a :: m) by omega, show (10 * valN (a :: m) + (c.toNat - 48)) % 10 = c.toNat - 48 by omega, hcc, ← hi]
  exact key l.length l rfl h
/-- The library reads a numeral. -/
theorem parse_val : ∀ (l : List UInt8) (acc : Nat), (∀ c ∈ l, isD c) → l.foldl (fun a c => 10 * a + (c.toNat - 48)) acc < 18446744073709551616 → Lib.parseUint10 acc l = .ok (l.foldl (fun a c => 10 * a + (c.toNat - 48)) acc) := by
  have mono : ∀ (l : List UInt8) (acc : Nat), acc ≤ l.foldl (fun a c => 10 * a + (c.toNat - 48)) acc := by
    intro l
    induction l with
    | nil => intro acc; exact Nat.le_refl _
    | cons c r ih => intro acc; rw [List.foldl_cons]; exact Nat.le_trans (by omega) (ih _)
  intro l
  induction l with
  | nil => intro acc _ _; rfl
  | cons c r ih =>
    intro acc hc hlt
    have h1 := hc c List.mem_cons_self
    unfold isD at h1
    rw [List.foldl_cons] at hlt ⊢
    have h2 := mono r (10 * acc + (c.toNat - 48))
    rw [Lib.parseUint10, if_pos h1, if_neg (by omega), if_neg (by omega), show acc * 10 + (c.toNat - 48) = 10 * acc + (c.toNat - 48) by omega]
    exact ih _ (fun d hd => hc d (List.mem_cons_of_mem _ hd)) hlt
theorem parse_dec {n : Nat} (h : n < 9223372036854775808) : Lib.parseIntB 64 (Lib.decDigits n) = .ok (n : Int) := by
  obtain ⟨⟨h1, h2, -⟩, h4, -⟩ := dec_ok n
  rw [Lib.parseIntB_64]
  have hp := parse_val (Lib.decDigits n) 0 h2 (by show valN _ < _; rw [h4]; omega)
  rw [show (Lib.decDigits n).foldl (fun a c => 10 * a + (c.toNat - 48)) 0 = n from h4] at hp
  generalize Lib.decDigits n = l at *
  cases l with
  | nil => exact absurd rfl h1
  | cons c r =>
    have hc := h2 c List.mem_cons_self
    unfold isD at hc
    unfold Lib.atoiAll
    dsimp only
    rw [if_neg (by omega), Lib.parseMag, if_neg (by simp), hp]
    dsimp only
    rw [if_neg (by omega), if_neg (by omega), if_neg (by omega)]

/-! The same, told by bytes at places. -/
theorem byA_list (s : ByteArray) (i : Nat) : byA s i = ((s.data.toList.getD i 0).toNat : Int) := by
  unfold byA
  rw [Array.getD_eq_getD_getElem?, List.getD_eq_getElem?_getD, Array.getElem?_toList]
theorem size_list (s : ByteArray) : s.size = s.data.toList.length := by rw [Array.length_toList]; rfl
theorem digB_isD (s : ByteArray) (i : Nat) : digB s i = true ↔ isD (s.data.toList.getD i 0) := by
  unfold digB isD
  rw [decide_eq_true_eq, byA_list]
  omega
theorem numB_iff (s : ByteArray) : numB s = true ↔ okL s.data.toList ∧ s.size ≤ 9 := by
  unfold numB
  rw [decide_eq_true_eq, size_list]
  have h0 : byA s 0 = ((s.data.toList.headD 0).toNat : Int) := by
    rw [byA_list]
    cases s.data.toList <;> rfl
  rw [h0]
  simp only [digB_isD]
  generalize s.data.toList = l
  constructor
  · rintro ⟨h1, h2, h3, h4⟩
    refine ⟨⟨fun e => by rw [e] at h1; exact absurd h1 (by simp), fun c hc => ?_, fun e => h3 (by omega)⟩, h2⟩
    obtain ⟨i, hl, rfl⟩ := List.mem_iff_getElem.1 hc
    have := h4 i hl
    rwa [List.getD_eq_getElem?_getD, List.getElem?_eq_getElem hl] at this
  · rintro ⟨⟨h1, h2, h3⟩, h4⟩
    refine ⟨List.length_pos_iff.2 h1, h4, fun e => h3 (by omega), fun i hl => ?_⟩
    rw [List.getD_eq_getElem?_getD, List.getElem?_eq_getElem hl]
    exact h2 _ (List.getElem_mem _)
theorem numK_take (s : ByteArray) (h : ∀ c ∈ s.data.toList, isD c) : ∀ i, i ≤ s.data.toList.length → numK s i = ((valN (s.data.toList.take i) : Nat) : Int) := by
  intro i
  induction i with
  | zero => intro _; rfl
  | succ i ih =>
    intro hlt
    have hc : isD (s.data.toList.getD i 0) := by
      rw [List.getD_eq_getElem?_getD, List.getElem?_eq_getElem (show i < s.data.toList.length by omega)]
      exact h _ (List.getElem_mem _)
    unfold numK
    rw [ih (by omega), byA_list, List.take_add_one, List.getElem?_eq_getElem (show i < s.data.toList.length by omega)]
    rw [List.getD_eq_getElem?_getD, List.getElem?_eq_getElem (show i < s.data.toList.length by omega)] at hc ⊢
    simp only [Option.toList, Option.getD_some] at hc ⊢
    rw [valN_snoc]
    unfold isD at hc
    omega
theorem numK_val (s : ByteArray) (h : numB s = true) : numK s s.size = ((valN s.data.toList : Nat) : Int) := by
  have := numK_take s ((numB_iff s).1 h).1.2.1 s.data.toList.length (Nat.le_refl _)
  rwa [List.take_length, ← size_list] at this
theorem num_dig {s : ByteArray} (h : numB s = true) : s = digS (numK s s.size).toNat := by
  rw [numK_val s h, Int.toNat_natCast]
  have := dec_of ((numB_iff s).1 h).1
  unfold digS
  rw [← this]
theorem dec_short : ∀ (k n : Nat), n < 10 ^ (k + 1) → (Lib.decDigits n).length ≤ k + 1 := by
  intro k
  induction k with
  | zero => intro n h; rw [Lib.decDigits_one (by omega)]; simp
  | succ k ih =>
    intro n h
    by_cases hn : n < 10
    · rw [Lib.decDigits_one hn]; simp
    · rw [dec_more hn, List.length_append]
      have := ih (n / 10) (by rw [Nat.pow_succ] at h; omega)
      simp only [List.length_cons, List.length_nil]; omega
theorem dig_list (n : Nat) : (digS n).data.toList = Lib.decDigits n := rfl
theorem dig_num {n : Nat} (h : n < 1000000000) : numB (digS n) = true ∧ numK (digS n) (digS n).size = n := by
  obtain ⟨h1, h2, -⟩ := dec_ok n
  have hb : numB (digS n) = true := (numB_iff _).2 ⟨by rw [dig_list]; exact h1, by rw [size_list, dig_list]; exact dec_short 8 n h⟩
  exact ⟨hb, by rw [numK_val _ hb, dig_list, h2]⟩
end Go.Proofs.YtplnfdgokpgbcaaDoor
