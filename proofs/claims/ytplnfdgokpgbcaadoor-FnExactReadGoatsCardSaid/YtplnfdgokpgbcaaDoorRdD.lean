/- A number of the program: read by the library, written again, held against the text. -/
import Derived.Test.YtplnfdgokpgbcaaDoorRdC
namespace Go.Proofs.YtplnfdgokpgbcaaDoor
open Go Go.Eng
set_option linter.unusedSimpArgs false
set_option linter.unusedVariables false
set_option maxRecDepth 100000
set_option maxHeartbeats 4000000

/-- What the program takes for a number from 0 to the most. -/
def numI (s : ByteArray) (most : Int) : Bool := numB s && decide (numK s s.size ≤ most)
open Go.RowKit in
theorem grow_bel (w : World) (k : Nat) (os : Array Obj) : Below w.heap.size w (Go.Sort.grow (w.drewN k) os) := by
  refine ⟨rfl, rfl, rfl, ?_, fun k hk => ?_⟩
  · show w.heap.size ≤ (w.heap ++ os).size
    simp
  · show (w.heap ++ os)[k]? = w.heap[k]?
    rw [Array.getElem?_append_left hk]
open Go.RowKit in
theorem num_calls (s : ByteArray) (most : Int) (hs : s.size ≤ 1073741000) (hm : 0 ≤ most ∧ most < 1000000000) (w : World) (hG : ∀ w', Below w.heap.size w w' → globFacts w') :
    Calls Tryd.prog 96 #[.string s, .int .i64 most] w fun e w' => e = .returned (.tuple #[.int .i64 (if numI s most = true then numK s s.size else 0), .bool (numI s most)]) ∧ Below w.heap.size w w' := by
  have ep : ∀ args w, (callFunc 111 args).run Tryd.prog w = .ok (.enter 111 args) w := enters_of Tryd.func111 (by kernel_rfl) rfl
  have ed : ∀ args w, (callFunc 37 args).run Tryd.prog w = .ok (.enter 37 args) w := enters_of Tryd.func37 (by kernel_rfl) rfl
  have ew : ∀ args w, (callFunc 79 args).run Tryd.prog w = .ok (.enter 79 args) w := enters_of Tryd.func79 (by kernel_rfl) rfl
  obtain ⟨-, -, ⟨t1, p1, hv1⟩, ⟨t2, p2, hv2⟩⟩ := hG w (Below.refl _ _)
  have hnum : numI s most = true → ∃ n : Nat, n < 1000000000 ∧ s = digS n ∧ numK s s.size = n ∧ (n : Int) ≤ most := fun h => by
    unfold numI at h
    rw [Bool.and_eq_true, decide_eq_true_eq] at h
    have hd := num_dig h.1
    have hk := numK_val s h.1
    refine ⟨(numK s s.size).toNat, by omega, hd, by omega, by omega⟩
  have hback : ∀ n : Nat, s = digS n → (n : Int) ≤ most → numI s most = true ∧ numK s s.size = n := fun n e h => by
    obtain ⟨h1, h2⟩ := dig_num (n := n) (by omega)
    rw [← e] at h1 h2
    exact ⟨by unfold numI; rw [h1, h2, decide_eq_true h]; rfl, h2⟩
  cases hp : Lib.parseIntB 64 s.data.toList with
  | ok v =>
    have hb := Lib.parseIntB_bounds hp
    have hb1 : -9223372036854775808 ≤ v ∧ v ≤ 9223372036854775807 := by
      have e : ((2 ^ (64 - 1) : Nat) : Int) = 9223372036854775808 := by decide
      rw [e] at hb; omega
    clear hb
    have hl : ∀ l : List UInt8, l = s.toList ↔ (⟨l.toArray⟩ : ByteArray) = s := fun l => by
      have key : ∀ m : List UInt8, (⟨m.toArray⟩ : ByteArray).toList = m := fun m => by simp
      constructor
      · intro e
        have h2 := key s.data.toList
        rw [show (⟨s.data.toList.toArray⟩ : ByteArray) = s from rfl] at h2
        rw [e, h2]
      · intro e; rw [← e, key]
    have hi : 0 ≤ v → (⟨(Lib.itoa v).toArray⟩ : ByteArray) = digS v.toNat := fun h => by
      rw [show Lib.itoa v = Lib.decDigits v.toNat from if_neg (by omega)]; rfl
    have hyes : Lib.itoa v = s.toList → 0 ≤ v → v ≤ most → numI s most = true ∧ numK s s.size = v := fun h h0 h1 => by
      rw [hl, hi h0] at h
      have := hback v.toNat h.symm (by omega)
      exact ⟨this.1, by rw [this.2]; omega⟩
    have hno : ¬ (Lib.itoa v = s.toList ∧ 0 ≤ v ∧ v ≤ most) → numI s most = false := fun h => by
      cases hh : numI s most with
      | false => rfl
      | true =>
        exfalso
        obtain ⟨n, h1, h2, h3, h4⟩ := hnum hh
        have hv : v = n := by
          rw [h2, dig_list, parse_dec (by omega)] at hp
          cases hp; rfl
        subst hv
        exact h ⟨(hl _).2 (by rw [hi (by omega), Int.toNat_natCast]; exact h2.symm), by omega, h4⟩
    obtain ⟨r, q, hr, hq, hy, hn⟩ : ∃ (r : Bool) (q : Int), numI s most = r ∧ (if numI s most = true then numK s s.size else 0) = q ∧ (Lib.itoa v = s.toList → 0 ≤ v → v ≤ most → r = true ∧ q = v) ∧ (¬ (Lib.itoa v = s.toList ∧ 0 ≤ v ∧ v ≤ most) → r = false ∧ q = 0) :=
      ⟨_, _, rfl, rfl, fun a b c => ⟨(hyes a b c).1, by rw [if_pos (hyes a b c).1]; exact (hyes a b c).2⟩, fun a => ⟨hno a, by rw [hno a, if_neg (by decide)]⟩⟩
    rw [hq, hr]
    clear hyes hno hnum hback hq hr hi
    go_enter Tryd.func96, Tryd.ntmps96
    go_wp2_with (first
      | (go_at_call 111; refine (Any.strconv_ParseInt_10_at64_ok Tryd.laysC174 s (by omega) v hp _).mono ?_; rintro e w1 ⟨rfl, hw⟩)
      | (go_at_call 37; refine (dec_calls v hb1.1 hb1.2 _ (hG _ (by rcases hw with rfl | ⟨t, rfl⟩ <;> first | exact Below.refl _ _ | exact Lib.bytesWorld_below _ _ _)).1).mono ?_; rintro e w2 ⟨rfl, k, os, rfl⟩)
      | (go_at_call 79; refine (within_calls _ _ _ _).mono ?_; rintro e w1 ⟨rfl, rfl⟩))
    · rename_i h1 h2
      obtain ⟨rfl, rfl⟩ := hn fun g => by
        obtain ⟨g1, g2, g3⟩ := g
        rcases h2 with h2 | h2 | h2
        · rw [g1] at h2; simp at h2
        · simp at h2; omega
        · simp at h2; omega
      go_ret2
      have hbw : Below w.heap.size w w1 := by
        rcases hw with rfl | ⟨t, rfl⟩
        · exact Below.refl _ _
        · exact Lib.bytesWorld_below _ _ _
      exact ⟨rfl, hbw.trans ((grow_bel w1 k os).mono hbw.size)⟩
    · rename_i h1 h2
      obtain ⟨h2, h3, h4⟩ := h2
      simp at h3 h4
      obtain ⟨rfl, rfl⟩ := hy ((hl _).2 h1) h3 h4
      go_ret2
      have hbw : Below w.heap.size w w1 := by
        rcases hw with rfl | ⟨t, rfl⟩
        · exact Below.refl _ _
        · exact Lib.bytesWorld_below _ _ _
      exact ⟨rfl, hbw.trans ((grow_bel w1 k os).mono hbw.size)⟩
    · rename_i h1
      obtain ⟨rfl, rfl⟩ := hn fun g => h1 ((hl _).1 g.1)
      go_ret2
      have hbw : Below w.heap.size w w1 := by
        rcases hw with rfl | ⟨t, rfl⟩
        · exact Below.refl _ _
        · exact Lib.bytesWorld_below _ _ _
      exact ⟨rfl, hbw.trans ((grow_bel w1 k os).mono hbw.size)⟩
  | «syntax» =>
    have hno : numI s most = false := by
      cases h : numI s most with
      | false => rfl
      | true =>
        obtain ⟨n, h1, h2, -, -⟩ := hnum h
        rw [h2, dig_list, parse_dec (by omega)] at hp
        cases hp
    rw [hno, if_neg (by decide)]
    go_enter Tryd.func96, Tryd.ntmps96
    go_wp2_with (go_at_call 111; refine (Any.strconv_ParseInt_10_at64_syntax_var Tryd.laysC174 s (by omega) hp t1 p1 _ hv1).mono ?_; rintro e w1 ⟨N, rfl, hw1, hw2, hw3⟩)
    go_ret2
    exact ⟨rfl, hw3⟩
  | range =>
    have hno : numI s most = false := by
      cases h : numI s most with
      | false => rfl
      | true =>
        obtain ⟨n, h1, h2, -, -⟩ := hnum h
        rw [h2, dig_list, parse_dec (by omega)] at hp
        cases hp
    rw [hno, if_neg (by decide)]
    go_enter Tryd.func96, Tryd.ntmps96
    go_wp2_with (go_at_call 111; refine (Any.strconv_ParseInt_10_at64_range_var Tryd.laysC174 s (by omega) hp t2 p2 _ hv2).mono ?_; rintro e w1 ⟨N, rfl, hw1, hw2, hw3⟩)
    go_ret2
    exact ⟨rfl, hw3⟩
def numIS : Fun
  | [.s s, .i .i64 most], [] => some (.t2 (.i .i64 (if numI s most = true then numK s s.size else 0)) (.b (numI s most)), [], [0 ≤ most ∧ most < 1000000000 ∧ s.size ≤ 1073741000])
  | _, _ => .none
theorem s_number : Sound Tryd.prog 96 numIS := by
  intro args M r M' vs h hvs
  unfold numIS at h
  split at h
  case h_2 => cases h
  rename_i s most
  cases h
  obtain ⟨⟨h1, h2, h3⟩, -⟩ := hvs
  intro ρ vals w hD hM hid
  match vals, hD with
  | [v, u], ⟨hv, hu, _⟩ =>
  obtain ⟨rfl, hsz⟩ := hv
  obtain ⟨rfl, -⟩ := hu
  refine (num_calls s most h3 ⟨h1, h2⟩ w fun w' hb => ρ.ok w' fun k o hk => ?_).mono ?_
  · have := (hM.env k o hk).1
    rw [hb.block k (Array.getElem?_eq_some_iff.1 this).1]; exact this
  · rintro e w' ⟨rfl, hb⟩
    have hr : 0 ≤ (if numI s most = true then numK s s.size else 0) ∧ (if numI s most = true then numK s s.size else 0) < 1000000000 := by
      split
      · rename_i hh
        unfold numI at hh
        rw [Bool.and_eq_true, decide_eq_true_eq] at hh
        have := numK_val s hh.1
        omega
      · omega
    exact ⟨_, ρ, rfl, ⟨_, _, rfl, ⟨rfl, by show (-9223372036854775808 : Int) ≤ _ ∧ _ ≤ (9223372036854775807 : Int); omega⟩, rfl⟩, After.quiet hM hb, fun i hii => (by simp [AV.ids] at hii)⟩
end Go.Proofs.YtplnfdgokpgbcaaDoor
