/- The text of a pasture: the spec. -/
import Derived.Test.YtplnfdgokpgbcaaDoorTxt
namespace Go.Proofs.YtplnfdgokpgbcaaDoor
open Go Go.Eng
set_option linter.unusedSimpArgs false
set_option linter.unusedVariables false
set_option maxRecDepth 100000
set_option maxHeartbeats 4000000

/-- Is the bit set? -/
def bitAt (v : Int) (x : Nat) : Bool := decide (bitsI .and .u16 (v.fdiv (2 ^ (min x IntKind.u16.bits))) 1 = 1)
def addB (b : Bool) (c : UInt8) (t : ByteArray) : ByteArray := if b = true then t ++ ⟨#[c]⟩ else t
theorem addB_len (b : Bool) (c : UInt8) (t : ByteArray) : (addB b c t).size ≤ t.size + 1 := by
  unfold addB
  split
  · rw [ByteArray.size_append]; exact Nat.le_refl _
  · omega
def grT (p : List Int) (x y : Nat) : ByteArray := digS (p.getD (2 + y * 10 + x) 0).toNat
def rowT (p : List Int) (y : Nat) (acc : ByteArray) : Nat → ByteArray
  | 0 => acc
  | x + 1 => addB (bitAt (p.getD (112 + y) 0) x) 95 (addB (bitAt (p.getD (102 + y) 0) x) 124 ((if 0 < x then rowT p y acc x ++ ⟨#[32]⟩ else rowT p y acc x) ++ grT p x y))
def texT (p : List Int) (w : Nat) : Nat → ByteArray
  | 0 => ⟨#[]⟩
  | y + 1 => rowT p y (texT p w y) w ++ ⟨#[10]⟩
def grOk (p : List Int) : Prop := ∀ y x, y < 10 → x < 10 → 0 ≤ p.getD (2 + y * 10 + x) 0 ∧ p.getD (2 + y * 10 + x) 0 ≤ 1000
theorem rowT_len {p : List Int} (h : grOk p) {y : Nat} (hy : y < 10) (acc : ByteArray) : ∀ x, x ≤ 10 → (rowT p y acc x).size ≤ acc.size + 1004 * x := by
  intro x
  induction x with
  | zero => intro _; exact Nat.le_refl _
  | succ x ih =>
    intro hx
    have h1 := ih (by omega)
    have h2 := h y x hy (by omega)
    have h3 := dig_len (p.getD (2 + y * 10 + x) 0).toNat
    unfold rowT
    refine Nat.le_trans (addB_len _ _ _) (Nat.le_trans (Nat.succ_le_succ (addB_len _ _ _)) ?_)
    rw [ByteArray.size_append]
    unfold grT
    split
    · rw [ByteArray.size_append]; show _ + 1 + _ + 1 + 1 ≤ _; omega
    · omega
theorem texT_len {p : List Int} (h : grOk p) {w : Nat} (hw : w ≤ 10) : ∀ y, y ≤ 10 → (texT p w y).size ≤ 10041 * y := by
  intro y
  induction y with
  | zero => intro _; exact Nat.le_refl _
  | succ y ih =>
    intro hy
    have h1 := ih (by omega)
    have h2 := rowT_len h (y := y) (by omega) (texT p w y) w hw
    unfold texT
    rw [ByteArray.size_append]
    show _ + 1 ≤ _
    omega
theorem shr_rng {v m : Int} (k : Nat) (h0 : 0 ≤ v) (h1 : v ≤ m) : 0 ≤ v.fdiv (2 ^ k) ∧ v.fdiv (2 ^ k) ≤ m := by
  have h2 : (0 : Int) ≤ 2 ^ k := Int.le_of_lt (Int.pow_pos (by decide))
  rw [Int.fdiv_eq_ediv_of_nonneg _ h2]
  exact ⟨Int.ediv_nonneg h0 h2, Int.le_trans (Int.ediv_le_self _ h0) h1⟩
def pasTS : Fun
  | [.pw 0 .pas], [.c .pas p] => some (.s (texT p (p.getD 0 0).toNat (p.getD 1 0).toNat), [.c .pas p], [p.getD 0 0 ≤ 10 ∧ p.getD 1 0 ≤ 10 ∧ grOk p])
  | _, _ => .none
set_option maxRecDepth 100000 in
theorem s_l01Text : Sound Tryd.prog 58 pasTS := by
  intro args M r M' vs h hvs
  unfold pasTS at h
  split at h
  case h_2 => cases h
  rename_i p
  cases h
  refine SpecOK.assume fun hA hM => ?_
  have htb := (TbOk.cons s_dec5 Tryd.func76 rfl rfl (TbOk.nil : TbOk Tryd.prog tb0))
  refine SpecOK.of_goes [0] Tryd.func58 rfl ?_
  have hp := PasOk.of hA.1 hM.1
  obtain ⟨⟨hw, hh, hg⟩, -⟩ := hvs
  have hTl := texT_len hg (w := (p.getD 0 0).toNat) (by omega)
  clear hA hM
  refine Goes.tree Γ_ok htb 1000 false false Tryd.func58 rfl ?_
  ((try simp only [decide_eq_true_eq, decide_eq_false_iff_not, Bool.not_eq_true', Bool.not_eq_false', Bool.not_true, Bool.not_false, Bool.and_eq_true, Bool.or_eq_true, bne_iff_ne, beq_iff_eq, ne_eq]); (try simp only [rng, lo, hi, mnI, mxI, Int.toNat_natCast, Sg.n, Nat.mul_one, Nat.zero_add, Nat.add_zero, Nat.reduceAdd, List.getD_cons_zero, List.getD_cons_succ]))
  ((repeat' (first | (with_reducible apply And.intro) | intro _)); all_goals (first | exact trivial | (with_reducible assumption) | (show (_ : List Blk) = _; rfl) | (first | exact trivial | (with_reducible assumption) | omega | (split <;> omega) | (split <;> split <;> omega)) | skip); all_goals (try (refine ⟨rfl, (by first | exact Nat.le_refl _ | exact Nat.le_of_ble_eq_true rfl), rfl, rfl, ?_, (by repeat' (first | exact trivial | rfl | apply And.intro)), rfl, rfl⟩)))
  refine ⟨?_⟩
  refine Goes.loopR (fun y : Nat => (p.getD 1 0).toNat - y) (fun y => y ≤ (p.getD 1 0).toNat) (fun y => (.pw 0 .pas :: .any :: .any :: .s (texT p (p.getD 0 0).toNat y) :: .i .i8 (y:Int) :: .any :: .any :: .any :: .any :: .any :: .any :: .any :: .any :: .any :: .any :: .any :: .any :: .any :: .any :: .any :: .any :: .any :: .any :: .any :: .any :: .any :: .any :: .any :: .any :: .any :: .any :: .any :: .any :: .any :: .any :: .any :: .any :: .any :: .any :: .any :: .any :: .any :: .any :: .any :: .any :: .any :: .any :: .any :: .any :: .any :: .any :: .any :: .any :: .any :: .any :: .any :: .any :: .any :: .any :: .any :: .any :: .any :: .any :: .any :: .any :: .any :: .any :: [])) (fun _ => [.c .pas p]) 0 [0] (Nat.zero_le _) ⟨rfl, rfl, rfl, (by repeat' (first | exact trivial | rfl | apply And.intro)), (by repeat' (first | exact trivial | rfl | apply And.intro)), rfl, rfl, rfl⟩ fun y hy ihO => ?_
  have hTy := hTl y (by omega)
  by_cases hlt : (y : Int) < p.getD 1 0
  · have hy10 : y < 10 := by omega
    have hRl := rowT_len hg hy10 (texT p (p.getD 0 0).toNat y)
    have ey : texT p (p.getD 0 0).toNat (y + 1) = rowT p y (texT p (p.getD 0 0).toNat y) (p.getD 0 0).toNat ++ ⟨#[10]⟩ := rfl
    have ihO := ihO (y + 1)
    rw [ey] at ihO
    generalize texT p (p.getD 0 0).toNat y = T at *
    refine Goes.tree Γ_ok htb 1000 false false Tryd.func58 rfl ?_
    ((try simp only [decide_eq_true_eq, decide_eq_false_iff_not, Bool.not_eq_true', Bool.not_eq_false', Bool.not_true, Bool.not_false, Bool.and_eq_true, Bool.or_eq_true, bne_iff_ne, beq_iff_eq, ne_eq]); (try simp only [rng, lo, hi, mnI, mxI, Int.toNat_natCast, Sg.n, Nat.mul_one, Nat.zero_add, Nat.add_zero, Nat.reduceAdd, List.getD_cons_zero, List.getD_cons_succ]))
    ((repeat' (first | (with_reducible apply And.intro) | intro _)); all_goals (first | exact trivial | (with_reducible assumption) | (show (_ : List Blk) = _; rfl) | (first | exact trivial | (with_reducible assumption) | omega | (split <;> omega) | (split <;> split <;> omega)) | skip); all_goals (try (refine ⟨rfl, (by first | exact Nat.le_refl _ | exact Nat.le_of_ble_eq_true rfl), rfl, rfl, ?_, (by repeat' (first | exact trivial | rfl | apply And.intro)), rfl, rfl⟩)))
    all_goals (try first | omega | contradiction)
    refine ⟨?_⟩
    refine Goes.loopR (fun x : Nat => (p.getD 0 0).toNat - x) (fun x => x ≤ (p.getD 0 0).toNat) (fun x => (.pw 0 .pas :: .any :: .any :: .s (rowT p y T x) :: .i .i8 (y:Int) :: .i .i8 (x:Int) :: .any :: .any :: .any :: .any :: .any :: .any :: .any :: .any :: .any :: .any :: .any :: .any :: .any :: .any :: .any :: .any :: .any :: .any :: .any :: .any :: .any :: .any :: .any :: .any :: .any :: .any :: .any :: .any :: .any :: .any :: .any :: .any :: .any :: .any :: .any :: .any :: .any :: .any :: .any :: .any :: .any :: .any :: .any :: .any :: .any :: .any :: .any :: .any :: .any :: .any :: .any :: .any :: .any :: .any :: .any :: .any :: .any :: .any :: .any :: .any :: .any :: [])) (fun _ => [.c .pas p]) 0 [0] (Nat.zero_le _) ⟨rfl, rfl, rfl, (by repeat' (first | exact trivial | rfl | apply And.intro)), (by repeat' (first | exact trivial | rfl | apply And.intro)), rfl, rfl, rfl⟩ fun x hx ih => ?_
    have hRx := hRl x (by omega)
    by_cases hltx : (x : Int) < p.getD 0 0
    · have hx10 : x < 10 := by omega
      have hgx := hg y x hy10 hx10
      have he := hp.e' hy10
      have hs := hp.s' hy10
      have he2 := shr_rng (min x IntKind.u16.bits) he.1 he.2
      have hs2 := shr_rng (min x IntKind.u16.bits) hs.1 hs.2
      have hd := dig_len (p.getD (2 + y * 10 + x) 0).toNat
      have ex : rowT p y T (x + 1) = addB (bitAt (p.getD (112 + y) 0) x) 95 (addB (bitAt (p.getD (102 + y) 0) x) 124 ((if 0 < x then rowT p y T x ++ ⟨#[32]⟩ else rowT p y T x) ++ digS (p.getD (2 + y * 10 + x) 0).toNat)) := rfl
      have ih := ih (x + 1)
      rw [ex] at ih
      generalize rowT p y T x = R at *
      by_cases h0 : 0 < x
      · rw [if_pos h0] at ih
        cases hE : bitAt (p.getD (102 + y) 0) x <;> cases hS : bitAt (p.getD (112 + y) 0) x
        all_goals
          rw [hE, hS] at ih
          unfold bitAt at hE hS
          first | rw [decide_eq_true_eq] at hE | rw [decide_eq_false_iff_not] at hE
          first | rw [decide_eq_true_eq] at hS | rw [decide_eq_false_iff_not] at hS
          refine Goes.tree Γ_ok htb 1000 false false Tryd.func58 rfl ?_
          ((try simp only [decide_eq_true_eq, decide_eq_false_iff_not, Bool.not_eq_true', Bool.not_eq_false', Bool.not_true, Bool.not_false, Bool.and_eq_true, Bool.or_eq_true, bne_iff_ne, beq_iff_eq, ne_eq]); (try simp only [rng, lo, hi, mnI, mxI, Int.toNat_natCast, Sg.n, Nat.mul_one, Nat.zero_add, Nat.add_zero, Nat.reduceAdd, List.getD_cons_zero, List.getD_cons_succ]))
          ((repeat' (first | (with_reducible apply And.intro) | intro _)); all_goals (first | exact trivial | (with_reducible assumption) | (show (_ : List Blk) = _; rfl) | (first | exact trivial | (with_reducible assumption) | omega | (split <;> omega) | (split <;> split <;> omega)) | skip); all_goals (try (refine ⟨rfl, (by first | exact Nat.le_refl _ | exact Nat.le_of_ble_eq_true rfl), rfl, rfl, ?_, (by repeat' (first | exact trivial | rfl | apply And.intro)), rfl, rfl⟩)))
          all_goals (try first | omega | contradiction | (show _ ≤ 9223372036854775807; simp only [ByteArray.size_append, szb]; omega))
          exact ⟨ih (by omega) (by omega) [0] _ _ ⟨rfl, rfl, rfl, (by repeat' (first | exact trivial | rfl | apply And.intro)), (by repeat' (first | exact trivial | rfl | apply And.intro)), rfl, rfl, rfl⟩⟩
      · rw [if_neg h0] at ih
        cases hE : bitAt (p.getD (102 + y) 0) x <;> cases hS : bitAt (p.getD (112 + y) 0) x
        all_goals
          rw [hE, hS] at ih
          unfold bitAt at hE hS
          first | rw [decide_eq_true_eq] at hE | rw [decide_eq_false_iff_not] at hE
          first | rw [decide_eq_true_eq] at hS | rw [decide_eq_false_iff_not] at hS
          refine Goes.tree Γ_ok htb 1000 false false Tryd.func58 rfl ?_
          ((try simp only [decide_eq_true_eq, decide_eq_false_iff_not, Bool.not_eq_true', Bool.not_eq_false', Bool.not_true, Bool.not_false, Bool.and_eq_true, Bool.or_eq_true, bne_iff_ne, beq_iff_eq, ne_eq]); (try simp only [rng, lo, hi, mnI, mxI, Int.toNat_natCast, Sg.n, Nat.mul_one, Nat.zero_add, Nat.add_zero, Nat.reduceAdd, List.getD_cons_zero, List.getD_cons_succ]))
          ((repeat' (first | (with_reducible apply And.intro) | intro _)); all_goals (first | exact trivial | (with_reducible assumption) | (show (_ : List Blk) = _; rfl) | (first | exact trivial | (with_reducible assumption) | omega | (split <;> omega) | (split <;> split <;> omega)) | skip); all_goals (try (refine ⟨rfl, (by first | exact Nat.le_refl _ | exact Nat.le_of_ble_eq_true rfl), rfl, rfl, ?_, (by repeat' (first | exact trivial | rfl | apply And.intro)), rfl, rfl⟩)))
          all_goals (try first | omega | contradiction | (show _ ≤ 9223372036854775807; simp only [ByteArray.size_append, szb]; omega))
          exact ⟨ih (by omega) (by omega) [0] _ _ ⟨rfl, rfl, rfl, (by repeat' (first | exact trivial | rfl | apply And.intro)), (by repeat' (first | exact trivial | rfl | apply And.intro)), rfl, rfl, rfl⟩⟩
    · obtain rfl : x = (p.getD 0 0).toNat := by omega
      refine Goes.tree Γ_ok htb 1000 false false Tryd.func58 rfl ?_
      ((try simp only [decide_eq_true_eq, decide_eq_false_iff_not, Bool.not_eq_true', Bool.not_eq_false', Bool.not_true, Bool.not_false, Bool.and_eq_true, Bool.or_eq_true, bne_iff_ne, beq_iff_eq, ne_eq]); (try simp only [rng, lo, hi, mnI, mxI, Int.toNat_natCast, Sg.n, Nat.mul_one, Nat.zero_add, Nat.add_zero, Nat.reduceAdd, List.getD_cons_zero, List.getD_cons_succ]))
      ((repeat' (first | (with_reducible apply And.intro) | intro _)); all_goals (first | exact trivial | (with_reducible assumption) | (show (_ : List Blk) = _; rfl) | (first | exact trivial | (with_reducible assumption) | omega | (split <;> omega) | (split <;> split <;> omega)) | skip); all_goals (try (refine ⟨rfl, (by first | exact Nat.le_refl _ | exact Nat.le_of_ble_eq_true rfl), rfl, rfl, ?_, (by repeat' (first | exact trivial | rfl | apply And.intro)), rfl, rfl⟩)))
      all_goals (try first | omega | contradiction | (show _ ≤ 9223372036854775807; simp only [ByteArray.size_append, szb]; omega))
      exact ⟨ihO (by omega) (by omega) [0] _ _ ⟨rfl, rfl, rfl, (by repeat' (first | exact trivial | rfl | apply And.intro)), (by repeat' (first | exact trivial | rfl | apply And.intro)), rfl, rfl, rfl⟩⟩
  · obtain rfl : y = (p.getD 1 0).toNat := by omega
    clear ihO
    refine Goes.tree Γ_ok htb 1000 false false Tryd.func58 rfl ?_
    ((try simp only [decide_eq_true_eq, decide_eq_false_iff_not, Bool.not_eq_true', Bool.not_eq_false', Bool.not_true, Bool.not_false, Bool.and_eq_true, Bool.or_eq_true, bne_iff_ne, beq_iff_eq, ne_eq]); (try simp only [rng, lo, hi, mnI, mxI, Int.toNat_natCast, Sg.n, Nat.mul_one, Nat.zero_add, Nat.add_zero, Nat.reduceAdd, List.getD_cons_zero, List.getD_cons_succ]))
    ((repeat' (first | (with_reducible apply And.intro) | intro _)); all_goals (first | exact trivial | (with_reducible assumption) | (show (_ : List Blk) = _; rfl) | (first | exact trivial | (with_reducible assumption) | omega | (split <;> omega) | (split <;> split <;> omega)) | skip); all_goals (try (refine ⟨rfl, (by first | exact Nat.le_refl _ | exact Nat.le_of_ble_eq_true rfl), rfl, rfl, ?_, (by repeat' (first | exact trivial | rfl | apply And.intro)), rfl, rfl⟩)))
    all_goals (try first | omega | contradiction)
    exact sameA_refl _
end Go.Proofs.YtplnfdgokpgbcaaDoor
