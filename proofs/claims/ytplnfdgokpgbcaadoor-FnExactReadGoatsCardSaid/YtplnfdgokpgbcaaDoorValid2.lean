/- Valid pastures: the program's way. -/
import Derived.Test.YtplnfdgokpgbcaaDoorValid
namespace Go.Proofs.YtplnfdgokpgbcaaDoor
open Go Go.Eng
set_option linter.unusedSimpArgs false
set_option linter.unusedVariables false
set_option maxRecDepth 100000
set_option maxHeartbeats 4000000

def mE (W H y : Nat) : Nat → Int
  | 0 => 0
  | x + 1 => if x < W ∧ y < H then bitsI .or .u16 (mE W H y x) (IntKind.u16.wrap ((if x + 1 < W then 1 else 0) * 2 ^ (min x IntKind.u16.bits))) else mE W H y x
def mS (W H y : Nat) : Nat → Int
  | 0 => 0
  | x + 1 => if x < W ∧ y < H then bitsI .or .u16 (mS W H y x) (IntKind.u16.wrap ((if y + 1 < H then 1 else 0) * 2 ^ (min x IntKind.u16.bits))) else mS W H y x

theorem masks : ∀ W, W < 11 → ∀ H, H < 11 → ∀ y, y < 10 → mE W H y 10 = rE W H y ∧ mS W H y 10 = rS W H y := by decide +kernel

def okPV : Fun
  | [.ag .pas p], [] => some (.b (decide (okP p)), [], [])
  | _, _ => .none

theorem isP_xy {p : List Int} {x y : Nat} : isP p [(x : Int), (y : Int)] = decide (x < (p.getD 0 0).toNat ∧ y < (p.getD 1 0).toNat) := by
  unfold isP
  simp only [List.getD_cons_zero, List.getD_cons_succ]
  rw [decide_eq_decide]; omega

set_option maxRecDepth 100000 in
theorem s_ValidPasture : Sound Tryd.prog 61 okPV := by
  intro args M r M' vs h hvs
  unfold okPV at h
  split at h
  case h_2 => cases h
  rename_i p
  cases h
  refine SpecOK.assume fun hA hM => ?_
  have htb := (TbOk.cons s_within Tryd.func79 rfl rfl (TbOk.cons s_isCell Tryd.func86 rfl rfl (TbOk.cons s_bit Tryd.func92 rfl rfl (TbOk.nil : TbOk Tryd.prog tb0))))
  refine SpecOK.of_goes [] Tryd.func61 rfl ?_
  have hp : PasOk p := ⟨hA.1, hA.2.1⟩
  have hw := hp.w
  have hh := hp.h
  clear hA hM
  refine Goes.tree Γ_ok htb 1000 false false Tryd.func61 rfl ?_
  ((try simp only [decide_eq_true_eq, decide_eq_false_iff_not, Bool.not_eq_true', Bool.not_eq_false', Bool.not_true, Bool.not_false, Bool.and_eq_true, Bool.or_eq_true, bne_iff_ne, beq_iff_eq, ne_eq]); (try simp only [rng, lo, hi, mnI, mxI, Int.toNat_natCast, Sg.n, Nat.mul_one, Nat.zero_add, Nat.add_zero, Nat.reduceAdd, List.getD_cons_zero, List.getD_cons_succ]))
  ((repeat' (first | (with_reducible apply And.intro) | intro _)); all_goals (first | exact trivial | (with_reducible assumption) | (show (_ : List Blk) = _; rfl) | (first | exact trivial | (with_reducible assumption) | omega | (split <;> omega) | (split <;> split <;> omega)) | skip); all_goals (try (refine ⟨rfl, (by first | exact Nat.le_refl _ | exact Nat.le_of_ble_eq_true rfl), rfl, rfl, ?_, (by repeat' (first | exact trivial | rfl | apply And.intro)), rfl, rfl⟩)))
  · exact decide_eq_false fun h => by have := h.1; unfold okD at this; omega
  · exact decide_eq_false fun h => by have := h.1; unfold okD at this; omega
  · rename_i h1 h2
    have hd : okD p := ⟨h1.1, h1.2, h2.1, h2.2⟩
    refine ⟨?_⟩
    refine Goes.loop0 (fun y : Nat => 10 - y) (fun y => y ≤ 10 ∧ ∀ j, j < y → okR p j) (fun y => (.any :: .pw 0 .pas :: .any :: .any :: .any :: .any :: .any :: .any :: .any :: .any :: .any :: .any :: .any :: .any :: .any :: .any :: .any :: .any :: .any :: .any :: .i .i64 (y:Int) :: .any :: .any :: .any :: .any :: .any :: .any :: .any :: .any :: .any :: .any :: .any :: .any :: .any :: .any :: .any :: .any :: .any :: .any :: .any :: .any :: .any :: .any :: .any :: .any :: .any :: .any :: .any :: .any :: .any :: .any :: .any :: .any :: .any :: .any :: .any :: .any :: .any :: .any :: .any :: .any :: .any :: .any :: .any :: .any :: .any :: .any :: .any :: .any :: .any :: .any :: .any :: .any :: .any :: .any :: .any :: .any :: .any :: .any :: .any :: .any :: .any :: .any :: .any :: .any :: .any :: .any :: .any :: .any :: [])) (fun _ => [.c .pas p]) 0 ⟨by omega, fun j hj => by omega⟩ (by repeat' (first | exact trivial | rfl | apply And.intro)) (by repeat' (first | exact trivial | rfl | apply And.intro)) fun y ⟨hy, hyr⟩ ihO => ?_
    refine Goes.tree Γ_ok htb 1000 false false Tryd.func61 rfl ?_
    ((try simp only [decide_eq_true_eq, decide_eq_false_iff_not, Bool.not_eq_true', Bool.not_eq_false', Bool.not_true, Bool.not_false, Bool.and_eq_true, Bool.or_eq_true, bne_iff_ne, beq_iff_eq, ne_eq]); (try simp only [rng, lo, hi, mnI, mxI, Int.toNat_natCast, Sg.n, Nat.mul_one, Nat.zero_add, Nat.add_zero, Nat.reduceAdd, List.getD_cons_zero, List.getD_cons_succ]))
    ((repeat' (first | (with_reducible apply And.intro) | intro _)); all_goals (first | exact trivial | (with_reducible assumption) | (show (_ : List Blk) = _; rfl) | (first | exact trivial | (with_reducible assumption) | omega | (split <;> omega) | (split <;> split <;> omega)) | skip); all_goals (try (refine ⟨rfl, (by first | exact Nat.le_refl _ | exact Nat.le_of_ble_eq_true rfl), rfl, rfl, ?_, (by repeat' (first | exact trivial | rfl | apply And.intro)), rfl, rfl⟩)))
    · have hlt : y < 10 := by omega
      refine ⟨?_⟩
      refine Goes.loop0 (fun x : Nat => 10 - x) (fun x => x ≤ 10 ∧ ∀ j, j < x → okC p y j) (fun x => (.any :: .pw 0 .pas :: .any :: .i .i64 (y:Int) :: .i .u16 (mE (p.getD 0 0).toNat (p.getD 1 0).toNat y x) :: .i .u16 (mS (p.getD 0 0).toNat (p.getD 1 0).toNat y x) :: .any :: .any :: .any :: .any :: .any :: .any :: .any :: .any :: .any :: .any :: .any :: .any :: .any :: .any :: .i .i64 (y:Int) :: .any :: .any :: .i .i64 (x:Int) :: .any :: .any :: .any :: .any :: .any :: .any :: .any :: .any :: .any :: .any :: .any :: .any :: .any :: .any :: .any :: .any :: .any :: .any :: .any :: .any :: .any :: .any :: .any :: .any :: .any :: .any :: .any :: .any :: .any :: .any :: .any :: .any :: .any :: .any :: .any :: .any :: .any :: .any :: .any :: .any :: .any :: .any :: .any :: .any :: .any :: .any :: .any :: .any :: .any :: .any :: .any :: .any :: .any :: .any :: .any :: .any :: .any :: .any :: .any :: .any :: .any :: .any :: .any :: .any :: .any :: [])) (fun _ => [.c .pas p]) 0 ⟨by omega, fun j hj => by omega⟩ (by repeat' (first | exact trivial | rfl | apply And.intro)) (by repeat' (first | exact trivial | rfl | apply And.intro)) fun x ⟨hx, hxr⟩ ih => ?_
      have hg : x < 10 → -32768 ≤ p.getD (2 + y * 10 + x) 0 ∧ p.getD (2 + y * 10 + x) 0 ≤ 32767 := fun h => hp.g' hlt h
      have he := hp.e' hlt
      have hs := hp.s' hlt
      have hPx : ∀ h : x < 10, okC p y x ↔ (0 ≤ p.getD (2 + y * 10 + x) 0 ∧ p.getD (2 + y * 10 + x) 0 ≤ 1000 ∧ (0 < p.getD (2 + y * 10 + x) 0 → isP p [(x:Int), (y:Int)] = true)) := by
        intro _
        rw [isP_xy, decide_eq_true_eq]; unfold okC; rw [Nat.mul_one]
        constructor <;> rintro ⟨a1, a2, a3⟩ <;> refine ⟨a1, a2, fun a4 => ?_⟩ <;> have := a3 a4 <;> omega
      have hEx : isP p [(x:Int), (y:Int)] = true → mE (p.getD 0 0).toNat (p.getD 1 0).toNat y (x + 1) = bitsI .or .u16 (mE (p.getD 0 0).toNat (p.getD 1 0).toNat y x) (IntKind.u16.wrap ((if isP p [(x:Int) + 1, (y:Int)] = true then 1 else 0) * 2 ^ (min x IntKind.u16.bits))) := by
        intro h
        have e := isP_xy (p := p) (x := x + 1) (y := y)
        rw [isP_xy, decide_eq_true_eq] at h
        rw [Int.natCast_add, Int.natCast_one] at e
        rw [e, mE, if_pos h]
        simp only [decide_eq_true_eq, h.2, and_true]
      have hSx : isP p [(x:Int), (y:Int)] = true → mS (p.getD 0 0).toNat (p.getD 1 0).toNat y (x + 1) = bitsI .or .u16 (mS (p.getD 0 0).toNat (p.getD 1 0).toNat y x) (IntKind.u16.wrap ((if isP p [(x:Int), (y:Int) + 1] = true then 1 else 0) * 2 ^ (min x IntKind.u16.bits))) := by
        intro h
        have e := isP_xy (p := p) (x := x) (y := y + 1)
        rw [isP_xy, decide_eq_true_eq] at h
        rw [Int.natCast_add, Int.natCast_one] at e
        rw [e, mS, if_pos h]
        simp only [decide_eq_true_eq, h.1, true_and]
      have hEn : isP p [(x:Int), (y:Int)] = false → mE (p.getD 0 0).toNat (p.getD 1 0).toNat y (x + 1) = mE (p.getD 0 0).toNat (p.getD 1 0).toNat y x := by
        intro h; rw [isP_xy, decide_eq_false_iff_not] at h; rw [mE, if_neg h]
      have hSn : isP p [(x:Int), (y:Int)] = false → mS (p.getD 0 0).toNat (p.getD 1 0).toNat y (x + 1) = mS (p.getD 0 0).toNat (p.getD 1 0).toNat y x := by
        intro h; rw [isP_xy, decide_eq_false_iff_not] at h; rw [mS, if_neg h]
      have hm := masks (p.getD 0 0).toNat (by omega) (p.getD 1 0).toNat (by omega) y hlt
      have hrow : ∀ h : okP p, okR p y := fun h => h.2 y hlt
      refine Goes.tree Γ_ok htb 1000 false false Tryd.func61 rfl ?_
      ((try simp only [decide_eq_true_eq, decide_eq_false_iff_not, Bool.not_eq_true', Bool.not_eq_false', Bool.not_true, Bool.not_false, Bool.and_eq_true, Bool.or_eq_true, bne_iff_ne, beq_iff_eq, ne_eq]); (try simp only [rng, lo, hi, mnI, mxI, Int.toNat_natCast, Sg.n, Nat.mul_one, Nat.zero_add, Nat.add_zero, Nat.reduceAdd, List.getD_cons_zero, List.getD_cons_succ]))
      ((repeat' (first | (with_reducible apply And.intro) | intro _)); all_goals (first | exact trivial | (with_reducible assumption) | (show (_ : List Blk) = _; rfl) | (first | exact trivial | (with_reducible assumption) | omega | (split <;> omega) | (split <;> split <;> omega)) | skip); all_goals (try (refine ⟨rfl, (by first | exact Nat.le_refl _ | exact Nat.le_of_ble_eq_true rfl), rfl, rfl, ?_, (by repeat' (first | exact trivial | rfl | apply And.intro)), rfl, rfl⟩)))
      · exact decide_eq_false fun h => by have := (hPx (by omega)).1 ((hrow h).1 x (by omega)); omega
      · rename_i hi _
        refine ⟨ih (x + 1) ⟨by omega, fun j hj => ?_⟩ (by omega) _ _ (by rw [hEx hi, hSx hi]; exact (by repeat' (first | exact trivial | rfl | apply And.intro))) (by repeat' (first | exact trivial | rfl | apply And.intro))⟩
        by_cases hjx : j = x
        · subst hjx; exact (hPx (by omega)).2 ⟨by omega, by omega, fun _ => hi⟩
        · exact hxr j (by omega)
      · rename_i hi _
        exact decide_eq_false fun h => by
          have := (hPx (by omega)).1 ((hrow h).1 x (by omega))
          rw [hi] at this
          have h1 := this.1
          have h2 := mt this.2.2 (by decide)
          omega
      · rename_i hi _
        refine ⟨ih (x + 1) ⟨by omega, fun j hj => ?_⟩ (by omega) _ _ (by rw [hEn hi, hSn hi]; exact (by repeat' (first | exact trivial | rfl | apply And.intro))) (by repeat' (first | exact trivial | rfl | apply And.intro))⟩
        by_cases hjx : j = x
        · subst hjx; exact (hPx (by omega)).2 ⟨by omega, by omega, fun _ => by omega⟩
        · exact hxr j (by omega)
      all_goals (obtain rfl : x = 10 := by omega)
      all_goals (rw [hm.1] at *)
      all_goals (try rw [hm.2] at *)
      all_goals (try clear ih)
      · exact decide_eq_false fun h => by have := (hrow h).2.1; rw [Nat.mul_one] at this; contradiction
      · exact decide_eq_false fun h => by have := (hrow h).2.2; rw [Nat.mul_one] at this; contradiction
      · refine ⟨ihO (y + 1) ⟨by omega, fun j hj => ?_⟩ (by omega) _ _ (by repeat' (first | exact trivial | rfl | apply And.intro)) (by repeat' (first | exact trivial | rfl | apply And.intro))⟩
        by_cases hjy : j = y
        · subst hjy
          refine ⟨fun x' hx' => hxr x' (by omega), ?_⟩
          rw [Nat.mul_one]; constructor <;> assumption
        · exact hyr j (by omega)
    · exact decide_eq_true ⟨hd, fun j hj => hyr j (by omega)⟩
end Go.Proofs.YtplnfdgokpgbcaaDoor
