/- Valid pastures: the spec and the program agree. -/
import Derived.Test.YtplnfdgokpgbcaaDoorBase
namespace Go.Proofs.YtplnfdgokpgbcaaDoor
open Go Go.Eng
set_option linter.unusedSimpArgs false
set_option linter.unusedVariables false
set_option maxRecDepth 100000
set_option maxHeartbeats 4000000

/-- The bits that may be set in row y: to the east, to the south. -/
def rE (W H : Nat) (y : Nat) : Int := if y < H then ((2 ^ W - 1) / 2 : Nat) else 0
def rS (W H : Nat) (y : Nat) : Int := if y + 1 < H then ((2 ^ W - 1 : Nat) : Int) else 0

def okC (p : List Int) (y x : Nat) : Prop := 0 ≤ p.getD (2 + y * 10 + x * 1) 0 ∧ p.getD (2 + y * 10 + x * 1) 0 ≤ 1000 ∧ (0 < p.getD (2 + y * 10 + x * 1) 0 → (x : Int) < p.getD 0 0 ∧ (y : Int) < p.getD 1 0)
def okR (p : List Int) (y : Nat) : Prop := (∀ x, x < 10 → okC p y x) ∧ bitsI .andNot .u16 (p.getD (102 + y * 1) 0) (rE (p.getD 0 0).toNat (p.getD 1 0).toNat y) = 0 ∧ bitsI .andNot .u16 (p.getD (112 + y * 1) 0) (rS (p.getD 0 0).toNat (p.getD 1 0).toNat y) = 0
def okD (p : List Int) : Prop := 1 ≤ p.getD 0 0 ∧ p.getD 0 0 ≤ 10 ∧ 1 ≤ p.getD 1 0 ∧ p.getD 1 0 ≤ 10
/-- A valid pasture. -/
def okP (p : List Int) : Prop := okD p ∧ ∀ y, y < 10 → okR p y

instance (p : List Int) (y x : Nat) : Decidable (okC p y x) := by unfold okC; infer_instance
instance (p : List Int) (y : Nat) : Decidable (okR p y) := by unfold okR; infer_instance
instance (p : List Int) : Decidable (okD p) := by unfold okD; infer_instance
instance (p : List Int) : Decidable (okP p) := by unfold okP; infer_instance

def okPS : Fun
  | [.pw 0 .pas], [.c .pas p] => some (.b (decide (okP p)), [.c .pas p], [])
  | _, _ => .none



theorem ws : ∀ W, W < 11 → 1 ≤ W → IntKind.u16.wrap (1 * 2 ^ (min W IntKind.u16.bits)) - 1 = ((2 ^ W - 1 : Nat) : Int) ∧ (((2 ^ W - 1 : Nat) : Int)).fdiv (2 ^ (min 1 IntKind.u16.bits)) = (((2 ^ W - 1) / 2 : Nat) : Int) ∧ ((2 ^ W - 1 : Nat) : Int) ≤ 65535 ∧ (((2 ^ W - 1) / 2 : Nat) : Int) ≤ 65535 := by decide +kernel

set_option maxRecDepth 100000 in
theorem s_l01Ok : Sound Tryd.prog 57 okPS := by
  intro args M r M' vs h hvs
  unfold okPS at h
  split at h
  case h_2 => cases h
  rename_i p
  cases h
  refine SpecOK.assume fun hA hM => ?_
  have htb := (TbOk.cons s_l00In Tryd.func74 rfl rfl (TbOk.cons s_l01Grass Tryd.func75 rfl rfl (TbOk.cons s_l01Is Tryd.func90 rfl rfl (TbOk.nil : TbOk Tryd.prog tb0))))
  refine SpecOK.of_goes [0] Tryd.func57 rfl ?_
  have hp := PasOk.of hA.1 hM.1
  have hw := hp.w
  have hh := hp.h
  clear hA hM
  refine Goes.tree Γ_ok htb 1000 false false Tryd.func57 rfl ?_
  ((try simp only [decide_eq_true_eq, decide_eq_false_iff_not, Bool.not_eq_true', Bool.not_eq_false', Bool.not_true, Bool.not_false, Bool.and_eq_true, Bool.or_eq_true, bne_iff_ne, beq_iff_eq, ne_eq]); (try simp only [rng, lo, hi, mnI, mxI, Int.toNat_natCast, Sg.n, Nat.mul_one, Nat.zero_add, Nat.add_zero, Nat.reduceAdd, List.getD_cons_zero, List.getD_cons_succ]))
  ((repeat' (first | (with_reducible apply And.intro) | intro _)); all_goals (first | exact trivial | (with_reducible assumption) | (show (_ : List Blk) = _; rfl) | (first | exact trivial | (with_reducible assumption) | omega | (split <;> omega) | (split <;> split <;> omega)) | skip); all_goals (try (refine ⟨rfl, (by first | exact Nat.le_refl _ | exact Nat.le_of_ble_eq_true rfl), rfl, rfl, ?_, (by repeat' (first | exact trivial | rfl | apply And.intro)), rfl, rfl⟩)))
  · exact decide_eq_false fun h => by have := h.1; unfold okD at this; omega
  · exact decide_eq_false fun h => by have := h.1; unfold okD at this; omega
  · rename_i h1 h2
    have hd : okD p := ⟨h1.1, h1.2, h2.1, h2.2⟩
    refine ⟨?_⟩
    refine Goes.loop0 (fun y : Nat => 10 - y) (fun y => y ≤ 10 ∧ ∀ j, j < y → okR p j) (fun y => (.pw 0 .pas :: .any :: .any :: .i .i8 (y:Int) :: .any :: .any :: .any :: .any :: .any :: .any :: .any :: .any :: .any :: .any :: .any :: .any :: .any :: .any :: .any :: .any :: .any :: .any :: .any :: .any :: .any :: .any :: .any :: .any :: .any :: .any :: .any :: .any :: .any :: .any :: .any :: .any :: .any :: .any :: .any :: .any :: .any :: .any :: .any :: .any :: .any :: .any :: .any :: .any :: .any :: .any :: .any :: .any :: .any :: .any :: .any :: .any :: .any :: .any :: .any :: .any :: .any :: .any :: .any :: .any :: .any :: .any :: .any :: .any :: .any :: .any :: .any :: .any :: .any :: .any :: .any :: .any :: .any :: .any :: .any :: .any :: .any :: .any :: .any :: .any :: .any :: .any :: .any :: .any :: .any :: .any :: .any :: .any :: .any :: .any :: [])) (fun _ => [.c .pas p]) 0 ⟨by omega, fun j hj => by omega⟩ (by repeat' (first | exact trivial | rfl | apply And.intro)) (by repeat' (first | exact trivial | rfl | apply And.intro)) fun y ⟨hy, hyr⟩ ihO => ?_
    refine Goes.tree Γ_ok htb 1000 false false Tryd.func57 rfl ?_
    ((try simp only [decide_eq_true_eq, decide_eq_false_iff_not, Bool.not_eq_true', Bool.not_eq_false', Bool.not_true, Bool.not_false, Bool.and_eq_true, Bool.or_eq_true, bne_iff_ne, beq_iff_eq, ne_eq]); (try simp only [rng, lo, hi, mnI, mxI, Int.toNat_natCast, Sg.n, Nat.mul_one, Nat.zero_add, Nat.add_zero, Nat.reduceAdd, List.getD_cons_zero, List.getD_cons_succ]))
    ((repeat' (first | (with_reducible apply And.intro) | intro _)); all_goals (first | exact trivial | (with_reducible assumption) | (show (_ : List Blk) = _; rfl) | (first | exact trivial | (with_reducible assumption) | omega | (split <;> omega) | (split <;> split <;> omega)) | skip); all_goals (try (refine ⟨rfl, (by first | exact Nat.le_refl _ | exact Nat.le_of_ble_eq_true rfl), rfl, rfl, ?_, (by repeat' (first | exact trivial | rfl | apply And.intro)), rfl, rfl⟩)))
    · have hlt : y < 10 := by omega
      refine ⟨?_⟩
      refine Goes.loop0 (fun x : Nat => 10 - x) (fun x => x ≤ 10 ∧ ∀ j, j < x → okC p y j) (fun x => (.pw 0 .pas :: .any :: .any :: .i .i8 (y:Int) :: .i .i8 (x:Int) :: .any :: .any :: .any :: .any :: .any :: .any :: .any :: .any :: .any :: .any :: .any :: .any :: .any :: .any :: .any :: .any :: .any :: .any :: .any :: .any :: .any :: .any :: .any :: .any :: .any :: .any :: .any :: .any :: .any :: .any :: .any :: .any :: .any :: .any :: .any :: .any :: .any :: .any :: .any :: .any :: .any :: .any :: .any :: .any :: .any :: .any :: .any :: .any :: .any :: .any :: .any :: .any :: .any :: .any :: .any :: .any :: .any :: .any :: .any :: .any :: .any :: .any :: .any :: .any :: .any :: .any :: .any :: .any :: .any :: .any :: .any :: .any :: .any :: .any :: .any :: .any :: .any :: .any :: .any :: .any :: .any :: .any :: .any :: .any :: .any :: .any :: .any :: .any :: .any :: [])) (fun _ => [.c .pas p]) 0 ⟨by omega, fun j hj => by omega⟩ (by repeat' (first | exact trivial | rfl | apply And.intro)) (by repeat' (first | exact trivial | rfl | apply And.intro)) fun x ⟨hx, hxr⟩ ih => ?_
      have hg : x < 10 → -32768 ≤ p.getD (2 + y * 10 + x) 0 ∧ p.getD (2 + y * 10 + x) 0 ≤ 32767 := fun h => hp.g' hlt h
      have he := hp.e' hlt
      have hs := hp.s' hlt
      have hW : (p.getD 0 0).toNat < 11 ∧ 1 ≤ (p.getD 0 0).toNat := by omega
      obtain ⟨w1, w2, w3, w4⟩ := ws (p.getD 0 0).toNat hW.1 hW.2
      have hrE : rE (p.getD 0 0).toNat (p.getD 1 0).toNat y = if (y : Int) < p.getD 1 0 then (((2 ^ (p.getD 0 0).toNat - 1) / 2 : Nat) : Int) else 0 := by
        unfold rE; split <;> split <;> first | rfl | omega
      have hrS : rS (p.getD 0 0).toNat (p.getD 1 0).toNat y = if (y : Int) < p.getD 1 0 - 1 then ((2 ^ (p.getD 0 0).toNat - 1 : Nat) : Int) else 0 := by
        unfold rS; split <;> split <;> first | rfl | omega
      generalize ((2 ^ (p.getD 0 0).toNat - 1) / 2 : Nat) = m2 at w2 w4 hrE
      generalize ((2 ^ (p.getD 0 0).toNat - 1) : Nat) = m1 at w1 w2 w3 hrS
      refine Goes.tree Γ_ok htb 1000 false false Tryd.func57 rfl ?_
      ((try simp only [decide_eq_true_eq, decide_eq_false_iff_not, Bool.not_eq_true', Bool.not_eq_false', Bool.not_true, Bool.not_false, Bool.and_eq_true, Bool.or_eq_true, bne_iff_ne, beq_iff_eq, ne_eq]); (try simp only [rng, lo, hi, mnI, mxI, Int.toNat_natCast, Sg.n, Nat.mul_one, Nat.zero_add, Nat.add_zero, Nat.reduceAdd, List.getD_cons_zero, List.getD_cons_succ, w1, w2, Int.toNat_one, Int.zero_fdiv]))
      ((repeat' (first | (with_reducible apply And.intro) | intro _)); all_goals (first | exact trivial | (with_reducible assumption) | (show (_ : List Blk) = _; rfl) | (first | exact trivial | (with_reducible assumption) | omega | (split <;> omega) | (split <;> split <;> omega)) | skip); all_goals (try (refine ⟨rfl, (by first | exact Nat.le_refl _ | exact Nat.le_of_ble_eq_true rfl), rfl, rfl, ?_, (by repeat' (first | exact trivial | rfl | apply And.intro)), rfl, rfl⟩)))
      · refine decide_eq_false fun h => ?_
        have := (h.2 y hlt).1 x (by omega)
        unfold okC at this
        rw [Nat.mul_one] at this
        omega
      · refine decide_eq_false fun h => ?_
        have := (h.2 y hlt).1 x (by omega)
        unfold okC at this
        rw [Nat.mul_one] at this
        rename_i hi
        unfold isP at hi
        simp only [List.getD_cons_zero, List.getD_cons_succ, decide_eq_false_iff_not] at hi
        omega
      · rename_i hi
        unfold isP at hi
        simp only [List.getD_cons_zero, List.getD_cons_succ, decide_eq_true_eq] at hi
        refine ⟨ih (x + 1) ⟨by omega, fun j hj => ?_⟩ (by omega) _ _ (by repeat' (first | exact trivial | rfl | apply And.intro)) (by repeat' (first | exact trivial | rfl | apply And.intro))⟩
        by_cases hjx : j = x
        · subst hjx; unfold okC; rw [Nat.mul_one]; omega
        · exact hxr j (by omega)
      · refine ⟨ih (x + 1) ⟨by omega, fun j hj => ?_⟩ (by omega) _ _ (by repeat' (first | exact trivial | rfl | apply And.intro)) (by repeat' (first | exact trivial | rfl | apply And.intro))⟩
        by_cases hjx : j = x
        · subst hjx; unfold okC; rw [Nat.mul_one]; omega
        · exact hxr j (by omega)
      all_goals first
        | (refine decide_eq_false fun h => ?_
           have h3 := (h.2 y hlt).2
           rw [hrE, hrS, Nat.mul_one] at h3
           split at h3 <;> split at h3 <;> first | omega | simp_all)
        | (refine ⟨ihO (y + 1) ⟨by omega, fun j hj => ?_⟩ (by omega) _ _ (by repeat' (first | exact trivial | rfl | apply And.intro)) (by repeat' (first | exact trivial | rfl | apply And.intro))⟩
           by_cases hjy : j = y
           · subst hjy
             refine ⟨fun x' hx' => hxr x' (by omega), ?_⟩
             rw [hrE, hrS, Nat.mul_one]
             split <;> split <;> first | omega | simp_all
           · exact hyr j (by omega))
        | skip
    · exact decide_eq_true ⟨hd, fun j hj => hyr j (by omega)⟩
end Go.Proofs.YtplnfdgokpgbcaaDoor
