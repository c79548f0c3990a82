/- Pastures: what is told of the functions that look at one. -/
import Derived.Test.YtplnfdgokpgbcaaDoorGrowth
import Derived.Test.YtplnfdgokpgbcaaDoorEngF
namespace Go.Proofs.YtplnfdgokpgbcaaDoor
open Go Go.Eng
set_option linter.unusedSimpArgs false
set_option linter.unusedVariables false
set_option maxRecDepth 100000

theorem len2 {s : List Int} (h : s.length = 2) : ∃ a b, s = [a, b] := by
  match s, h with
  | [a, b], _ => exact ⟨a, b, rfl⟩

theorem len3 {s : List Int} (h : s.length = 3) : ∃ a b c, s = [a, b, c] := by
  match s, h with
  | [a, b, c], _ => exact ⟨a, b, c, rfl⟩

theorem aggOk {σ : Sg} {xs : List Int} (hp : σ.pure = true) (hl : xs.length = σ.n) (h : cellsOk σ.flat xs) {j : Nat} (hj : j < σ.n) : (σ.flat.getD j .bool).ok (xs.getD j 0) := by
  refine cellsOk_get σ.flat xs j _ _ h (getD_some (by omega) 0) ?_
  exact getD_some (by rw [Sg.flat_len σ hp]; exact hj) _

/-- A pasture as its cells. -/
structure PasOk (p : List Int) : Prop where
  len : p.length = 122
  ok : cellsOk Sg.pas.flat p

theorem PasOk.of {p : List Int} (hl : p.length = Sg.pas.n) (h : ∀ (j : Nat) (x : Int), p[j]? = some x → (Sg.pas.flat.getD (j % Sg.pas.n) .bool).ok x) : PasOk p := by
  refine ⟨hl, cellsOk_ext fun j x k hx hk => ?_⟩
  have hj := (List.getElem?_eq_some_iff.1 hx).1
  have := h j x hx
  rw [Nat.mod_eq_of_lt (by omega), List.getD_eq_getElem?_getD, hk] at this
  exact this

theorem PasOk.cell {p : List Int} (h : PasOk p) {j : Nat} (hj : j < 122) : (Sg.pas.flat.getD j .bool).ok (p.getD j 0) := aggOk (σ := .pas) rfl h.len h.ok hj

theorem PasOk.w {p : List Int} (h : PasOk p) : -128 ≤ p.getD 0 0 ∧ p.getD 0 0 ≤ 127 := h.cell (j := 0) (by omega)
theorem PasOk.h {p : List Int} (h : PasOk p) : -128 ≤ p.getD 1 0 ∧ p.getD 1 0 ≤ 127 := h.cell (j := 1) (by omega)

theorem kg : ∀ y, y < 10 → ∀ x, x < 10 → Sg.pas.flat.getD (2 + y * 10 + x * 1) .bool = .int .i16 := by decide
theorem ke : ∀ y, y < 10 → Sg.pas.flat.getD (102 + y * 1) .bool = .int .u16 := by decide
theorem ks : ∀ y, y < 10 → Sg.pas.flat.getD (112 + y * 1) .bool = .int .u16 := by decide

theorem PasOk.g {p : List Int} (h : PasOk p) {y x : Nat} (hy : y < 10) (hx : x < 10) : -32768 ≤ p.getD (2 + y * 10 + x * 1) 0 ∧ p.getD (2 + y * 10 + x * 1) 0 ≤ 32767 := by
  have := h.cell (j := 2 + y * 10 + x * 1) (by omega)
  rw [kg y hy x hx] at this; exact this
theorem PasOk.e {p : List Int} (h : PasOk p) {y : Nat} (hy : y < 10) : 0 ≤ p.getD (102 + y * 1) 0 ∧ p.getD (102 + y * 1) 0 ≤ 65535 := by
  have := h.cell (j := 102 + y * 1) (by omega)
  rw [ke y hy] at this; exact this
theorem PasOk.s {p : List Int} (h : PasOk p) {y : Nat} (hy : y < 10) : 0 ≤ p.getD (112 + y * 1) 0 ∧ p.getD (112 + y * 1) 0 ≤ 65535 := by
  have := h.cell (j := 112 + y * 1) (by omega)
  rw [ks y hy] at this; exact this

theorem PasOk.g' {p : List Int} (h : PasOk p) {y x : Nat} (hy : y < 10) (hx : x < 10) : -32768 ≤ p.getD (2 + y * 10 + x) 0 ∧ p.getD (2 + y * 10 + x) 0 ≤ 32767 := by have := h.g hy hx; rwa [Nat.mul_one] at this
theorem PasOk.e' {p : List Int} (h : PasOk p) {y : Nat} (hy : y < 10) : 0 ≤ p.getD (102 + y) 0 ∧ p.getD (102 + y) 0 ≤ 65535 := by have := h.e hy; rwa [Nat.mul_one] at this
theorem PasOk.s' {p : List Int} (h : PasOk p) {y : Nat} (hy : y < 10) : 0 ≤ p.getD (112 + y) 0 ∧ p.getD (112 + y) 0 ≤ 65535 := by have := h.s hy; rwa [Nat.mul_one] at this

/-- Is it a cell? -/
def isP (p s : List Int) : Bool := decide (0 ≤ s.getD 0 0 ∧ s.getD 0 0 < p.getD 0 0 ∧ 0 ≤ s.getD 1 0 ∧ s.getD 1 0 < p.getD 1 0)

def isPS : Fun
  | [.pw 0 .pas, .ag .spot s], [.c .pas p] => some (.b (isP p s), [.c .pas p], [])
  | _, _ => .none

set_option maxRecDepth 100000 in
theorem s_l01Is : Sound Tryd.prog 90 isPS := by
  intro args M r M' vs h hvs
  unfold isPS at h
  split at h
  case h_2 => cases h
  rename_i s p
  cases h
  refine SpecOK.assume fun hA hM => ?_
  have htb := (TbOk.cons s_l00In Tryd.func74 rfl rfl (TbOk.nil : TbOk Tryd.prog tb0))
  refine SpecOK.of_goes [0] Tryd.func90 rfl ?_
  have hp := PasOk.of hA.1 hM.1
  obtain ⟨a, b, rfl⟩ := len2 hA.2.1
  obtain ⟨⟨ha, hb, -⟩, -⟩ := hA.2.2
  have hw := hp.w
  have hh := hp.h
  change -128 ≤ a ∧ a ≤ 127 at ha; change -128 ≤ b ∧ b ≤ 127 at hb
  clear hA hM hp
  refine Goes.tree Γ_ok htb 1000 false false Tryd.func90 rfl ?_
  clear htb
  ((try simp only [decide_eq_true_eq, decide_eq_false_iff_not, Bool.not_eq_true', Bool.not_eq_false', Bool.not_true, Bool.not_false, Bool.and_eq_true, Bool.or_eq_true, bne_iff_ne, beq_iff_eq, ne_eq]); (try simp only [rng, lo, hi, mnI, mxI, Int.toNat_natCast, Sg.n, Nat.mul_one, Nat.zero_add, Nat.add_zero, Nat.reduceAdd, List.getD_cons_zero, List.getD_cons_succ]))
  (repeat' (first | (with_reducible apply And.intro) | intro _))
  (all_goals first | exact trivial | (with_reducible assumption) | (show (_ : List Blk) = _; rfl) | (first | exact trivial | (with_reducible assumption) | omega | (split <;> omega) | (split <;> split <;> omega)) | (refine ⟨rfl, (by first | exact Nat.le_refl _ | exact Nat.le_of_ble_eq_true rfl), rfl, rfl, ?_, (by repeat' (first | exact trivial | rfl | apply And.intro)), rfl, rfl⟩))
  all_goals (show (_ : Bool) = _; first | rfl | (simp only [isP, rng, lo, hi, mnI, mxI, Int.toNat_natCast, Sg.n, Nat.mul_one, Nat.zero_add, Nat.add_zero, Nat.reduceAdd, List.getD_cons_zero, List.getD_cons_succ, decide_eq_decide, decide_eq_true_eq, decide_eq_false_iff_not] <;> omega) | (simp_all [isP] <;> omega))

def isCS : Fun
  | [.ag .pas p, .ag .spot s], [] => some (.b (isP p s), [], [p.getD 0 0 ≤ 10 ∧ p.getD 1 0 ≤ 10])
  | _, _ => .none

set_option maxRecDepth 100000 in
theorem s_isCell : Sound Tryd.prog 86 isCS := by
  intro args M r M' vs h hvs
  unfold isCS at h
  split at h
  case h_2 => cases h
  rename_i p s
  cases h
  refine SpecOK.assume fun hA hM => ?_
  have htb := (TbOk.cons s_within Tryd.func79 rfl rfl (TbOk.nil : TbOk Tryd.prog tb0))
  refine SpecOK.of_goes [] Tryd.func86 rfl ?_
  have hp : PasOk p := ⟨hA.1, hA.2.1⟩
  obtain ⟨a, b, rfl⟩ := len2 hA.2.2.1
  obtain ⟨⟨ha, hb, -⟩, -⟩ := hA.2.2.2
  have hw := hp.w
  have hh := hp.h
  obtain ⟨⟨hw1, hh1⟩, -⟩ := hvs
  change -128 ≤ a ∧ a ≤ 127 at ha; change -128 ≤ b ∧ b ≤ 127 at hb
  clear hA hM hp
  refine Goes.tree Γ_ok htb 1000 false false Tryd.func86 rfl ?_
  clear htb
  ((try simp only [decide_eq_true_eq, decide_eq_false_iff_not, Bool.not_eq_true', Bool.not_eq_false', Bool.not_true, Bool.not_false, Bool.and_eq_true, Bool.or_eq_true, bne_iff_ne, beq_iff_eq, ne_eq]); (try simp only [rng, lo, hi, mnI, mxI, Int.toNat_natCast, Sg.n, Nat.mul_one, Nat.zero_add, Nat.add_zero, Nat.reduceAdd, List.getD_cons_zero, List.getD_cons_succ]))
  (repeat' (first | (with_reducible apply And.intro) | intro _))
  (all_goals first | exact trivial | (with_reducible assumption) | (show (_ : List Blk) = _; rfl) | (first | exact trivial | (with_reducible assumption) | omega | (split <;> omega) | (split <;> split <;> omega)) | (refine ⟨rfl, (by first | exact Nat.le_refl _ | exact Nat.le_of_ble_eq_true rfl), rfl, rfl, ?_, (by repeat' (first | exact trivial | rfl | apply And.intro)), rfl, rfl⟩))
  all_goals (show (_ : Bool) = _; first | rfl | (simp only [isP, rng, lo, hi, mnI, mxI, Int.toNat_natCast, Sg.n, Nat.mul_one, Nat.zero_add, Nat.add_zero, Nat.reduceAdd, List.getD_cons_zero, List.getD_cons_succ, decide_eq_decide, decide_eq_true_eq, decide_eq_false_iff_not] <;> omega) | (simp_all [isP] <;> omega))

def bitS : Fun
  | [.b q], [] => some (.i .i64 (if q = true then 1 else 0), [], [])
  | [.d q], [] => some (.i .i64 (if q = true then 1 else 0), [], [])
  | _, _ => .none

theorem s_bit : Sound Tryd.prog 92 bitS := by
  intro args M r M' vs h hvs
  unfold bitS at h
  split at h
  case h_3 => cases h
  · rename_i q
    cases h
    refine SpecOK.of_goes [] Tryd.func92 rfl ?_
    have htb : TbOk Tryd.prog tb0 := TbOk.nil
    refine Goes.tree Γ_ok htb 100 false false Tryd.func92 rfl ?_
    ((repeat' (first | (with_reducible apply And.intro) | intro _)); all_goals (first | exact trivial | (with_reducible assumption) | (show (_ : List Blk) = _; rfl) | (first | exact trivial | (with_reducible assumption) | omega | (split <;> omega) | (split <;> split <;> omega)) | skip); all_goals (try (refine ⟨rfl, (by first | exact Nat.le_refl _ | exact Nat.le_of_ble_eq_true rfl), rfl, rfl, ?_, (by repeat' (first | exact trivial | rfl | apply And.intro)), rfl, rfl⟩)))
    all_goals (refine ⟨rfl, ?_⟩; simp_all)
  · rename_i q
    cases h
    refine SpecOK.of_goes [] Tryd.func92 rfl ?_
    cases q
    · refine Goes.run Γ_ok TbOk.nil 100 false [] rfl trivial ?_
      refine Goes.ret Γ_ok Tryd.func92 rfl rfl ?_
      (refine ⟨rfl, (by first | exact Nat.le_refl _ | exact Nat.le_of_ble_eq_true rfl), rfl, rfl, ?_, (by repeat' (first | exact trivial | rfl | apply And.intro)), rfl, rfl⟩)
      exact ⟨rfl, rfl⟩
    · refine Goes.run Γ_ok TbOk.nil 100 false [] rfl trivial ?_
      refine Goes.ret Γ_ok Tryd.func92 rfl rfl ?_
      (refine ⟨rfl, (by first | exact Nat.le_refl _ | exact Nat.le_of_ble_eq_true rfl), rfl, rfl, ?_, (by repeat' (first | exact trivial | rfl | apply And.intro)), rfl, rfl⟩)
      exact ⟨rfl, rfl⟩

def unlessS : Fun
  | [.b q, .i .i64 c], [] => some (.i .i64 (if q = true then 0 else c), [], [])
  | [.d true, .i .i64 c], [] => some (.i .i64 0, [], [])
  | [.d false, .i .i64 c], [] => some (.i .i64 c, [], [])
  | _, _ => .none

end Go.Proofs.YtplnfdgokpgbcaaDoor
