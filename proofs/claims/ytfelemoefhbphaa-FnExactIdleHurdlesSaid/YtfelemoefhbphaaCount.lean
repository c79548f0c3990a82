/- The hurdles counted: the plain law. -/
import Derived.Test.YtfelemoefhbphaaHurOf
namespace Go.Proofs.Ytfelemoefhbphaa
open Go Go.Eng
set_option linter.unusedSimpArgs false
set_option linter.unusedVariables false
set_option maxRecDepth 100000
set_option maxHeartbeats 4000000

def sN (f : Nat → Int) : Nat → Int
  | 0 => 0
  | n + 1 => sN f n + f n
theorem sN_ext {f g : Nat → Int} : ∀ n, (∀ i, i < n → f i = g i) → sN f n = sN g n := by
  intro n
  induction n with
  | zero => intro _; rfl
  | succ n ih => intro h; simp only [sN]; rw [ih (fun i hi => h i (by omega)), h n (by omega)]
theorem sN_cut {f : Nat → Int} {w : Nat} : ∀ n, w ≤ n → (∀ i, w ≤ i → i < n → f i = 0) → sN f n = sN f w := by
  intro n
  induction n with
  | zero => intro h _; rw [Nat.le_zero.1 h]
  | succ n ih =>
    intro h hz
    by_cases hw : w = n + 1
    · rw [hw]
    · simp only [sN]
      rw [ih (by omega) (fun i h1 h2 => hz i h1 (by omega)), hz n (by omega) (by omega)]; omega
theorem sN_add (f g : Nat → Int) : ∀ n, sN f n + sN g n = sN (fun i => f i + g i) n := by
  intro n
  induction n with
  | zero => rfl
  | succ n ih => simp only [sN]; omega

/-- Bit x of a number. -/
def bt (v : Int) (x : Nat) : Int := v / 2 ^ x % 2
theorem and_one {m : Int} (h0 : 0 ≤ m) (h1 : m < 65536) : bitsI .and .u16 m 1 = m % 2 := by
  obtain ⟨n, rfl⟩ := Int.eq_ofNat_of_zero_le h0
  have hn : n < 65536 := by omega
  have e : ((BitVec.ofInt 16 (n : Int)) &&& (BitVec.ofInt 16 1)).toNat = n % 2 := by
    rw [BitVec.toNat_and]
    have a : (BitVec.ofInt 16 (n : Int)).toNat = n := by
      rw [BitVec.ofInt_natCast, BitVec.toNat_ofNat]; exact Nat.mod_eq_of_lt hn
    have b : (BitVec.ofInt 16 1).toNat = 1 := by decide
    rw [a, b, Nat.and_one_is_mod]
  show IntKind.u16.wrap (((BitVec.ofInt 16 (n : Int)) &&& (BitVec.ofInt 16 1)).toNat : Int) = _
  rw [e]
  have : IntKind.u16.wrap ((n % 2 : Nat) : Int) = ((n % 2 : Nat) : Int) := wrap_of_rng (by simp only [rng, lo, hi]; omega)
  rw [this]; omega

/-- What is left behind j shifts, and how many ones were seen. -/
def vJ (v : Int) : Nat → Int
  | 0 => v
  | j + 1 => (vJ v j).fdiv (2 ^ (min 1 IntKind.u16.bits))
def cJ (v : Int) : Nat → Int
  | 0 => 0
  | j + 1 => cJ v j + bitsI .and .u16 (vJ v j) 1
theorem vJ_eq {v : Int} (h0 : 0 ≤ v) : ∀ j, vJ v j = v / 2 ^ j := by
  intro j
  induction j with
  | zero => simp [vJ]
  | succ j ih =>
    have e : (2 : Int) ^ (min 1 IntKind.u16.bits) = 2 := by decide
    unfold vJ
    rw [e, ih, Int.fdiv_eq_ediv_of_nonneg _ (by omega), Int.ediv_ediv_of_nonneg (Int.pow_nonneg (by omega)), Int.pow_succ]
theorem vJ_rng {v : Int} (h0 : 0 ≤ v) (h1 : v ≤ 65535) (j : Nat) : 0 ≤ vJ v j ∧ vJ v j ≤ 65535 := by
  rw [vJ_eq h0]
  have h2 : (0:Int) ≤ 2 ^ j := Int.pow_nonneg (by omega)
  exact ⟨Int.ediv_nonneg h0 h2, Int.le_trans (Int.ediv_le_self _ h0) h1⟩
theorem vJ_end {v : Int} (h0 : 0 ≤ v) (h1 : v ≤ 65535) : vJ v 16 = 0 := by
  rw [vJ_eq h0]
  have : (2 : Int) ^ 16 = 65536 := by decide
  rw [this]; omega
theorem cJ_eq {v : Int} (h0 : 0 ≤ v) (h1 : v ≤ 65535) : ∀ j, cJ v j = sN (bt v) j := by
  intro j
  induction j with
  | zero => rfl
  | succ j ih =>
    have := vJ_rng h0 h1 j
    simp only [cJ, sN]
    rw [ih, and_one this.1 (by omega), vJ_eq h0]; rfl
theorem cJ_stop {v : Int} (h0 : 0 ≤ v) (h1 : v ≤ 65535) {j : Nat} (hj : j ≤ 16) (hz : vJ v j = 0) : cJ v j = cJ v 16 := by
  rw [cJ_eq h0 h1, cJ_eq h0 h1]
  refine (sN_cut 16 hj fun i hi _ => ?_).symm
  rw [vJ_eq h0] at hz
  unfold bt
  have e : v / 2 ^ i = v / 2 ^ j / 2 ^ (i - j) := by
    rw [Int.ediv_ediv_of_nonneg (Int.pow_nonneg (by omega)), ← Int.pow_add, show j + (i - j) = i from by omega]
  rw [e, hz]; simp
theorem bt_01 (v : Int) (x : Nat) : bt v x = 0 ∨ bt v x = 1 := by unfold bt; omega

theorem bitAt_bt {v : Int} (h0 : 0 ≤ v) (h1 : v ≤ 65535) {x : Nat} (hx : x < 16) : bitAt v x = decide (bt v x = 1) := by
  unfold bitAt
  have e : min x IntKind.u16.bits = x := by have : IntKind.u16.bits = 16 := rfl; omega
  have h2 : (0:Int) ≤ 2 ^ x := Int.pow_nonneg (by omega)
  rw [e, Int.fdiv_eq_ediv_of_nonneg _ h2, and_one (Int.ediv_nonneg h0 h2) (by have := Int.ediv_le_self (2 ^ x) h0; omega)]
  rfl

theorem bt_nat (n x : Nat) : bt (n : Int) x = 1 ↔ Nat.testBit n x = true := by
  unfold bt
  rw [Nat.testBit_eq_decide_div_mod_eq, decide_eq_true_eq]
  have : ((n : Int) / 2 ^ x) = ((n / 2 ^ x : Nat) : Int) := by
    rw [Int.natCast_ediv, Int.natCast_pow]; rfl
  rw [this]; omega

/-- What is in the one is in the other. -/
theorem andNot_sub {v : Int} (h0 : 0 ≤ v) (h1 : v ≤ 65535) {r : Nat} (hr : r ≤ 65535) (h : bitsI .andNot .u16 v (r : Int) = 0) {x : Nat} (hx : x < 16) (hb : bt v x = 1) : Nat.testBit r x = true := by
  obtain ⟨n, rfl⟩ := Int.eq_ofNat_of_zero_le h0
  rw [bt_nat] at hb
  have h2 : IntKind.u16.wrap (((BitVec.ofInt 16 (n : Int)) &&& ~~~(BitVec.ofInt 16 (r : Int))).toNat : Int) = 0 := h
  have h3 : ((BitVec.ofInt 16 (n : Int)) &&& ~~~(BitVec.ofInt 16 (r : Int))).toNat < 65536 := BitVec.isLt _
  have h4 : IntKind.u16.wrap (((BitVec.ofInt 16 (n : Int)) &&& ~~~(BitVec.ofInt 16 (r : Int))).toNat : Int) = (((BitVec.ofInt 16 (n : Int)) &&& ~~~(BitVec.ofInt 16 (r : Int))).toNat : Int) := wrap_of_rng (by simp only [rng, lo, hi]; omega)
  rw [h4] at h2
  have h5 : ((BitVec.ofInt 16 (n : Int)) &&& ~~~(BitVec.ofInt 16 (r : Int))) = 0#16 := by
    apply BitVec.eq_of_toNat_eq
    simp only [BitVec.toNat_ofNat]
    omega
  have h6 := congrArg (fun b : BitVec 16 => b.getLsbD x) h5
  simp only [BitVec.getLsbD_and, BitVec.getLsbD_not, BitVec.getLsbD_zero] at h6
  have a : (BitVec.ofInt 16 (n : Int)).getLsbD x = true := by
    rw [BitVec.ofInt_natCast, BitVec.getLsbD_ofNat, hb]; simp [hx]
  have b : (BitVec.ofInt 16 (r : Int)).getLsbD x = Nat.testBit r x := by
    rw [BitVec.ofInt_natCast, BitVec.getLsbD_ofNat]; simp [hx]
  rw [a, b] at h6
  simp only [hx, decide_true, Bool.true_and] at h6
  cases hh : Nat.testBit r x with
  | true => rfl
  | false => rw [hh] at h6; cases h6

theorem half_bit (W x : Nat) : Nat.testBit ((2 ^ W - 1) / 2) x = decide (x + 1 < W) := by
  rw [Nat.testBit_div_two, Nat.testBit_two_pow_sub_one]
theorem full_bit (W x : Nat) : Nat.testBit (2 ^ W - 1) x = decide (x < W) := Nat.testBit_two_pow_sub_one ..
theorem pow_le {W : Nat} (h : W ≤ 10) : 2 ^ W - 1 ≤ 1023 := by
  have : 2 ^ W ≤ 2 ^ 10 := Nat.pow_le_pow_right (by omega) h
  have e : (2 : Nat) ^ 10 = 1024 := rfl
  omega

def eR (p : List Int) (y : Nat) : Int := p.getD (102 + y) 0
def sR (p : List Int) (y : Nat) : Int := p.getD (112 + y) 0
theorem ea_bit {p : List Int} (hp : PasOk p) (h : okP p) {y x : Nat} (hy : y < 10) (hx : x < 16) (hb : bt (eR p y) x = 1) : y < (p.getD 1 0).toNat ∧ x + 1 < (p.getD 0 0).toNat := by
  have hr := (h.2 y hy).2.1
  have hd := h.1
  unfold okD at hd
  rw [Nat.mul_one] at hr
  have hrng := hp.e' (y := y) hy
  unfold rE at hr
  by_cases hyh : y < (p.getD 1 0).toNat
  · rw [if_pos hyh] at hr
    have hq := pow_le (W := (p.getD 0 0).toNat) (by omega)
    have := andNot_sub (v := p.getD (102 + y) 0) hrng.1 hrng.2 (by omega) hr hx hb
    rw [half_bit] at this
    exact ⟨hyh, of_decide_eq_true this⟩
  · rw [if_neg hyh] at hr
    have := andNot_sub (v := p.getD (102 + y) 0) (r := 0) hrng.1 hrng.2 (by omega) hr hx hb
    simp at this
theorem so_bit {p : List Int} (hp : PasOk p) (h : okP p) {y x : Nat} (hy : y < 10) (hx : x < 16) (hb : bt (sR p y) x = 1) : y + 1 < (p.getD 1 0).toNat ∧ x < (p.getD 0 0).toNat := by
  have hr := (h.2 y hy).2.2
  have hd := h.1
  unfold okD at hd
  rw [Nat.mul_one] at hr
  have hrng := hp.s' (y := y) hy
  unfold rS at hr
  by_cases hyh : y + 1 < (p.getD 1 0).toNat
  · rw [if_pos hyh] at hr
    have hq := pow_le (W := (p.getD 0 0).toNat) (by omega)
    have := andNot_sub (v := p.getD (112 + y) 0) hrng.1 hrng.2 (by omega) hr hx hb
    rw [full_bit] at this
    exact ⟨hyh, of_decide_eq_true this⟩
  · rw [if_neg hyh] at hr
    have := andNot_sub (v := p.getD (112 + y) 0) (r := 0) hrng.1 hrng.2 (by omega) hr hx hb
    simp at this

def c01 (p h : List Int) : Int := if stF p h = true then 1 else 0
theorem c0_eq {p : List Int} (hp : PasOk p) (h : okP p) {y x : Nat} (hy : y < (p.getD 1 0).toNat) (hx : x < (p.getD 0 0).toNat) : c01 p [(x : Int), (y : Int), 0] = bt (eR p y) x := by
  have hd := h.1
  unfold okD at hd
  have hrng := hp.e' (y := y) (by omega)
  have hs : standsP p [(x : Int), (y : Int), 0] = decide (bt (eR p y) x = 1) := by
    unfold standsP
    simp only [List.getD_cons_zero, List.getD_cons_succ, Int.toNat_natCast, if_true]
    exact bitAt_bt hrng.1 hrng.2 (by omega)
  have hh : bt (eR p y) x = 1 → hurP p [(x : Int), (y : Int), 0] = true := fun hb => by
    obtain ⟨-, h2⟩ := ea_bit hp h (by omega) (by omega) hb
    unfold hurP ahead isP
    simp only [List.getD_cons_zero, List.getD_cons_succ, if_true]
    have h10 : ¬ (1 : Int) = 0 := by decide
    rw [if_neg h10]
    simp only [List.getD_cons_zero, List.getD_cons_succ, Bool.and_eq_true, decide_eq_true_eq]
    omega
  unfold c01 stF
  rw [hs]
  rcases bt_01 (eR p y) x with e | e
  · rw [e]; simp
  · rw [hh e, e]; simp
theorem c1_eq {p : List Int} (hp : PasOk p) (h : okP p) {y x : Nat} (hy : y < (p.getD 1 0).toNat) (hx : x < (p.getD 0 0).toNat) : c01 p [(x : Int), (y : Int), 1] = bt (sR p y) x := by
  have hd := h.1
  unfold okD at hd
  have hrng := hp.s' (y := y) (by omega)
  have h10 : ¬ (1 : Int) = 0 := by decide
  have hs : standsP p [(x : Int), (y : Int), 1] = decide (bt (sR p y) x = 1) := by
    unfold standsP
    simp only [List.getD_cons_zero, List.getD_cons_succ, Int.toNat_natCast]
    rw [if_neg h10]
    exact bitAt_bt hrng.1 hrng.2 (by omega)
  have hh : bt (sR p y) x = 1 → hurP p [(x : Int), (y : Int), 1] = true := fun hb => by
    obtain ⟨h1, h2⟩ := so_bit hp h (by omega) (by omega) hb
    unfold hurP ahead isP
    simp only [List.getD_cons_zero, List.getD_cons_succ]
    have h20 : ¬ (2 : Int) = 0 := by decide
    have h21 : ¬ (2 : Int) = 1 := by decide
    rw [if_neg h10, if_neg h20, if_neg h21, if_pos rfl]
    simp only [List.getD_cons_zero, List.getD_cons_succ, Bool.and_eq_true, decide_eq_true_eq]
    omega
  unfold c01 stF
  rw [hs]
  rcases bt_01 (sR p y) x with e | e
  · rw [e]; simp
  · rw [hh e, e]; simp

theorem addH_cnt (p : List Int) (A : List (List Int)) (h : List Int) : ((addH (stF p) A h).length : Int) = A.length + c01 p h := by
  unfold addH c01
  split
  · rw [List.length_append, List.length_cons, List.length_nil]; omega
  · omega
theorem row_cnt (p : List Int) (acc : List (List Int)) (y x : Nat) : ((sidL (stF p) (rowA acc y x)).length : Int) = (sidL (stF p) acc).length + sN (fun x => c01 p [(x : Int), (y : Int), 0] + c01 p [(x : Int), (y : Int), 1]) x := by
  induction x with
  | zero => simp [rowA, sN]
  | succ x ih =>
    rw [sidL_row]
    unfold addC
    rw [addH_cnt, addH_cnt, ih]
    have e0 : h0 [(x : Int), (y : Int)] = [(x : Int), (y : Int), 0] := rfl
    have e1 : h1 [(x : Int), (y : Int)] = [(x : Int), (y : Int), 1] := rfl
    rw [e0, e1]
    simp only [sN]
    omega
theorem all_cnt (p : List Int) (w : Nat) : ∀ y, ((sidL (stF p) (spotsY w y)).length : Int) = sN (fun y => sN (fun x => c01 p [(x : Int), (y : Int), 0] + c01 p [(x : Int), (y : Int), 1]) w) y := by
  intro y
  induction y with
  | zero => rfl
  | succ y ih =>
    show ((sidL (stF p) (rowA (spotsY w y) y w)).length : Int) = _
    rw [row_cnt, ih]; rfl

def cntY (p : List Int) (y : Nat) : Int := cJ (eR p y) 16 + cJ (sR p y) 16
theorem count_eq {p : List Int} (hp : PasOk p) (h : okP p) : sN (cntY p) 10 = ((hurRows p).length : Int) := by
  have hd := h.1
  unfold okD at hd
  have hc : ∀ y, y < 10 → cntY p y = sN (bt (eR p y)) 16 + sN (bt (sR p y)) 16 := fun y hy => by
    unfold cntY
    rw [cJ_eq (v := eR p y) (hp.e' hy).1 (hp.e' hy).2, cJ_eq (v := sR p y) (hp.s' hy).1 (hp.s' hy).2]
  rw [sN_cut (w := (p.getD 1 0).toNat) 10 (by omega) (fun y h1 h2 => by
    rw [hc y h2]
    have z1 : sN (bt (eR p y)) 16 = sN (bt (eR p y)) 0 := sN_cut 16 (by omega) fun x _ hx => by
      rcases bt_01 (eR p y) x with e | e
      · exact e
      · have := (ea_bit hp h h2 hx e).1; omega
    have z2 : sN (bt (sR p y)) 16 = sN (bt (sR p y)) 0 := sN_cut 16 (by omega) fun x _ hx => by
      rcases bt_01 (sR p y) x with e | e
      · exact e
      · have := (so_bit hp h h2 hx e).1; omega
    rw [z1, z2]; rfl)]
  unfold hurRows spots
  rw [all_cnt]
  refine sN_ext _ fun y hy => ?_
  rw [hc y (by omega)]
  have z1 : sN (bt (eR p y)) 16 = sN (bt (eR p y)) (p.getD 0 0).toNat := sN_cut 16 (by omega) fun x hx1 hx => by
    rcases bt_01 (eR p y) x with e | e
    · exact e
    · have := (ea_bit hp h (by omega) hx e).2; omega
  have z2 : sN (bt (sR p y)) 16 = sN (bt (sR p y)) (p.getD 0 0).toNat := sN_cut 16 (by omega) fun x hx1 hx => by
    rcases bt_01 (sR p y) x with e | e
    · exact e
    · have := (so_bit hp h (by omega) hx e).2; omega
  rw [z1, z2, sN_add]
  refine sN_ext _ fun x hx => ?_
  rw [c0_eq hp h hy hx, c1_eq hp h hy hx]
end Go.Proofs.Ytfelemoefhbphaa
