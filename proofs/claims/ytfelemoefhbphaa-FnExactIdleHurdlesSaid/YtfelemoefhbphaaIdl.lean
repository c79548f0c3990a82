/- Idle hurdles counted: the plain law. -/
import Derived.Test.YtfelemoefhbphaaNames
import Derived.Test.YtfelemoefhbphaaDrop
import Derived.Test.YtfelemoefhbphaaCount
namespace Go.Proofs.Ytfelemoefhbphaa
open Go Go.Eng
set_option linter.unusedSimpArgs false
set_option linter.unusedVariables false
set_option maxRecDepth 100000
set_option maxHeartbeats 4000000

theorem offB_ok {v : Int} (h0 : 0 ≤ v) (h1 : v ≤ 65535) {x : Nat} (hx : x < 16) : 0 ≤ offB v x ∧ offB v x ≤ 65535 ∧ ∀ x', x' < 16 → bt (offB v x) x' = if x' = x then 0 else bt v x' := by
  obtain ⟨n, rfl⟩ := Int.eq_ofNat_of_zero_le h0
  have hm : min x IntKind.u16.bits = x := by have : IntKind.u16.bits = 16 := rfl; omega
  have hp : 2 ^ x ≤ 2 ^ 15 := Nat.pow_le_pow_right (by omega) (by omega)
  have h15 : (2 : Nat) ^ 15 = 32768 := rfl
  have hw : IntKind.u16.wrap (1 * 2 ^ (min x IntKind.u16.bits)) = ((2 ^ x : Nat) : Int) := by
    rw [hm, Int.one_mul]
    have : ((2 : Int) ^ x) = ((2 ^ x : Nat) : Int) := by rw [Int.natCast_pow]; rfl
    rw [this]
    have h65 : (2 : Nat) ^ x ≤ 65535 := by omega
    exact wrap_of_rng (by simp only [rng, lo, hi]; exact ⟨Int.natCast_nonneg _, Int.ofNat_le.2 h65⟩)
  have h3 : ((BitVec.ofInt 16 (n : Int)) &&& ~~~(BitVec.ofInt 16 ((2 ^ x : Nat) : Int))).toNat < 65536 := BitVec.isLt _
  have e : offB n x = (((BitVec.ofInt 16 (n : Int)) &&& ~~~(BitVec.ofInt 16 ((2 ^ x : Nat) : Int))).toNat : Int) := by
    unfold offB
    rw [hw]
    show IntKind.u16.wrap (((BitVec.ofInt 16 (n : Int)) &&& ~~~(BitVec.ofInt 16 ((2 ^ x : Nat) : Int))).toNat : Int) = _
    exact wrap_of_rng (by simp only [rng, lo, hi]; omega)
  rw [e]
  refine ⟨by omega, by omega, fun x' hx' => ?_⟩
  have hb : bt (((BitVec.ofInt 16 (n : Int)) &&& ~~~(BitVec.ofInt 16 ((2 ^ x : Nat) : Int))).toNat : Int) x' = 1 ↔ (bt (n : Int) x' = 1 ∧ ¬ x' = x) := by
    rw [bt_nat, bt_nat]
    have g : Nat.testBit ((BitVec.ofInt 16 (n : Int)) &&& ~~~(BitVec.ofInt 16 ((2 ^ x : Nat) : Int))).toNat x' = ((BitVec.ofInt 16 (n : Int)) &&& ~~~(BitVec.ofInt 16 ((2 ^ x : Nat) : Int))).getLsbD x' := rfl
    have a : (BitVec.ofInt 16 (n : Int)).getLsbD x' = Nat.testBit n x' := by
      rw [BitVec.ofInt_natCast, BitVec.getLsbD_ofNat]; simp [hx']
    have b : (BitVec.ofInt 16 ((2 ^ x : Nat) : Int)).getLsbD x' = decide (x = x') := by
      rw [BitVec.ofInt_natCast, BitVec.getLsbD_ofNat, Nat.testBit_two_pow]; simp [hx']
    rw [g, BitVec.getLsbD_and, BitVec.getLsbD_not, a, b]
    simp only [hx', decide_true, Bool.true_and, Bool.and_eq_true, Bool.not_eq_true', decide_eq_false_iff_not]
    exact ⟨fun h => ⟨h.1, fun e => h.2 e.symm⟩, fun h => ⟨h.1, fun e => h.2 e.symm⟩⟩
  rcases bt_01 (((BitVec.ofInt 16 (n : Int)) &&& ~~~(BitVec.ofInt 16 ((2 ^ x : Nat) : Int))).toNat : Int) x' with z | z
  · rw [z]
    split
    · rfl
    · rename_i hne
      rcases bt_01 (n : Int) x' with u | u
      · exact u.symm
      · rw [hb.2 ⟨u, hne⟩] at z; cases z
  · rw [z]
    obtain ⟨u, hne⟩ := hb.1 z
    rw [if_neg hne, u]

/-- The row of bits of a side. -/
def bR (q : List Int) (d y : Nat) : Int := q.getD (92 + 10 * d + y) 0
structure BOk (q : List Int) : Prop where
  len : q.length = 122
  rg : ∀ d y, (d = 1 ∨ d = 2) → y < 10 → 0 ≤ bR q d y ∧ bR q d y ≤ 65535
theorem clr_eq (q : List Int) (x y d : Nat) (hd : d = 1 ∨ d = 2) : clrP q [(x : Int), (y : Int)] (d : Int) = q.set (92 + 10 * d + y) (offB (bR q d y) x) := by
  rcases hd with rfl | rfl <;> rfl
theorem clr_ok {q : List Int} (h : BOk q) {x y d : Nat} (hx : x < 10) (hy : y < 10) (hd : d = 1 ∨ d = 2) : BOk (clrP q [(x : Int), (y : Int)] (d : Int)) ∧
    ∀ d' y' x', (d' = 1 ∨ d' = 2) → y' < 10 → x' < 16 → bt (bR (clrP q [(x : Int), (y : Int)] (d : Int)) d' y') x' = if d' = d ∧ y' = y ∧ x' = x then 0 else bt (bR q d' y') x' := by
  obtain ⟨r1, r2⟩ := h.rg d y hd hy
  obtain ⟨o1, o2, o3⟩ := offB_ok r1 r2 (x := x) (by omega)
  rw [clr_eq q x y d hd]
  have hl := h.len
  have hg : ∀ d' y', (d' = 1 ∨ d' = 2) → y' < 10 → bR (q.set (92 + 10 * d + y) (offB (bR q d y) x)) d' y' = if d' = d ∧ y' = y then offB (bR q d y) x else bR q d' y' := fun d' y' h1 h2 => by
    unfold bR
    rw [sg_get]
    by_cases he : d' = d ∧ y' = y
    · rw [if_pos he, if_pos (by omega)]
    · rw [if_neg he, if_neg (by omega)]
  refine ⟨⟨by rw [List.length_set]; exact hl, fun d' y' h1 h2 => ?_⟩, fun d' y' x' h1 h2 h3 => ?_⟩
  · rw [hg d' y' h1 h2]
    split
    · exact ⟨o1, o2⟩
    · exact h.rg d' y' h1 h2
  · rw [hg d' y' h1 h2]
    by_cases he : d' = d ∧ y' = y
    · obtain ⟨rfl, rfl⟩ := he
      rw [if_pos ⟨rfl, rfl⟩, o3 x' h3]
      by_cases hx' : x' = x
      · rw [if_pos hx', if_pos ⟨rfl, rfl, hx'⟩]
      · rw [if_neg hx', if_neg (fun h => hx' h.2.2)]
    · rw [if_neg he, if_neg (fun h => he ⟨h.1, h.2.1⟩)]

theorem drp1_ok {p T q : List Int} (h : BOk q) {x y d : Nat} (hx : x < 10) (hy : y < 10) (hd : d = 1 ∨ d = 2) : BOk (drp1 p T q [(x : Int), (y : Int)] (d : Int)) ∧
    ∀ d' y' x', (d' = 1 ∨ d' = 2) → y' < 10 → x' < 16 → bt (bR (drp1 p T q [(x : Int), (y : Int)] (d : Int)) d' y') x' = if (d' = d ∧ y' = y ∧ x' = x) ∧ sameT p T [(x : Int), (y : Int)] (d : Int) = true then 0 else bt (bR q d' y') x' := by
  unfold drp1
  by_cases hs : sameT p T [(x : Int), (y : Int)] (d : Int) = true
  · rw [if_pos hs]
    obtain ⟨a, b⟩ := clr_ok h hx hy hd
    refine ⟨a, fun d' y' x' h1 h2 h3 => ?_⟩
    rw [b d' y' x' h1 h2 h3]
    by_cases he : d' = d ∧ y' = y ∧ x' = x
    · rw [if_pos he, if_pos ⟨he, hs⟩]
    · rw [if_neg he, if_neg (fun h => he h.1)]
  · rw [if_neg hs]
    exact ⟨h, fun d' y' x' h1 h2 h3 => by rw [if_neg (fun h => hs h.2)]⟩
theorem drpC_ok {p T q : List Int} (h : BOk q) {x y : Nat} (hx : x < 10) (hy : y < 10) : BOk (drpC p T q [(x : Int), (y : Int)]) ∧
    ∀ d' y' x' : Nat, (d' = 1 ∨ d' = 2) → y' < 10 → x' < 16 → bt (bR (drpC p T q [(x : Int), (y : Int)]) d' y') x' = if (y' = y ∧ x' = x) ∧ sameT p T [(x : Int), (y : Int)] (d' : Int) = true then 0 else bt (bR q d' y') x' := by
  obtain ⟨a1, b1⟩ := drp1_ok (p := p) (T := T) h hx hy (.inl rfl)
  obtain ⟨a2, b2⟩ := drp1_ok (p := p) (T := T) a1 hx hy (.inr rfl)
  have e : drpC p T q [(x : Int), (y : Int)] = drp1 p T (drp1 p T q [(x : Int), (y : Int)] ((1 : Nat) : Int)) [(x : Int), (y : Int)] ((2 : Nat) : Int) := rfl
  rw [e]
  refine ⟨a2, fun d' y' x' h1 h2 h3 => ?_⟩
  rw [b2 d' y' x' h1 h2 h3, b1 d' y' x' h1 h2 h3]
  rcases h1 with rfl | rfl
  · rw [if_neg (fun h => absurd h.1.1 (by decide))]
    by_cases he : (y' = y ∧ x' = x) ∧ sameT p T [(x : Int), (y : Int)] ((1 : Nat) : Int) = true
    · rw [if_pos he, if_pos ⟨⟨rfl, he.1⟩, he.2⟩]
    · rw [if_neg he, if_neg (fun h => he ⟨h.1.2, h.2⟩)]
  · by_cases he : (y' = y ∧ x' = x) ∧ sameT p T [(x : Int), (y : Int)] ((2 : Nat) : Int) = true
    · rw [if_pos he, if_pos ⟨⟨rfl, he.1⟩, he.2⟩]
    · rw [if_neg he, if_neg (fun h => he ⟨h.1.2, h.2⟩), if_neg (fun h => absurd h.1.1 (by decide))]
theorem fold_ok {p T : List Int} (l : List (List Int)) : ∀ q : List Int, BOk q → (∀ s ∈ l, ∃ x y : Nat, s = [(x : Int), (y : Int)] ∧ x < 10 ∧ y < 10) → BOk (l.foldl (drpC p T) q) ∧
    ∀ d' y' x' : Nat, (d' = 1 ∨ d' = 2) → y' < 10 → x' < 16 → bt (bR (l.foldl (drpC p T) q) d' y') x' = if [(x' : Int), (y' : Int)] ∈ l ∧ sameT p T [(x' : Int), (y' : Int)] (d' : Int) = true then 0 else bt (bR q d' y') x' := by
  induction l with
  | nil => intro q h _; exact ⟨h, fun d' y' x' _ _ _ => by rw [if_neg (fun h => by cases h.1)]; rfl⟩
  | cons s l ih =>
    intro q h hl
    obtain ⟨x, y, rfl, hx, hy⟩ := hl s List.mem_cons_self
    obtain ⟨a, b⟩ := drpC_ok (p := p) (T := T) h hx hy
    obtain ⟨c, d⟩ := ih _ a (fun s hs => hl s (List.mem_cons_of_mem _ hs))
    refine ⟨c, fun d' y' x' h1 h2 h3 => ?_⟩
    rw [List.foldl_cons, d d' y' x' h1 h2 h3, b d' y' x' h1 h2 h3]
    by_cases hm : [(x' : Int), (y' : Int)] ∈ l ∧ sameT p T [(x' : Int), (y' : Int)] (d' : Int) = true
    · rw [if_pos hm, if_pos ⟨List.mem_cons_of_mem _ hm.1, hm.2⟩]
    · rw [if_neg hm]
      by_cases he : (y' = y ∧ x' = x) ∧ sameT p T [(x : Int), (y : Int)] (d' : Int) = true
      · obtain ⟨⟨rfl, rfl⟩, hs⟩ := he
        rw [if_pos ⟨⟨rfl, rfl⟩, hs⟩, if_pos ⟨List.mem_cons_self, hs⟩]
      · rw [if_neg he, if_neg]
        rintro ⟨h4, h5⟩
        rcases List.mem_cons.1 h4 with h6 | h6
        · simp only [List.cons.injEq, and_true] at h6
          have e1 : x' = x := by omega
          have e2 : y' = y := by omega
          subst e1; subst e2
          exact he ⟨⟨rfl, rfl⟩, h5⟩
        · exact hm ⟨h6, h5⟩

theorem bok_of {p : List Int} (hp : PasOk p) : BOk p := by
  refine ⟨hp.len, fun d y hd hy => ?_⟩
  rcases hd with rfl | rfl
  · exact hp.e' hy
  · exact hp.s' hy
theorem drop_ok {p T : List Int} (hp : PasOk p) (hd : okD p) : BOk (drpL p T (spots p)) ∧
    ∀ d' y' x' : Nat, (d' = 1 ∨ d' = 2) → y' < 10 → x' < 16 → bt (bR (drpL p T (spots p)) d' y') x' = if [(x' : Int), (y' : Int)] ∈ spots p ∧ sameT p T [(x' : Int), (y' : Int)] (d' : Int) = true then 0 else bt (bR p d' y') x' := by
  refine fold_ok (spots p) p (bok_of hp) fun s hs => ?_
  obtain ⟨h1, h2⟩ := spots_in hd s hs
  obtain ⟨x, y, e, hx, hy⟩ := spot_nat h1 h2
  unfold okD at hd
  exact ⟨x, y, e, by omega, by omega⟩

/-- The idle side of one of the bits. -/
def kB (p T : List Int) (d y x : Nat) : Int := if [(x : Int), (y : Int)] ∈ spots p ∧ sameT p T [(x : Int), (y : Int)] (d : Int) = true then bt (bR p d y) x else 0
theorem cnt_bits {q : List Int} (h : BOk q) {y : Nat} (hy : y < 10) : cntY q y = sN (bt (bR q 1 y)) 16 + sN (bt (bR q 2 y)) 16 := by
  obtain ⟨a1, a2⟩ := h.rg 1 y (.inl rfl) hy
  obtain ⟨b1, b2⟩ := h.rg 2 y (.inr rfl) hy
  show cJ (bR q 1 y) 16 + cJ (bR q 2 y) 16 = _
  rw [cJ_eq a1 a2, cJ_eq b1 b2]
theorem cnt_diff {p T : List Int} (hp : PasOk p) (hd : okD p) : sN (cntY p) 10 - sN (cntY (drpL p T (spots p))) 10 = sN (fun y => sN (kB p T 1 y) 16 + sN (kB p T 2 y) 16) 10 := by
  obtain ⟨h1, h2⟩ := drop_ok (T := T) hp hd
  have hs : ∀ d y, (d = 1 ∨ d = 2) → y < 10 → sN (bt (bR p d y)) 16 = sN (bt (bR (drpL p T (spots p)) d y)) 16 + sN (kB p T d y) 16 := fun d y h3 h4 => by
    rw [sN_add]
    refine sN_ext _ fun x hx => ?_
    rw [h2 d y x h3 h4 hx]
    unfold kB
    split <;> omega
  have e : sN (cntY p) 10 = sN (cntY (drpL p T (spots p))) 10 + sN (fun y => sN (kB p T 1 y) 16 + sN (kB p T 2 y) 16) 10 := by
    rw [sN_add]
    refine sN_ext _ fun y hy => ?_
    rw [cnt_bits (bok_of hp) hy, cnt_bits h1 hy, hs 1 y (.inl rfl) hy, hs 2 y (.inr rfl) hy]
    omega
  omega

/-! The program's count. -/
def fH (p : List Int) (es : List (List Int × Int)) (h : List Int) : Bool := stF p h && !delH es h
theorem left_addH (p : List Int) (es : List (List Int × Int)) (acc : List (List Int)) (h : List Int) : leftH es (addH (stF p) acc h) = addH (fH p es) (leftH es acc) h := by
  unfold addH fH
  by_cases hs : stF p h = true
  · rw [if_pos hs, filter_snoc, hs, Bool.true_and]
    cases delH es h <;> simp
  · rw [if_neg hs]
    rw [Bool.not_eq_true] at hs
    rw [hs, Bool.false_and, if_neg (by decide)]
theorem left_sid (p : List Int) (es : List (List Int × Int)) (rows : List (List Int)) : ∀ i, leftH es (sidK (stF p) rows i) = sidK (fH p es) rows i := by
  intro i
  induction i with
  | zero => rfl
  | succ i ih =>
    unfold sidK addC
    rw [left_addH, left_addH, ih]
def cF (f : List Int → Bool) (h : List Int) : Int := if f h = true then 1 else 0
theorem addH_cF (f : List Int → Bool) (A : List (List Int)) (h : List Int) : ((addH f A h).length : Int) = A.length + cF f h := by
  unfold addH cF
  split
  · rw [List.length_append, List.length_cons, List.length_nil]; omega
  · omega
theorem row_cF (f : List Int → Bool) (acc : List (List Int)) (y x : Nat) : ((sidL f (rowA acc y x)).length : Int) = (sidL f acc).length + sN (fun x => cF f [(x : Int), (y : Int), 0] + cF f [(x : Int), (y : Int), 1]) x := by
  induction x with
  | zero => simp [rowA, sN]
  | succ x ih =>
    rw [sidL_row]
    unfold addC
    rw [addH_cF, addH_cF, ih]
    have e0 : h0 [(x : Int), (y : Int)] = [(x : Int), (y : Int), 0] := rfl
    have e1 : h1 [(x : Int), (y : Int)] = [(x : Int), (y : Int), 1] := rfl
    rw [e0, e1]
    simp only [sN]
    omega
theorem all_cF (f : List Int → Bool) (w : Nat) : ∀ y, ((sidL f (spotsY w y)).length : Int) = sN (fun y => sN (fun x => cF f [(x : Int), (y : Int), 0] + cF f [(x : Int), (y : Int), 1]) w) y := by
  intro y
  induction y with
  | zero => rfl
  | succ y ih =>
    show ((sidL f (rowA (spotsY w y) y w)).length : Int) = _
    rw [row_cF, ih]; rfl

theorem k_eq {p : List Int} (hp : PasOk p) (h : okP p) {x y : Nat} (hy : y < (p.getD 1 0).toNat) (hx : x < (p.getD 0 0).toNat) {c : Int} {d : Nat} (hcd : (c = 0 ∧ d = 1) ∨ (c = 1 ∧ d = 2)) :
    cF (fH p (namesP p)) [(x : Int), (y : Int), c] = kB p (yT p (spots p)) d y x := by
  have hb : c01 p [(x : Int), (y : Int), c] = bt (bR p d y) x := by
    rcases hcd with ⟨rfl, rfl⟩ | ⟨rfl, rfl⟩
    · exact c0_eq hp h hy hx
    · exact c1_eq hp h hy hx
  have hP : isP p [(x : Int), (y : Int)] = true := by
    unfold isP
    simp only [List.getD_cons_zero, List.getD_cons_succ, decide_eq_true_eq]; omega
  have ho : othC [(x : Int), (y : Int), c] = ahead [(x : Int), (y : Int)] (d : Int) := by
    rcases hcd with ⟨rfl, rfl⟩ | ⟨rfl, rfl⟩ <;> rfl
  have hm : [(x : Int), (y : Int)] ∈ spots p := spots_mem hP rfl
  unfold kB cF fH
  by_cases hs : stF p [(x : Int), (y : Int), c] = true
  · have hb1 : bt (bR p d y) x = 1 := by rw [← hb, c01, if_pos hs]
    have hq : isP p (ahead [(x : Int), (y : Int)] (d : Int)) = true := by
      unfold stF hurP at hs
      simp only [Bool.and_eq_true] at hs
      rw [← ho]
      exact hs.1.2
    have n1 := name_num h.1 hP rfl
    have n2 := name_num h.1 hq (ahead_len _ _)
    have hsame : sameT p (yT p (spots p)) [(x : Int), (y : Int)] (d : Int) = !delH (namesP p) [(x : Int), (y : Int), c] := by
      unfold sameT delH
      rw [hq, Bool.true_and, Bool.not_not, n1, n2, ho]
      simp only [List.getD_cons_zero, List.getD_cons_succ]
      exact decide_eq_decide.2 (by omega)
    rw [hs, Bool.true_and, hb1, ← hsame]
    by_cases ht : sameT p (yT p (spots p)) [(x : Int), (y : Int)] (d : Int) = true
    · rw [if_pos ht, if_pos ⟨hm, ht⟩]
    · rw [if_neg ht, if_neg (fun h => ht h.2)]
  · have hb0 : bt (bR p d y) x = 0 := by rw [← hb, c01, if_neg hs]
    rw [Bool.not_eq_true] at hs
    rw [hs, Bool.false_and, if_neg (by decide), hb0]
    split <;> rfl
theorem kB_out {p T : List Int} {d y x : Nat} (hn : ¬ (x < (p.getD 0 0).toNat ∧ y < (p.getD 1 0).toNat)) : kB p T d y x = 0 := by
  unfold kB
  rw [if_neg]
  rintro ⟨h, -⟩
  obtain ⟨j, i, hj, hi, e⟩ := mem_spotsY.1 h
  simp only [List.cons.injEq, and_true] at e
  exact hn (by omega)

theorem idle_eq {p : List Int} (hp : PasOk p) (h : okP p) : sN (cntY p) 10 - sN (cntY (drpL p (yT p (spots p)) (spots p))) 10 = ((idleL p).length : Int) := by
  have hd := h.1
  rw [cnt_diff hp hd]
  have e : idleL p = sidL (fH p (namesP p)) (spots p) := left_sid p (namesP p) (spots p) _
  rw [e]
  unfold spots
  rw [all_cF]
  unfold okD at hd
  rw [sN_cut (w := (p.getD 1 0).toNat) 10 (by omega) (fun y h1 h2 => by
    have z : ∀ d, sN (kB p (yT p (spots p)) d y) 16 = 0 := fun d => by
      rw [sN_cut (w := 0) 16 (by omega) (fun x _ _ => kB_out (by omega))]; rfl
    show sN (kB p (yT p (spots p)) 1 y) 16 + sN (kB p (yT p (spots p)) 2 y) 16 = 0
    rw [z, z]; rfl)]
  refine sN_ext _ fun y hy => ?_
  show sN (kB p (yT p (spots p)) 1 y) 16 + sN (kB p (yT p (spots p)) 2 y) 16 = _
  rw [sN_cut (w := (p.getD 0 0).toNat) 16 (by omega) (fun x h1 h2 => kB_out (by omega)), sN_cut (f := kB p (yT p (spots p)) 2 y) (w := (p.getD 0 0).toNat) 16 (by omega) (fun x h1 h2 => kB_out (by omega)), sN_add]
  refine sN_ext _ fun x hx => ?_
  rw [k_eq hp h hy hx (.inl ⟨rfl, rfl⟩), k_eq hp h hy hx (.inr ⟨rfl, rfl⟩)]
end Go.Proofs.Ytfelemoefhbphaa
