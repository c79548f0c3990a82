/- What is drawn is valid. -/
import Derived.Test.YtgogccconmlkiaaDraw2
namespace Go.Proofs.Ytgogccconmlkiaa
open Go Go.Eng
set_option linter.unusedSimpArgs false
set_option linter.unusedVariables false
set_option maxRecDepth 100000
set_option maxHeartbeats 4000000

/-! Bits of sixteen. -/
theorem wrap16 {n : Nat} (h : n < 65536) : IntKind.u16.wrap (n : Int) = n := wrap_of_rng (by simp only [rng, lo, hi]; omega)
theorem ofInt_toNat (x : BitVec 16) : BitVec.ofInt 16 (x.toNat : Int) = x := by
  apply BitVec.eq_of_toNat_eq
  rw [BitVec.toNat_ofInt]
  have := x.isLt
  omega
theorem bitsI_val (op : BinOp) (v m : Int) : bitsI op .u16 v m = (((match op with | .and => BitVec.ofInt 16 v &&& BitVec.ofInt 16 m | .or => BitVec.ofInt 16 v ||| BitVec.ofInt 16 m | .xor => BitVec.ofInt 16 v ^^^ BitVec.ofInt 16 m | _ => BitVec.ofInt 16 v &&& ~~~ BitVec.ofInt 16 m) : BitVec 16).toNat : Int) := by
  unfold bitsI
  cases op <;> exact wrap16 (BitVec.isLt _)
theorem on_ok {v m b : Int} (h : bitsI .andNot .u16 v m = 0) (hb : bitsI .andNot .u16 b m = 0) : bitsI .andNot .u16 (bitsI .or .u16 (bitsI .andNot .u16 v b) b) m = 0 := by
  rw [bitsI_val] at h hb ⊢
  rw [bitsI_val .or, bitsI_val .andNot v b, ofInt_toNat, ofInt_toNat]
  have h1 : (BitVec.ofInt 16 v &&& ~~~ BitVec.ofInt 16 m : BitVec 16) = 0#16 := by
    apply BitVec.eq_of_toNat_eq; simpa using h
  have h2 : (BitVec.ofInt 16 b &&& ~~~ BitVec.ofInt 16 m : BitVec 16) = 0#16 := by
    apply BitVec.eq_of_toNat_eq; simpa using hb
  have h3 : (((BitVec.ofInt 16 v &&& ~~~ BitVec.ofInt 16 b) ||| BitVec.ofInt 16 b) &&& ~~~ BitVec.ofInt 16 m : BitVec 16) = 0#16 := by
    apply BitVec.eq_of_getLsbD_eq
    intro i hi
    have e1 := congrArg (fun x : BitVec 16 => x.getLsbD i) h1
    have e2 := congrArg (fun x : BitVec 16 => x.getLsbD i) h2
    simp only [BitVec.getLsbD_and, BitVec.getLsbD_or, BitVec.getLsbD_not, BitVec.getLsbD_zero] at e1 e2 ⊢
    revert e1 e2
    cases (BitVec.ofInt 16 v).getLsbD i <;> cases (BitVec.ofInt 16 b).getLsbD i <;> cases (BitVec.ofInt 16 m).getLsbD i <;> simp [hi]
  show (((_ : BitVec 16)).toNat : Int) = 0
  rw [h3]; rfl
theorem bitEaB : ((List.range 11).all fun W => (List.range 11).all fun H => (List.range 10).all fun y => (List.range 10).all fun x => !(decide (x + 1 < W ∧ y < H)) || decide (bitsI .andNot .u16 (bitX x) (rE W H y) = 0)) = true := by decide +kernel
theorem bitEa (W : Nat) (hW : W < 11) (H : Nat) (hH : H < 11) (y : Nat) (hy : y < 10) (x : Nat) (hx : x < 10) (hc : x + 1 < W ∧ y < H) : bitsI .andNot .u16 (bitX x) (rE W H y) = 0 := by
  have h := List.all_eq_true.1 (List.all_eq_true.1 (List.all_eq_true.1 (List.all_eq_true.1 bitEaB W (List.mem_range.2 hW)) H (List.mem_range.2 hH)) y (List.mem_range.2 hy)) x (List.mem_range.2 hx)
  simpa [hc] using h
theorem bitSoB : ((List.range 11).all fun W => (List.range 11).all fun H => (List.range 10).all fun y => (List.range 10).all fun x => !(decide (x < W ∧ y + 1 < H)) || decide (bitsI .andNot .u16 (bitX x) (rS W H y) = 0)) = true := by decide +kernel
theorem bitSo (W : Nat) (hW : W < 11) (H : Nat) (hH : H < 11) (y : Nat) (hy : y < 10) (x : Nat) (hx : x < 10) (hc : x < W ∧ y + 1 < H) : bitsI .andNot .u16 (bitX x) (rS W H y) = 0 := by
  have h := List.all_eq_true.1 (List.all_eq_true.1 (List.all_eq_true.1 (List.all_eq_true.1 bitSoB W (List.mem_range.2 hW)) H (List.mem_range.2 hH)) y (List.mem_range.2 hy)) x (List.mem_range.2 hx)
  simpa [hc] using h

/-- All rows are as they ought to be. -/
def rowsOk (p : List Int) : Prop := ∀ y, y < 10 → okR p y
theorem okR_of {p q : List Int} {y : Nat} (h : okR p y) (h0 : q.getD 0 0 = p.getD 0 0) (h1 : q.getD 1 0 = p.getD 1 0) (hg : ∀ x, x < 10 → okC q y x) (he : q.getD (102 + y * 1) 0 = p.getD (102 + y * 1) 0 ∨ bitsI .andNot .u16 (q.getD (102 + y * 1) 0) (rE (p.getD 0 0).toNat (p.getD 1 0).toNat y) = 0)
    (hs : q.getD (112 + y * 1) 0 = p.getD (112 + y * 1) 0 ∨ bitsI .andNot .u16 (q.getD (112 + y * 1) 0) (rS (p.getD 0 0).toNat (p.getD 1 0).toNat y) = 0) : okR q y := by
  obtain ⟨-, k1, k2⟩ := h
  refine ⟨hg, ?_, ?_⟩
  · rw [h0, h1]
    rcases he with he | he
    · rw [he]; exact k1
    · exact he
  · rw [h0, h1]
    rcases hs with hs | hs
    · rw [hs]; exact k2
    · exact hs
theorem okC_of {p q : List Int} {y x : Nat} (h : okC p y x) (h0 : q.getD 0 0 = p.getD 0 0) (h1 : q.getD 1 0 = p.getD 1 0) (hg : q.getD (2 + y * 10 + x * 1) 0 = p.getD (2 + y * 10 + x * 1) 0) : okC q y x := by
  unfold okC at *
  rw [hg, h0, h1]; exact h
theorem rows_g {p : List Int} (h : rowsOk p) (hl : p.length = 122) {x y : Nat} {v : Int} (hx : (x : Int) < p.getD 0 0) (hy : (y : Int) < p.getD 1 0) (hx10 : x < 10) (hy10 : y < 10) (hv : 0 ≤ v ∧ v ≤ 1000) : rowsOk (p.set (2 + y * 10 + x) v) := by
  intro y' hy'
  have e0 : (p.set (2 + y * 10 + x) v).getD 0 0 = p.getD 0 0 := set2_get (by omega)
  have e1 : (p.set (2 + y * 10 + x) v).getD 1 0 = p.getD 1 0 := set2_get (by omega)
  refine okR_of (h y' hy') e0 e1 (fun x' hx' => ?_) (.inl (set2_get (by omega))) (.inl (set2_get (by omega)))
  by_cases e : x' = x ∧ y' = y
  · obtain ⟨rfl, rfl⟩ := e
    unfold okC
    rw [show 2 + y' * 10 + x' * 1 = 2 + y' * 10 + x' from by omega, getD_set_self (q := p) (i := 2 + y' * 10 + x') (by omega), e0, e1]
    exact ⟨hv.1, hv.2, fun _ => ⟨hx, hy⟩⟩
  · exact okC_of ((h y' hy').1 x' hx') e0 e1 (set2_get (by omega))
theorem rows_s {p : List Int} (h : rowsOk p) (hd : okD p) (hl : p.length = 122) {x y : Nat} {d : Int} (hx : (x : Int) < p.getD 0 0) (hy : (y : Int) < p.getD 1 0) (hdd : d = 1 ∨ d = 2) (hi : isP p (ahead [(x : Int), (y : Int)] d) = true) : rowsOk (setP p [(x : Int), (y : Int)] d) := by
  obtain ⟨w1, w2, h1, h2⟩ := hd
  have e0 : (setP p [(x : Int), (y : Int)] d).getD 0 0 = p.getD 0 0 := setP_get (by omega)
  have e1 : (setP p [(x : Int), (y : Int)] d).getD 1 0 = p.getD 1 0 := setP_get (by omega)
  intro y' hy'
  refine okR_of (h y' hy') e0 e1 (fun x' hx' => okC_of ((h y' hy').1 x' hx') e0 e1 (setP_get (by omega))) ?_ ?_
  · rcases hdd with rfl | rfl
    · by_cases e : y' = y
      · subst e
        right
        have hx1 : (x : Int) + 1 < p.getD 0 0 := by
          have ea : ahead [(x : Int), (y' : Int)] 1 = [(x : Int) + 1, (y' : Int)] := rfl
          rw [ea] at hi
          unfold isP at hi
          simp only [List.getD_cons_zero, List.getD_cons_succ, decide_eq_true_eq] at hi
          exact hi.2.1
        have hv : (setP p [(x : Int), (y' : Int)] 1).getD (102 + y' * 1) 0 = onB (p.getD (102 + y' * 1) 0) x := by
          unfold setP
          rw [if_pos rfl]
          simp only [List.getD_cons_zero, List.getD_cons_succ, Int.toNat_natCast, Nat.mul_one]
          exact getD_set_self (by rw [List.length_set]; omega)
        rw [hv]
        unfold onB
        exact on_ok (h y' hy').2.1 (bitEa _ (by omega) _ (by omega) y' hy' x (by omega) ⟨by omega, by omega⟩)
      · left
        unfold setP
        rw [if_pos rfl]
        simp only [List.getD_cons_zero, List.getD_cons_succ, Int.toNat_natCast]
        rw [set2_get (by omega), set2_get (by omega)]
    · left
      unfold setP
      rw [if_neg (by decide)]
      simp only [List.getD_cons_zero, List.getD_cons_succ, Int.toNat_natCast]
      rw [set2_get (by omega), set2_get (by omega)]
  · rcases hdd with rfl | rfl
    · left
      unfold setP
      rw [if_pos rfl]
      simp only [List.getD_cons_zero, List.getD_cons_succ, Int.toNat_natCast]
      rw [set2_get (by omega), set2_get (by omega)]
    · by_cases e : y' = y
      · subst e
        right
        have hy1 : (y' : Int) + 1 < p.getD 1 0 := by
          have ea : ahead [(x : Int), (y' : Int)] 2 = [(x : Int), (y' : Int) + 1] := rfl
          rw [ea] at hi
          unfold isP at hi
          simp only [List.getD_cons_zero, List.getD_cons_succ, decide_eq_true_eq] at hi
          exact hi.2.2.2
        have hv : (setP p [(x : Int), (y' : Int)] 2).getD (112 + y' * 1) 0 = onB (p.getD (112 + y' * 1) 0) x := by
          unfold setP
          rw [if_neg (by decide)]
          simp only [List.getD_cons_zero, List.getD_cons_succ, Int.toNat_natCast, Nat.mul_one]
          exact getD_set_self (by rw [List.length_set]; omega)
        rw [hv]
        unfold onB
        exact on_ok (h y' hy').2.2 (bitSo _ (by omega) _ (by omega) y' hy' x (by omega) ⟨by omega, by omega⟩)
      · left
        unfold setP
        rw [if_neg (by decide)]
        simp only [List.getD_cons_zero, List.getD_cons_succ, Int.toNat_natCast]
        rw [set2_get (by omega), set2_get (by omega)]

/-! Each step of the draw. -/
variable {rows : List (List Int)}
theorem step_g {w h b : Int} {S : DS} (hR : SrcOk rows) (D : DOk w h b S) (hr : rowsOk S.1) {x y : Nat} (hx : (x : Int) < w) (hy : (y : Int) < h) (hw : w ≤ 10) (hh : h ≤ 10) : rowsOk (drG rows x y S).1 := by
  have := pkv_rng hR.ok S.2.2 (a := S.2.1) (n := 12) D.a0
  exact rows_g hr D.len (by rw [D.w]; exact hx) (by rw [D.h]; exact hy) (by omega) (by omega) (by omega)
theorem step_s {w h b : Int} {S : DS} (D : DOk w h b S) (hr : rowsOk S.1) {many : Int} {x y : Nat} {d : Int} (hd : d = 1 ∨ d = 2) (hx : (x : Int) < w) (hy : (y : Int) < h) (hw : w ≤ 10) (hh : h ≤ 10) : rowsOk (drS rows many x y d S).1 := by
  unfold drS
  split
  · rename_i hi
    show rowsOk (ite _ _ _)
    split
    · exact rows_s hr ⟨by rw [D.w]; omega, by rw [D.w]; omega, by rw [D.h]; omega, by rw [D.h]; omega⟩ D.len (by rw [D.w]; exact hx) (by rw [D.h]; exact hy) hd hi
    · exact hr
  · exact hr
theorem step_k {w h b : Int} {S : DS} (D : DOk w h b S) (hr : rowsOk S.1) {many : Int} {x y : Nat} (hx : (x : Int) < w) (hy : (y : Int) < h) (hw : w ≤ 10) (hh : h ≤ 10) : ∀ k : Nat, k ≤ 2 → rowsOk (drK rows many x y S k).1
  | 0, _ => hr
  | k + 1, hk => step_s (D.k rows many x y k) (step_k D hr hx hy hw hh k (by omega)) (by omega) hx hy hw hh
theorem step_r {w h b : Int} {S : DS} (hR : SrcOk rows) (D : DOk w h b S) (hr : rowsOk S.1) {many : Int} {y : Nat} (hy : (y : Int) < h) (hw : w ≤ 10) (hh : h ≤ 10) : ∀ x : Nat, (x : Int) ≤ w → rowsOk (drR rows many y S x).1
  | 0, _ => hr
  | x + 1, hx => by
    have ih := step_r hR D hr (many := many) hy hw hh x (by omega)
    have Dx := D.r rows many y x
    exact step_k (Dx.g rows x y) (step_g hR Dx ih (by omega) hy hw hh) (by omega) hy hw hh 2 (Nat.le_refl _)
theorem step_a {w h b : Int} {S : DS} (hR : SrcOk rows) (D : DOk w h b S) (hr : rowsOk S.1) {many : Int} {n : Nat} (hn : n ≤ 5) (hnw : (n : Int) ≤ w) (hw : w ≤ 10) (hh : h ≤ 10) : ∀ y : Nat, (y : Int) ≤ h → rowsOk (drA rows many n S y).1
  | 0, _ => hr
  | y + 1, hy => step_r hR (D.a rows many hn y) (step_a hR D hr hn hnw hw hh y (by omega)) (by omega) hw hh n hnw
theorem rep_get0 (n j : Nat) : (List.replicate n (0 : Int)).getD j 0 = 0 := by
  rw [List.getD_eq_getElem?_getD, List.getElem?_replicate]; split <;> rfl
theorem bit0 : ∀ W, W < 11 → ∀ H, H < 11 → ∀ y, y < 10 → bitsI .andNot .u16 0 (rE W H y) = 0 ∧ bitsI .andNot .u16 0 (rS W H y) = 0 := by decide +kernel
theorem draw_ok (hR : SrcOk rows) {a sd : Int} (h0 : 0 ≤ a) : okP (drawS rows a sd).1 ∧ (drawS rows a sd).1.length = 122 ∧ (drawS rows a sd).1.getD 0 0 ≤ 5 ∧ (drawS rows a sd).1.getD 1 0 ≤ 5 := by
  have hw := drW_rng hR sd h0
  have hh := drH_rng hR sd h0
  have D0 := dr0_ok hR (sd := sd) h0
  have D := D0.a rows (drM rows a sd) (n := (drW rows a sd).toNat) (by omega) (drH rows a sd).toNat
  have hr0 : rowsOk (dr0 rows a sd).1 := by
    intro y hy
    have e0 := D0.w
    have e1 := D0.h
    have hz : ∀ j, 2 ≤ j → (dr0 rows a sd).1.getD j 0 = 0 := fun j hj => by
      show ((List.set _ _ _)).getD j 0 = 0
      rw [set2_get (by omega), set2_get (by omega), rep_get0]
    have hb := bit0 (drW rows a sd).toNat (by omega) (drH rows a sd).toNat (by omega) y hy
    refine ⟨fun x hx => ?_, ?_, ?_⟩
    · unfold okC
      rw [hz _ (by omega)]
      exact ⟨Int.le_refl _, by decide, fun h => absurd h (by decide)⟩
    · rw [hz _ (by omega), e0, e1]; exact hb.1
    · rw [hz _ (by omega), e0, e1]; exact hb.2
  have hr := step_a hR D0 hr0 (many := drM rows a sd) (n := (drW rows a sd).toNat) (by omega) (by omega) (by omega) (by omega) (drH rows a sd).toNat (by omega)
  refine ⟨⟨⟨?_, ?_, ?_, ?_⟩, hr⟩, D.len, ?_, ?_⟩
  all_goals (unfold drawS; (first | rw [D.w] | rw [D.h]); omega)

/-! The whole draws. -/
def a2PS : Fun
  | [.fs .u8 rows], [] => some (.ag .pas (drawS rows 0 0).1, [], [SrcOk rows])
  | _, _ => .none
set_option maxRecDepth 100000 in
theorem s_a2Pasture : Sound Try.prog 30 a2PS := by
  intro args M r M' vs h hvs
  unfold a2PS at h
  split at h
  case h_2 => cases h
  rename_i rows
  cases h
  refine SpecOK.assume fun hA hM => ?_
  have htb := (TbOk.cons s_from Try.func73 rfl rfl (TbOk.cons s_l01Drawn Try.func72 rfl rfl (TbOk.nil : TbOk Try.prog tb0)))
  refine SpecOK.of_goes [] Try.func30 rfl ?_
  obtain ⟨hR, -⟩ := hvs
  clear hA hM
  refine Goes.tree Γ_ok htb 1000 false false Try.func30 rfl ?_
  ((try simp only [decide_eq_true_eq, decide_eq_false_iff_not, Bool.not_eq_true', Bool.not_eq_false', Bool.not_true, Bool.not_false, Bool.and_eq_true, Bool.or_eq_true, bne_iff_ne, beq_iff_eq, ne_eq]); (try simp only [rng, lo, hi, mnI, mxI, Int.toNat_natCast, Sg.n, Nat.mul_one, Nat.zero_add, Nat.add_zero, Nat.reduceAdd, List.getD_cons_zero, List.getD_cons_succ]))
  ((repeat' (first | (with_reducible apply And.intro) | intro _)); all_goals (first | exact trivial | (with_reducible assumption) | (show (_ : List Blk) = _; rfl) | (first | exact trivial | (with_reducible assumption) | omega | (split <;> omega) | (split <;> split <;> omega)) | skip); all_goals (try (refine ⟨rfl, (by first | exact Nat.le_refl _ | exact Nat.le_of_ble_eq_true rfl), rfl, rfl, ?_, (by repeat' (first | exact trivial | rfl | apply And.intro)), rfl, rfl⟩)))
  all_goals (try first | exact hR | decide)
  all_goals exact sameA_refl _
def a2SpotP (rows : List (List Int)) (p : List Int) : List Int := [pkv rows 0 0 (p.getD 0 0), pkv rows (pka 0 (p.getD 0 0)) (pks rows 0 0 (p.getD 0 0)) (p.getD 1 0)]
def a2SS : Fun
  | [.fs .u8 rows, .ag .pas p], [] => some (.ag .spot (a2SpotP rows p), [], [SrcOk rows ∧ okD p])
  | _, _ => .none
set_option maxRecDepth 100000 in
theorem s_a2Spot : Sound Try.prog 41 a2SS := by
  intro args M r M' vs h hvs
  unfold a2SS at h
  split at h
  case h_2 => cases h
  rename_i rows p
  cases h
  refine SpecOK.assume fun hA hM => ?_
  have htb := (TbOk.cons s_from Try.func73 rfl rfl (TbOk.cons s_pick Try.func91 rfl rfl (TbOk.nil : TbOk Try.prog tb0)))
  refine SpecOK.of_goes [] Try.func41 rfl ?_
  obtain ⟨⟨hR, hw1, hw2, hh1, hh2⟩, -⟩ := hvs
  clear hA hM
  have k1 := pka_rng 0 (p.getD 0 0)
  have v1 := pkv_rng hR.ok 0 (a := 0) (n := p.getD 0 0) (Int.le_refl _)
  have v2 := pkv_rng hR.ok (pks rows 0 0 (p.getD 0 0)) (a := pka 0 (p.getD 0 0)) (n := p.getD 1 0) (by omega)
  refine Goes.tree Γ_ok htb 1000 false false Try.func41 rfl ?_
  ((try simp only [decide_eq_true_eq, decide_eq_false_iff_not, Bool.not_eq_true', Bool.not_eq_false', Bool.not_true, Bool.not_false, Bool.and_eq_true, Bool.or_eq_true, bne_iff_ne, beq_iff_eq, ne_eq]); (try simp only [rng, lo, hi, mnI, mxI, Int.toNat_natCast, Sg.n, Nat.mul_one, Nat.zero_add, Nat.add_zero, Nat.reduceAdd, List.getD_cons_zero, List.getD_cons_succ]))
  ((repeat' (first | (with_reducible apply And.intro) | intro _)); all_goals (first | exact trivial | (with_reducible assumption) | (show (_ : List Blk) = _; rfl) | (first | exact trivial | (with_reducible assumption) | omega | (split <;> omega) | (split <;> split <;> omega)) | skip); all_goals (try (refine ⟨rfl, (by first | exact Nat.le_refl _ | exact Nat.le_of_ble_eq_true rfl), rfl, rfl, ?_, (by repeat' (first | exact trivial | rfl | apply And.intro)), rfl, rfl⟩)))
  all_goals (try first | omega | exact hR)
  all_goals exact sameA_refl _
theorem a2Spot_in (hR : SrcOk rows) {p : List Int} (hd : okD p) : isP p (a2SpotP rows p) = true := by
  obtain ⟨hw1, hw2, hh1, hh2⟩ := hd
  have k1 := pka_rng 0 (p.getD 0 0)
  have v1 := pkv_rng hR.ok 0 (a := 0) (n := p.getD 0 0) (Int.le_refl _)
  have v2 := pkv_rng hR.ok (pks rows 0 0 (p.getD 0 0)) (a := pka 0 (p.getD 0 0)) (n := p.getD 1 0) (by omega)
  unfold isP a2SpotP
  simp only [List.getD_cons_zero, List.getD_cons_succ, decide_eq_true_eq]
  omega
end Go.Proofs.Ytgogccconmlkiaa
