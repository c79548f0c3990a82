/- Gates: the cells that are within so many gates: plain laws. -/
import Derived.Test.YtfelemoefhbphaaReach
import Derived.Test.YtfelemoefhbphaaOpenL
namespace Go.Proofs.Ytfelemoefhbphaa
open Go Go.Eng
set_option linter.unusedSimpArgs false
set_option linter.unusedVariables false
set_option maxRecDepth 100000
set_option maxHeartbeats 4000000

/-! The spec's loops. -/
def nxD (p c N : List Int) : Nat → List Int
  | 0 => N
  | d + 1 => if isP p (ahead c d) = true then (nxD p c N d).set (cx (ahead c d)) 1 else nxD p c N d
def nxX (p I N : List Int) (y : Nat) : Nat → List Int
  | 0 => N
  | x + 1 => if I.getD (cx [(x : Int), (y : Int)]) 0 != 0 then nxD p [(x : Int), (y : Int)] (nxX p I N y x) 4 else nxX p I N y x
def nxY (p I : List Int) (w : Nat) : Nat → List Int
  | 0 => I
  | y + 1 => nxX p I (nxY p I w y) y w
def whX (Z N : List Int) (W : List (List Int)) (y : Nat) : Nat → List (List Int)
  | 0 => W
  | x + 1 => if N.getD (cx [(x : Int), (y : Int)]) 0 != 0 then (whX Z N W y x).set (Z.getD (cx [(x : Int), (y : Int)]) 0).toNat [1] else whX Z N W y x
def whY (Z N : List Int) (W : List (List Int)) (w : Nat) : Nat → List (List Int)
  | 0 => W
  | y + 1 => whX Z N (whY Z N W w y) y w
def ouV (Z : List Int) (W : List (List Int)) (c : List Int) : Int := if ((W.getD (Z.getD (cx c) 0).toNat []).getD 0 0 != 0) = true then 1 else 0
def ouX (Z : List Int) (W : List (List Int)) (O : List Int) (y : Nat) : Nat → List Int
  | 0 => O
  | x + 1 => (ouX Z W O y x).set (cx [(x : Int), (y : Int)]) (ouV Z W [(x : Int), (y : Int)])
def ouY (Z : List Int) (W : List (List Int)) (w : Nat) : Nat → List Int
  | 0 => List.replicate 100 0
  | y + 1 => ouX Z W (ouY Z W w y) y w
noncomputable def filT (p N : List Int) : List Int := ouY (yT p (spots p)) (whY (yT p (spots p)) N (List.replicate ((yL p (spots p)).length + 1) [0]) (p.getD 0 0).toNat (p.getD 1 0).toNat) (p.getD 0 0).toNat (p.getD 1 0).toNat
def nxtT (p I : List Int) : List Int := nxY p I (p.getD 0 0).toNat (p.getD 1 0).toNat
noncomputable def gT (p a : List Int) : Nat → List Int
  | 0 => srcD (yardR p a) (yardR p a).length
  | k + 1 => filT p (nxtT p (gT p a k))

/-! What they make. -/
theorem nxD_len (p c N : List Int) : ∀ d, (nxD p c N d).length = N.length := by
  intro d
  induction d with
  | zero => rfl
  | succ d ih => unfold nxD; split <;> (try rw [List.length_set]) <;> exact ih
theorem nxX_len (p I N : List Int) (y : Nat) : ∀ x, (nxX p I N y x).length = N.length := by
  intro x
  induction x with
  | zero => rfl
  | succ x ih => unfold nxX; split <;> (try rw [nxD_len]) <;> exact ih
theorem nxY_len (p I : List Int) (w : Nat) : ∀ y, (nxY p I w y).length = I.length := by
  intro y
  induction y with
  | zero => rfl
  | succ y ih => unfold nxY; rw [nxX_len]; exact ih
theorem nxD_get {p c N : List Int} (hd : okD p) (hN : N.length = 100) (j : Nat) : ∀ d, (nxD p c N d).getD j 0 ≠ 0 ↔ N.getD j 0 ≠ 0 ∨ ∃ e : Nat, e < d ∧ isP p (ahead c (e : Int)) = true ∧ cx (ahead c (e : Int)) = j := by
  intro d
  induction d with
  | zero => simp [nxD]
  | succ d ih =>
    unfold nxD
    split
    · rename_i hp
      rw [set_get, nxD_len, hN]
      by_cases e : cx (ahead c (d : Int)) = j
      · rw [if_pos ⟨e, by rw [← e]; exact cx_lt (inG_of' hd hp)⟩]
        exact ⟨fun _ => .inr ⟨d, by omega, hp, e⟩, fun _ => by decide⟩
      · rw [if_neg (fun h => e h.1), ih]
        constructor
        · rintro (h | ⟨e', h1, h2⟩)
          · exact .inl h
          · exact .inr ⟨e', by omega, h2⟩
        · rintro (h | ⟨e', h1, h2, h3⟩)
          · exact .inl h
          · refine .inr ⟨e', ?_, h2, h3⟩
            rcases Nat.lt_or_ge e' d with h | h
            · exact h
            · exact absurd (by rw [← h3, show e' = d by omega]) e
    · rename_i hp
      rw [ih]
      constructor
      · rintro (h | ⟨e', h1, h2⟩)
        · exact .inl h
        · exact .inr ⟨e', by omega, h2⟩
      · rintro (h | ⟨e', h1, h2, h3⟩)
        · exact .inl h
        · refine .inr ⟨e', ?_, h2, h3⟩
          rcases Nat.lt_or_ge e' d with h | h
          · exact h
          · exact absurd (by rw [← show e' = d by omega]; exact h2) hp
def nxAt (p I : List Int) (s : List Int) (j : Nat) : Prop := I.getD (cx s) 0 ≠ 0 ∧ ∃ e : Nat, e < 4 ∧ isP p (ahead s (e : Int)) = true ∧ cx (ahead s (e : Int)) = j
theorem nxX_get {p I N : List Int} (hd : okD p) (hN : N.length = 100) (y j : Nat) : ∀ x, (nxX p I N y x).getD j 0 ≠ 0 ↔ N.getD j 0 ≠ 0 ∨ ∃ k, k < x ∧ nxAt p I [(k : Int), (y : Int)] j := by
  intro x
  induction x with
  | zero => simp [nxX]
  | succ x ih =>
    unfold nxX
    split
    · rename_i hi
      rw [nxD_get hd (by rw [nxX_len]; exact hN), ih]
      have hi : I.getD (cx [(x : Int), (y : Int)]) 0 ≠ 0 := by simpa using hi
      constructor
      · rintro ((h | ⟨k, h1, h2⟩) | h)
        · exact .inl h
        · exact .inr ⟨k, by omega, h2⟩
        · exact .inr ⟨x, by omega, hi, h⟩
      · rintro (h | ⟨k, h1, h2⟩)
        · exact .inl (.inl h)
        · rcases Nat.lt_or_ge k x with h | h
          · exact .inl (.inr ⟨k, h, h2⟩)
          · obtain rfl : k = x := by omega
            exact .inr h2.2
    · rename_i hi
      rw [ih]
      constructor
      · rintro (h | ⟨k, h1, h2⟩)
        · exact .inl h
        · exact .inr ⟨k, by omega, h2⟩
      · rintro (h | ⟨k, h1, h2⟩)
        · exact .inl h
        · rcases Nat.lt_or_ge k x with h | h
          · exact .inr ⟨k, h, h2⟩
          · obtain rfl : k = x := by omega
            exact absurd (by simpa using h2.1) hi
theorem nxY_get {p I : List Int} (hd : okD p) (hI : I.length = 100) (w j : Nat) : ∀ y, (nxY p I w y).getD j 0 ≠ 0 ↔ I.getD j 0 ≠ 0 ∨ ∃ k l : Nat, l < y ∧ k < w ∧ nxAt p I [(k : Int), (l : Int)] j := by
  intro y
  induction y with
  | zero => simp [nxY]
  | succ y ih =>
    unfold nxY
    rw [nxX_get hd (by rw [nxY_len]; exact hI), ih]
    constructor
    · rintro ((h | ⟨k, l, h1, h2⟩) | ⟨k, h1, h2⟩)
      · exact .inl h
      · exact .inr ⟨k, l, by omega, h2⟩
      · exact .inr ⟨k, y, by omega, h1, h2⟩
    · rintro (h | ⟨k, l, h1, h2, h3⟩)
      · exact .inl (.inl h)
      · rcases Nat.lt_or_ge l y with h | h
        · exact .inl (.inr ⟨k, l, h, h2, h3⟩)
        · obtain rfl : l = y := by omega
          exact .inr ⟨k, h2, h3⟩
theorem whX_len (Z N : List Int) (W : List (List Int)) (y : Nat) : ∀ x, (whX Z N W y x).length = W.length := by
  intro x
  induction x with
  | zero => rfl
  | succ x ih => unfold whX; split <;> (try rw [List.length_set]) <;> exact ih
theorem whY_len (Z N : List Int) (W : List (List Int)) (w : Nat) : ∀ y, (whY Z N W w y).length = W.length := by
  intro y
  induction y with
  | zero => rfl
  | succ y ih => unfold whY; rw [whX_len]; exact ih
def whAt (Z N : List Int) (s : List Int) (v : Nat) : Prop := N.getD (cx s) 0 ≠ 0 ∧ (Z.getD (cx s) 0).toNat = v
theorem whX_get {Z N : List Int} {W : List (List Int)} {v : Nat} (hv : v < W.length) (y : Nat) : ∀ x, ((whX Z N W y x).getD v []).getD 0 0 ≠ 0 ↔ (W.getD v []).getD 0 0 ≠ 0 ∨ ∃ k, k < x ∧ whAt Z N [(k : Int), (y : Int)] v := by
  intro x
  induction x with
  | zero => simp [whX]
  | succ x ih =>
    have step : ∀ i, ((whX Z N W y x).set i [1]).getD v [] = if i = v then [1] else (whX Z N W y x).getD v [] := fun i => by
      rw [List.getD_eq_getElem?_getD, List.getElem?_set]
      by_cases h : i = v
      · rw [if_pos h, if_pos h, if_pos (by rw [whX_len]; omega)]; rfl
      · rw [if_neg h, if_neg h, ← List.getD_eq_getElem?_getD]
    unfold whX
    split
    · rename_i hi
      have hi : N.getD (cx [(x : Int), (y : Int)]) 0 ≠ 0 := by simpa using hi
      rw [step]
      by_cases e : (Z.getD (cx [(x : Int), (y : Int)]) 0).toNat = v
      · rw [if_pos e]
        exact ⟨fun _ => .inr ⟨x, by omega, hi, e⟩, fun _ => by decide⟩
      · rw [if_neg e, ih]
        constructor
        · rintro (h | ⟨k, h1, h2⟩)
          · exact .inl h
          · exact .inr ⟨k, by omega, h2⟩
        · rintro (h | ⟨k, h1, h2⟩)
          · exact .inl h
          · rcases Nat.lt_or_ge k x with h | h
            · exact .inr ⟨k, h, h2⟩
            · obtain rfl : k = x := by omega
              exact absurd h2.2 e
    · rename_i hi
      rw [ih]
      constructor
      · rintro (h | ⟨k, h1, h2⟩)
        · exact .inl h
        · exact .inr ⟨k, by omega, h2⟩
      · rintro (h | ⟨k, h1, h2⟩)
        · exact .inl h
        · rcases Nat.lt_or_ge k x with h | h
          · exact .inr ⟨k, h, h2⟩
          · obtain rfl : k = x := by omega
            exact absurd (by simpa using h2.1) hi
theorem whY_get {Z N : List Int} {W : List (List Int)} {v : Nat} (hv : v < W.length) (w : Nat) : ∀ y, ((whY Z N W w y).getD v []).getD 0 0 ≠ 0 ↔ (W.getD v []).getD 0 0 ≠ 0 ∨ ∃ k l : Nat, l < y ∧ k < w ∧ whAt Z N [(k : Int), (l : Int)] v := by
  intro y
  induction y with
  | zero => simp [whY]
  | succ y ih =>
    unfold whY
    rw [whX_get (by rw [whY_len]; exact hv), ih]
    constructor
    · rintro ((h | ⟨k, l, h1, h2⟩) | ⟨k, h1, h2⟩)
      · exact .inl h
      · exact .inr ⟨k, l, by omega, h2⟩
      · exact .inr ⟨k, y, by omega, h1, h2⟩
    · rintro (h | ⟨k, l, h1, h2, h3⟩)
      · exact .inl (.inl h)
      · rcases Nat.lt_or_ge l y with h | h
        · exact .inl (.inr ⟨k, l, h, h2, h3⟩)
        · obtain rfl : l = y := by omega
          exact .inr ⟨k, h2, h3⟩
theorem ouX_len (Z : List Int) (W : List (List Int)) (O : List Int) (y : Nat) : ∀ x, (ouX Z W O y x).length = O.length := by
  intro x
  induction x with
  | zero => rfl
  | succ x ih => unfold ouX; rw [List.length_set]; exact ih
theorem ouY_len (Z : List Int) (W : List (List Int)) (w : Nat) : ∀ y, (ouY Z W w y).length = 100 := by
  intro y
  induction y with
  | zero => exact List.length_replicate
  | succ y ih => unfold ouY; rw [ouX_len]; exact ih
theorem cx_nat (x y : Nat) : cx [(x : Int), (y : Int)] = y * 10 + x := by simp [cx]
theorem ouX_get {Z : List Int} {W : List (List Int)} {O : List Int} (hO : O.length = 100) {y : Nat} (hy : y < 10) (x' y' : Nat) (hx' : x' < 10) (hy' : y' < 10) : ∀ x, x ≤ 10 → (ouX Z W O y x).getD (cx [(x' : Int), (y' : Int)]) 0 = if y' = y ∧ x' < x then ouV Z W [(x' : Int), (y' : Int)] else O.getD (cx [(x' : Int), (y' : Int)]) 0 := by
  intro x
  induction x with
  | zero => intro _; rw [if_neg (by omega)]; rfl
  | succ x ih =>
    intro hx
    unfold ouX
    rw [set_get, ouX_len, hO, ih (by omega), cx_nat, cx_nat]
    by_cases e : y = y' ∧ x = x'
    · obtain ⟨rfl, rfl⟩ := e
      rw [if_pos ⟨rfl, by omega⟩, if_pos ⟨rfl, by omega⟩]
    · rw [if_neg (by omega)]
      by_cases h : y' = y ∧ x' < x
      · rw [if_pos h, if_pos (by omega)]
      · rw [if_neg h, if_neg (by omega)]
theorem ouY_get {Z : List Int} {W : List (List Int)} {w : Nat} (hw : w ≤ 10) (x' y' : Nat) (hx' : x' < 10) (hy' : y' < 10) : ∀ y, y ≤ 10 → (ouY Z W w y).getD (cx [(x' : Int), (y' : Int)]) 0 = if y' < y ∧ x' < w then ouV Z W [(x' : Int), (y' : Int)] else 0 := by
  intro y
  induction y with
  | zero =>
    intro _
    rw [if_neg (by omega)]
    unfold ouY
    rw [List.getD_eq_getElem?_getD, List.getElem?_replicate]; split <;> rfl
  | succ y ih =>
    intro hy
    unfold ouY
    rw [ouX_get (ouY_len _ _ _ _) (by omega) x' y' hx' hy' w hw, ih (by omega)]
    by_cases h : y' = y ∧ x' < w
    · rw [if_pos h, if_pos (by omega)]
    · rw [if_neg h]
      by_cases h2 : y' < y ∧ x' < w
      · rw [if_pos h2, if_pos (by omega)]
      · rw [if_neg h2, if_neg (by omega)]

/-! Which cells these are. -/
def gS (p a : List Int) : Nat → List Int → Prop
  | 0, c => Rch p [a] c
  | k + 1, c => ∃ t, cellP p t ∧ (gS p a k t ∨ ∃ s, cellP p s ∧ gS p a k s ∧ ∃ e : Nat, e < 4 ∧ ahead s (e : Int) = t) ∧ Rch p [t] c
theorem cell_nat {p : List Int} (x y : Nat) (hx : x < (p.getD 0 0).toNat) (hy : y < (p.getD 1 0).toNat) : cellP p [(x : Int), (y : Int)] := by
  refine ⟨?_, rfl⟩
  unfold isP
  rw [decide_eq_true_eq]
  simp only [List.getD_cons_zero, List.getD_cons_succ]
  omega
theorem filT_get {p N : List Int} (hd : okD p) {c : List Int} (hc : cellP p c) : (filT p N).getD (cx c) 0 ≠ 0 ↔ ∃ t, cellP p t ∧ N.getD (cx t) 0 ≠ 0 ∧ Rch p [t] c := by
  obtain ⟨x, y, rfl, hx, hy⟩ := spot_of hc
  have hd' := hd
  obtain ⟨w1, w2, h1, h2⟩ := hd'
  unfold filT
  rw [ouY_get (by omega) x y (by omega) (by omega) _ (by omega), if_pos ⟨hy, hx⟩]
  have hr := num_rng hd hc
  unfold ouV
  have hW := whY_get (Z := yT p (spots p)) (N := N) (W := List.replicate ((yL p (spots p)).length + 1) [0]) (v := ((yT p (spots p)).getD (cx [(x : Int), (y : Int)]) 0).toNat) (by rw [List.length_replicate]; omega) (p.getD 0 0).toNat (p.getD 1 0).toNat
  have hz : ((List.replicate ((yL p (spots p)).length + 1) [(0 : Int)]).getD ((yT p (spots p)).getD (cx [(x : Int), (y : Int)]) 0).toNat []).getD 0 0 = 0 := by
    rw [List.getD_eq_getElem?_getD (l := List.replicate _ _), List.getElem?_replicate]; split <;> rfl
  rw [hz] at hW
  constructor
  · intro h
    split at h
    · rename_i hb
      rcases hW.1 (by simpa using hb) with h0 | ⟨k, l, hl, hk, hN, hv⟩
      · exact absurd rfl h0
      · have ht := cell_nat (p := p) k l hk hl
        refine ⟨_, ht, hN, ?_⟩
        have hr2 := num_rng hd ht
        exact (num_iff hd ht hc).1 (by omega)
    · exact absurd rfl h
  · rintro ⟨t, ht, hN, hR⟩
    obtain ⟨k, l, rfl, hk, hl⟩ := spot_of ht
    have := (num_iff hd ht hc).2 hR
    rw [if_pos]
    · decide
    · have := hW.2 (.inr ⟨k, l, hl, hk, hN, by rw [this]⟩)
      simpa using this
theorem nxtT_get {p I : List Int} (hd : okD p) (hI : I.length = 100) {c : List Int} (hc : cellP p c) : (nxtT p I).getD (cx c) 0 ≠ 0 ↔ I.getD (cx c) 0 ≠ 0 ∨ ∃ s, cellP p s ∧ I.getD (cx s) 0 ≠ 0 ∧ ∃ e : Nat, e < 4 ∧ ahead s (e : Int) = c := by
  unfold nxtT
  rw [nxY_get hd hI]
  constructor
  · rintro (h | ⟨k, l, hl, hk, hN, e, he, hp, hx⟩)
    · exact .inl h
    · exact .inr ⟨_, cell_nat k l hk hl, hN, e, he, cx_inj (inG_of' hd hp) (inG_of' hd hc.1) (ahead_len _ _) hc.2 hx⟩
  · rintro (h | ⟨s, hs, hN, e, he, rfl⟩)
    · exact .inl h
    · obtain ⟨k, l, rfl, hk, hl⟩ := spot_of hs
      exact .inr ⟨k, l, hl, hk, hN, e, he, hc.1, rfl⟩
theorem gT_ok {p a : List Int} (hd : okD p) (ha : cellP p a) : ∀ k, (gT p a k).length = 100 ∧ ∀ c, cellP p c → ((gT p a k).getD (cx c) 0 ≠ 0 ↔ gS p a k c) := by
  intro k
  induction k with
  | zero =>
    refine ⟨srcD_len _ _, fun c hc => ?_⟩
    have hcell : cellsR (yardR p a) := fun s hs => ⟨inG_of' hd (yard_cells hd s hs).1, (yard_cells hd s hs).2⟩
    have hm := mask_has hcell (inG_of' hd hc.1) hc.2
    show (srcD (yardR p a) (yardR p a).length).getD (cx c) 0 ≠ 0 ↔ Rch p [a] c
    rw [← mem_yard hd ha hc, ← hasR_iff]
    constructor
    · intro h
      cases hh : hasR (yardR p a) c with
      | true => rfl
      | false => exact absurd (hm.2.2 hh) h
    · intro h; rw [hm.1.2 h]; decide
  | succ k ih =>
    obtain ⟨i1, i2⟩ := ih
    refine ⟨ouY_len _ _ _ _, fun c hc => ?_⟩
    show (filT p (nxtT p (gT p a k))).getD (cx c) 0 ≠ 0 ↔ _
    rw [filT_get hd hc]
    constructor
    · rintro ⟨t, ht, h1, h2⟩
      refine ⟨t, ht, ?_, h2⟩
      rcases (nxtT_get hd i1 ht).1 h1 with h | ⟨s, hs, h3, h4⟩
      · exact .inl ((i2 t ht).1 h)
      · exact .inr ⟨s, hs, (i2 s hs).1 h3, h4⟩
    · rintro ⟨t, ht, h1, h2⟩
      refine ⟨t, ht, (nxtT_get hd i1 ht).2 ?_, h2⟩
      rcases h1 with h | ⟨s, hs, h3, h4⟩
      · exact .inl ((i2 t ht).2 h)
      · exact .inr ⟨s, hs, (i2 s hs).2 h3, h4⟩

/-! Every cell comes in. -/
def dist (a c : List Int) : Nat := (a.getD 0 0 - c.getD 0 0).natAbs + (a.getD 1 0 - c.getD 1 0).natAbs
theorem gS_ball {p a : List Int} (hd : okD p) (ha : cellP p a) : ∀ (k : Nat) (c : List Int), cellP p c → dist a c ≤ k → gS p a k c := by
  intro k
  induction k with
  | zero =>
    intro c hc h
    obtain ⟨a0, a1, rfl⟩ := len2 ha.2
    obtain ⟨c0, c1, rfl⟩ := len2 hc.2
    simp only [dist, List.getD_cons_zero, List.getD_cons_succ] at h
    have e0 : c0 = a0 := by omega
    have e1 : c1 = a1 := by omega
    subst e0; subst e1
    exact reach_refl hd ha
  | succ k ih =>
    intro c hc h
    by_cases hk : dist a c ≤ k
    · exact ⟨c, hc, .inl (ih c hc hk), reach_refl hd hc⟩
    · have hP := hc.1
      have hQ := ha.1
      obtain ⟨a0, a1, rfl⟩ := len2 ha.2
      obtain ⟨c0, c1, rfl⟩ := len2 hc.2
      simp only [dist, List.getD_cons_zero, List.getD_cons_succ] at h hk
      unfold isP at hP hQ
      rw [decide_eq_true_eq] at hP hQ
      simp only [List.getD_cons_zero, List.getD_cons_succ] at hP hQ
      have mk : ∀ u v : Int, 0 ≤ u → u < p.getD 0 0 → 0 ≤ v → v < p.getD 1 0 → cellP p [u, v] := fun u v x1 x2 x3 x4 => by
        refine ⟨?_, rfl⟩
        unfold isP
        rw [decide_eq_true_eq]
        exact ⟨x1, x2, x3, x4⟩
      have go : ∀ (s : List Int) (e : Nat), e < 4 → cellP p s → dist [a0, a1] s ≤ k → ahead s (e : Int) = [c0, c1] → gS p [a0, a1] (k + 1) [c0, c1] := fun s e he hs hsd h => ⟨[c0, c1], hc, .inr ⟨s, hs, ih s hs hsd, e, he, h⟩, reach_refl hd hc⟩
      rcases Int.lt_trichotomy a0 c0 with h0 | h0 | h0
      · refine go [c0 - 1, c1] 1 (by decide) (mk _ _ (by omega) (by omega) (by omega) (by omega)) (by simp only [dist, List.getD_cons_zero, List.getD_cons_succ]; omega) ?_
        show [c0 - 1 + 1, c1] = _
        rw [Int.sub_add_cancel]
      · rcases Int.lt_trichotomy a1 c1 with h1 | h1 | h1
        · refine go [c0, c1 - 1] 2 (by decide) (mk _ _ (by omega) (by omega) (by omega) (by omega)) (by simp only [dist, List.getD_cons_zero, List.getD_cons_succ]; omega) ?_
          show [c0, c1 - 1 + 1] = _
          rw [Int.sub_add_cancel]
        · omega
        · refine go [c0, c1 + 1] 0 (by decide) (mk _ _ (by omega) (by omega) (by omega) (by omega)) (by simp only [dist, List.getD_cons_zero, List.getD_cons_succ]; omega) ?_
          show [c0, c1 + 1 - 1] = _
          rw [Int.add_sub_cancel]
      · refine go [c0 + 1, c1] 3 (by decide) (mk _ _ (by omega) (by omega) (by omega) (by omega)) (by simp only [dist, List.getD_cons_zero, List.getD_cons_succ]; omega) ?_
        show [c0 + 1 - 1, c1] = _
        rw [Int.add_sub_cancel]
theorem dist_20 {p a c : List Int} (hd : okD p) (ha : cellP p a) (hc : cellP p c) : dist a c ≤ 18 := by
  obtain ⟨w1, w2, h1, h2⟩ := hd
  have hP := hc.1
  have hQ := ha.1
  unfold isP at hP hQ
  rw [decide_eq_true_eq] at hP hQ
  unfold dist; omega
/-- How many gates. -/
noncomputable def gR (p a b : List Int) : Nat → Nat → Nat
  | 0, k => k
  | n + 1, k => if (gT p a k).getD (cx b) 0 ≠ 0 then k else gR p a b n (k + 1)
noncomputable def gN (p a b : List Int) : Nat := gR p a b 20 0
theorem gR_eq {p a b : List Int} {k : Nat} (hk : (gT p a k).getD (cx b) 0 ≠ 0) : ∀ n j, j ≤ k → k < j + n → (∀ i, j ≤ i → i < k → (gT p a i).getD (cx b) 0 = 0) → gR p a b n j = k := by
  intro n
  induction n with
  | zero => intro j h1 h2; omega
  | succ n ih =>
    intro j h1 h2 h3
    unfold gR
    by_cases hj : j = k
    · subst hj; rw [if_pos hk]
    · rw [if_neg (by rw [h3 j (Nat.le_refl _) (by omega)]; simp)]
      exact ih (j + 1) (by omega) (by omega) fun i h4 h5 => h3 i (by omega) h5
theorem gN_eq {p a b : List Int} {k : Nat} (hk : (gT p a k).getD (cx b) 0 ≠ 0) (h20 : k < 20) (h : ∀ i, i < k → (gT p a i).getD (cx b) 0 = 0) : gN p a b = k :=
  gR_eq hk 20 0 (Nat.zero_le _) (by omega) fun i _ h5 => h i h5
theorem g_bound {p a b : List Int} (hd : okD p) (ha : cellP p a) (hb : cellP p b) {k : Nat} (h : ∀ i, i < k → (gT p a i).getD (cx b) 0 = 0) : k ≤ 18 := by
  rcases Nat.lt_or_ge 18 k with h1 | h1
  · have := ((gT_ok hd ha 18).2 b hb).2 (gS_ball hd ha 18 b hb (dist_20 hd ha hb))
    exact absurd (h 18 h1) this
  · exact h1
end Go.Proofs.Ytfelemoefhbphaa
