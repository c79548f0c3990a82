/- A growth that is drawn; numbers out of bytes; a cell in a list; hay fed. -/
import Derived.Test.YtgogccconmlkiaaDraw3
import Derived.Test.YtgogccconmlkiaaDays
import Derived.Test.YtgogccconmlkiaaYard2
namespace Go.Proofs.Ytgogccconmlkiaa
open Go Go.Eng
set_option linter.unusedSimpArgs false
set_option linter.unusedVariables false
set_option maxRecDepth 100000
set_option maxHeartbeats 4000000

def glL : List (List Int) := [[0], [8], [15], [30], [120], [250], [1000]]
def gtL : List (List Int) := [[0], [1], [2], [3], [5], [20], [100]]
def amv (l : List (List Int)) (rows : List (List Int)) (a sd : Int) : Int := (l.getD (pkv rows a sd 7).toNat []).getD 0 0
abbrev GS := List Int × Int × Int
def grK (rows : List (List Int)) (a sd : Int) : Nat → GS
  | 0 => ((List.replicate 12 0).set 11 (amv glL rows a sd), pka a 7, pks rows a sd 7)
  | i + 1 => ((grK rows a sd i).1.set i (amv gtL rows (grK rows a sd i).2.1 (grK rows a sd i).2.2), pka (grK rows a sd i).2.1 7, pks rows (grK rows a sd i).2.1 (grK rows a sd i).2.2 7)
theorem glL_rng : ∀ i, i < 7 → 0 ≤ (glL.getD i []).getD 0 0 ∧ (glL.getD i []).getD 0 0 ≤ 1000 := by decide
theorem gtL_rng : ∀ i, i < 7 → 0 ≤ (gtL.getD i []).getD 0 0 ∧ (gtL.getD i []).getD 0 0 ≤ 100 := by decide
variable {rows : List (List Int)}
theorem aml (hR : SrcOk rows) {a : Int} (sd : Int) (h0 : 0 ≤ a) : 0 ≤ amv glL rows a sd ∧ amv glL rows a sd ≤ 1000 := by
  have := pkv_rng hR.ok sd (a := a) (n := 7) h0
  exact glL_rng _ (by omega)
theorem amt (hR : SrcOk rows) {a : Int} (sd : Int) (h0 : 0 ≤ a) : 0 ≤ amv gtL rows a sd ∧ amv gtL rows a sd ≤ 100 := by
  have := pkv_rng hR.ok sd (a := a) (n := 7) h0
  exact gtL_rng _ (by omega)
structure GOk (a : Int) (i : Nat) (S : GS) : Prop where
  len : S.1.length = 12
  a0 : 0 ≤ S.2.1
  a1 : S.2.1 ≤ a + 1 + i
  t : ∀ j, j < 11 → 0 ≤ S.1.getD j 0 ∧ S.1.getD j 0 ≤ 100
  l : 0 ≤ S.1.getD 11 0 ∧ S.1.getD 11 0 ≤ 1000
theorem grK_ok (hR : SrcOk rows) {a sd : Int} (h0 : 0 ≤ a) : ∀ i, i ≤ 11 → GOk a i (grK rows a sd i) := by
  intro i
  induction i with
  | zero =>
    intro _
    have h1 := pka_rng a 7
    refine ⟨rfl, by show 0 ≤ pka a 7; omega, by show pka a 7 ≤ a + 1 + 0; omega, fun j hj => ?_, ?_⟩
    · show 0 ≤ (List.set _ _ _).getD j 0 ∧ (List.set _ _ _).getD j 0 ≤ 100
      rw [set2_get (by omega), rep_get0]; omega
    · show 0 ≤ (List.set _ _ _).getD 11 0 ∧ (List.set _ _ _).getD 11 0 ≤ 1000
      rw [getD_set_self (by simp)]; exact aml hR sd h0
  | succ i ih =>
    intro hib
    have H := ih (by omega)
    have h1 := pka_rng (grK rows a sd i).2.1 7
    have h2 := H.a0
    have h3 := H.a1
    have h4 := amt hR (grK rows a sd i).2.2 H.a0
    refine ⟨by show (List.set _ _ _).length = 12; rw [List.length_set]; exact H.len, by show 0 ≤ pka (grK rows a sd i).2.1 7; omega, by show pka (grK rows a sd i).2.1 7 ≤ a + 1 + ((i + 1 : Nat) : Int); omega, fun j hj => ?_, ?_⟩
    · show 0 ≤ (List.set _ _ _).getD j 0 ∧ (List.set _ _ _).getD j 0 ≤ 100
      by_cases e : j = i
      · subst e; rw [getD_set_self (by rw [H.len]; omega)]; exact h4
      · rw [set2_get e]; exact H.t j hj
    · show 0 ≤ (List.set _ _ _).getD 11 0 ∧ (List.set _ _ _).getD 11 0 ≤ 1000
      rw [set2_get (by omega)]; exact H.l
def grdS : Fun
  | [.rp 0 0 3 172], [.r [.fs .u8 rows, .i .i64 a, .i .u64 sd]] => some (.ag .gro (grK rows a sd 11).1, [.r [.fs .u8 rows, .i .i64 (grK rows a sd 11).2.1, .i .u64 (grK rows a sd 11).2.2]], [0 ≤ a ∧ a ≤ 1000000 ∧ SrcOk rows])
  | _, _ => .none
set_option maxRecDepth 100000 in
theorem s_l04Drawn : Sound Try.prog 74 grdS := by
  intro args M r M' vs h hvs
  unfold grdS at h
  split at h
  case h_2 => cases h
  rename_i rows a sd
  cases h
  refine SpecOK.assume fun hA hM => ?_
  have htb := (TbOk.cons s_among Try.func134 rfl rfl (TbOk.nil : TbOk Try.prog tb0))
  refine SpecOK.of_goes [0] Try.func74 rfl ?_
  obtain ⟨⟨h0, h1, hR⟩, -⟩ := hvs
  clear hA hM
  have hl := aml hR sd h0
  have hK := fun i hib => grK_ok hR (sd := sd) h0 i hib
  have e7 : ((7 : Nat) : Int) = 7 := rfl
  have eL : (((((((List.replicate 7 (List.replicate 1 (0 : Int))).set 0 [0]).set 1 [8]).set 2 [15]).set 3 [30]).set 4 [120]).set 5 [250]).set 6 [1000] = glL := rfl
  have eT : (((((((List.replicate 7 (List.replicate 1 (0 : Int))).set 0 [0]).set 1 [1]).set 2 [2]).set 3 [3]).set 4 [5]).set 5 [20]).set 6 [100] = gtL := rfl
  have eA : (glL.getD (pkv rows a sd 7).toNat []).getD 0 0 = amv glL rows a sd := rfl
  refine Goes.tree Γ_ok htb 1000 false false Try.func74 rfl ?_
  ((try simp only [decide_eq_true_eq, decide_eq_false_iff_not, Bool.not_eq_true', Bool.not_eq_false', Bool.not_true, Bool.not_false, Bool.and_eq_true, Bool.or_eq_true, bne_iff_ne, beq_iff_eq, ne_eq]); (try simp only [rng, lo, hi, mnI, mxI, Int.toNat_natCast, Sg.n, Nat.mul_one, Nat.zero_add, Nat.add_zero, Nat.reduceAdd, List.getD_cons_zero, List.getD_cons_succ, e7, eL, eA]))
  ((repeat' (first | (with_reducible apply And.intro) | intro _)); all_goals (first | exact trivial | (with_reducible assumption) | (show (_ : List Blk) = _; rfl) | (first | exact trivial | (with_reducible assumption) | omega | (split <;> omega) | (split <;> split <;> omega)) | skip); all_goals (try (refine ⟨rfl, (by first | exact Nat.le_refl _ | exact Nat.le_of_ble_eq_true rfl), rfl, rfl, ?_, (by repeat' (first | exact trivial | rfl | apply And.intro)), rfl, rfl⟩)))
  all_goals (try first | omega | exact hR | decide)
  refine ⟨?_⟩
  refine Goes.loopR (fun i : Nat => 11 - i) (fun i => i ≤ 11) (fun i => (.rp 0 0 3 172 :: .any :: .pw 1 .gro :: .pw 2 .gro :: .i .i64 (i : Int) :: .any :: .any :: .any :: .any :: .any :: .any :: .any :: .any :: .any :: .any :: .any :: .any :: .any :: .any :: .any :: .any :: .any :: []))
    (fun i => [.r [.fs .u8 rows, .i .i64 (grK rows a sd i).2.1, .i .u64 (grK rows a sd i).2.2], .c .gro (List.replicate 12 0), .c .gro (grK rows a sd i).1]) 0 [0, 1, 3] (Nat.zero_le _) ⟨rfl, rfl, rfl, (by repeat' (first | exact trivial | rfl | apply And.intro)), (by repeat' (first | exact trivial | rfl | apply And.intro)), rfl, rfl, rfl⟩ fun i hib ih => ?_
  have hG := hK i hib
  by_cases hlt : i < 11
  · have ih := ih (i + 1) (by omega) (by omega)
    have ei : grK rows a sd (i + 1) = ((grK rows a sd i).1.set i (amv gtL rows (grK rows a sd i).2.1 (grK rows a sd i).2.2), pka (grK rows a sd i).2.1 7, pks rows (grK rows a sd i).2.1 (grK rows a sd i).2.2 7) := rfl
    rw [ei] at ih
    have h2 := hG.a0
    have h3 := hG.a1
    have h4 := amt hR (grK rows a sd i).2.2 hG.a0
    have eB : (gtL.getD (pkv rows (grK rows a sd i).2.1 (grK rows a sd i).2.2 7).toNat []).getD 0 0 = amv gtL rows (grK rows a sd i).2.1 (grK rows a sd i).2.2 := rfl
    clear hK ei
    generalize grK rows a sd i = S at *
    refine Goes.tree Γ_ok htb 1000 false false Try.func74 rfl ?_
    ((try simp only [decide_eq_true_eq, decide_eq_false_iff_not, Bool.not_eq_true', Bool.not_eq_false', Bool.not_true, Bool.not_false, Bool.and_eq_true, Bool.or_eq_true, bne_iff_ne, beq_iff_eq, ne_eq]); (try simp only [rng, lo, hi, mnI, mxI, Int.toNat_natCast, Sg.n, Nat.mul_one, Nat.zero_add, Nat.add_zero, Nat.reduceAdd, List.getD_cons_zero, List.getD_cons_succ, e7, eT, eB]))
    ((repeat' (first | (with_reducible apply And.intro) | intro _)); all_goals (first | exact trivial | (with_reducible assumption) | (show (_ : List Blk) = _; rfl) | (first | exact trivial | (with_reducible assumption) | omega | (split <;> omega) | (split <;> split <;> omega)) | skip); all_goals (try (refine ⟨rfl, (by first | exact Nat.le_refl _ | exact Nat.le_of_ble_eq_true rfl), rfl, rfl, ?_, (by repeat' (first | exact trivial | rfl | apply And.intro)), rfl, rfl⟩)))
    all_goals (try first | omega | exact hR | decide)
    exact ⟨ih [0, 1, 2] _ _ ⟨rfl, rfl, rfl, (by repeat' (first | exact trivial | rfl | apply And.intro)), (by repeat' (first | exact trivial | rfl | apply And.intro)), rfl, rfl, rfl⟩⟩
  · obtain rfl : i = 11 := by omega
    clear ih
    refine Goes.tree Γ_ok htb 1000 false false Try.func74 rfl ?_
    ((try simp only [decide_eq_true_eq, decide_eq_false_iff_not, Bool.not_eq_true', Bool.not_eq_false', Bool.not_true, Bool.not_false, Bool.and_eq_true, Bool.or_eq_true, bne_iff_ne, beq_iff_eq, ne_eq]); (try simp only [rng, lo, hi, mnI, mxI, Int.toNat_natCast, Sg.n, Nat.mul_one, Nat.zero_add, Nat.add_zero, Nat.reduceAdd, List.getD_cons_zero, List.getD_cons_succ]))
    ((repeat' (first | (with_reducible apply And.intro) | intro _)); all_goals (first | exact trivial | (with_reducible assumption) | (show (_ : List Blk) = _; rfl) | (first | exact trivial | (with_reducible assumption) | omega | (split <;> omega) | (split <;> split <;> omega)) | skip); all_goals (try (refine ⟨rfl, (by first | exact Nat.le_refl _ | exact Nat.le_of_ble_eq_true rfl), rfl, rfl, ?_, (by repeat' (first | exact trivial | rfl | apply And.intro)), rfl, rfl⟩)))
    all_goals (first | omega | exact sameA_refl _ | trace_state)
def a2GP (rows : List (List Int)) : List Int := (grK rows 0 0 11).1
theorem a2G_ok (hR : SrcOk rows) : okG (a2GP rows) := by
  have := grK_ok hR (a := 0) (sd := 0) (Int.le_refl _) 11 (Nat.le_refl _)
  exact ⟨this.t, this.l⟩
def a2GS : Fun
  | [.fs .u8 rows], [] => some (.ag .gro (a2GP rows), [], [SrcOk rows])
  | _, _ => .none
set_option maxRecDepth 100000 in
theorem s_a2Growth : Sound Try.prog 31 a2GS := by
  intro args M r M' vs h hvs
  unfold a2GS at h
  split at h
  case h_2 => cases h
  rename_i rows
  cases h
  refine SpecOK.assume fun hA hM => ?_
  have htb := (TbOk.cons s_from Try.func73 rfl rfl (TbOk.cons s_l04Drawn Try.func74 rfl rfl (TbOk.nil : TbOk Try.prog tb0)))
  refine SpecOK.of_goes [] Try.func31 rfl ?_
  obtain ⟨hR, -⟩ := hvs
  clear hA hM
  refine Goes.tree Γ_ok htb 1000 false false Try.func31 rfl ?_
  ((try simp only [decide_eq_true_eq, decide_eq_false_iff_not, Bool.not_eq_true', Bool.not_eq_false', Bool.not_true, Bool.not_false, Bool.and_eq_true, Bool.or_eq_true, bne_iff_ne, beq_iff_eq, ne_eq]); (try simp only [rng, lo, hi, mnI, mxI, Int.toNat_natCast, Sg.n, Nat.mul_one, Nat.zero_add, Nat.add_zero, Nat.reduceAdd, List.getD_cons_zero, List.getD_cons_succ]))
  ((repeat' (first | (with_reducible apply And.intro) | intro _)); all_goals (first | exact trivial | (with_reducible assumption) | (show (_ : List Blk) = _; rfl) | (first | exact trivial | (with_reducible assumption) | omega | (split <;> omega) | (split <;> split <;> omega)) | skip); all_goals (try (refine ⟨rfl, (by first | exact Nat.le_refl _ | exact Nat.le_of_ble_eq_true rfl), rfl, rfl, ?_, (by repeat' (first | exact trivial | rfl | apply And.intro)), rfl, rfl⟩)))
  all_goals (try first | exact hR | decide)
  all_goals exact sameA_refl _

/-! Numbers out of bytes. -/
def atV (rows : List (List Int)) (i n : Int) : Int := if (rows.length : Int) ≤ i ∨ n < 1 then 0 else ((rows.getD i.toNat []).getD 0 0).tmod n
def atS : Fun
  | [.fs .u8 rows, .i .i64 i, .i .i64 n], [] => some (.i .i64 (atV rows i n), [], [0 ≤ i ∧ SrcOk rows])
  | _, _ => .none
theorem nb_rng (hR : SrcOk rows) {i : Int} (h0 : 0 ≤ i) (hlt : i < rows.length) : 0 ≤ (rows.getD i.toNat []).getD 0 0 ∧ (rows.getD i.toNat []).getD 0 0 ≤ 255 := by
  have h := nbA_rng hR.ok i h0
  unfold nbA at h
  rwa [if_pos hlt] at h
theorem tmod_rng {x n : Int} (h0 : 0 ≤ x) (hn : 1 ≤ n) : 0 ≤ x.tmod n ∧ x.tmod n < n ∧ x.tmod n ≤ x := by
  rw [Int.tmod_eq_emod_of_nonneg h0]
  refine ⟨Int.emod_nonneg x (by omega), Int.emod_lt_of_pos x (by omega), ?_⟩
  by_cases hx : x < n
  · rw [Int.emod_eq_of_lt h0 hx]; exact Int.le_refl _
  · have := Int.emod_lt_of_pos x (show 0 < n by omega); omega
theorem atV_rng (hR : SrcOk rows) {i n : Int} (h0 : 0 ≤ i) (hn : 1 ≤ n) : 0 ≤ atV rows i n ∧ atV rows i n < n := by
  unfold atV
  split
  · omega
  · have h1 := nb_rng hR h0 (by omega)
    have := tmod_rng h1.1 hn
    omega
set_option maxRecDepth 100000 in
theorem s_a2At : Sound Try.prog 33 atS := by
  intro args M r M' vs h hvs
  unfold atS at h
  split at h
  case h_2 => cases h
  rename_i rows i n
  cases h
  refine SpecOK.assume fun hA hM => ?_
  have htb := (TbOk.nil : TbOk Try.prog tb0)
  refine SpecOK.of_goes [] Try.func33 rfl ?_
  obtain ⟨⟨h0, hR⟩, -⟩ := hvs
  clear hA hM
  by_cases hc : (rows.length : Int) ≤ i ∨ n < 1
  · have e : atV rows i n = 0 := if_pos hc
    rw [e]
    refine Goes.tree Γ_ok htb 1000 false false Try.func33 rfl ?_
    ((try simp only [decide_eq_true_eq, decide_eq_false_iff_not, Bool.not_eq_true', Bool.not_eq_false', Bool.not_true, Bool.not_false, Bool.and_eq_true, Bool.or_eq_true, bne_iff_ne, beq_iff_eq, ne_eq]); (try simp only [rng, lo, hi, mnI, mxI, Int.toNat_natCast, Sg.n, Nat.mul_one, Nat.zero_add, Nat.add_zero, Nat.reduceAdd, List.getD_cons_zero, List.getD_cons_succ]))
    ((repeat' (first | (with_reducible apply And.intro) | intro _)); all_goals (first | exact trivial | (with_reducible assumption) | (show (_ : List Blk) = _; rfl) | (first | exact trivial | (with_reducible assumption) | omega | (split <;> omega) | (split <;> split <;> omega)) | skip); all_goals (try (refine ⟨rfl, (by first | exact Nat.le_refl _ | exact Nat.le_of_ble_eq_true rfl), rfl, rfl, ?_, (by repeat' (first | exact trivial | rfl | apply And.intro)), rfl, rfl⟩)))
    all_goals (try first | omega | exact sameA_refl _)
  · have e : atV rows i n = ((rows.getD i.toNat []).getD 0 0).tmod n := if_neg hc
    have hb := nb_rng hR h0 (by omega)
    have ht := tmod_rng hb.1 (show 1 ≤ n by omega)
    rw [e]
    refine Goes.tree Γ_ok htb 1000 false false Try.func33 rfl ?_
    ((try simp only [decide_eq_true_eq, decide_eq_false_iff_not, Bool.not_eq_true', Bool.not_eq_false', Bool.not_true, Bool.not_false, Bool.and_eq_true, Bool.or_eq_true, bne_iff_ne, beq_iff_eq, ne_eq]); (try simp only [rng, lo, hi, mnI, mxI, Int.toNat_natCast, Sg.n, Nat.mul_one, Nat.zero_add, Nat.add_zero, Nat.reduceAdd, List.getD_cons_zero, List.getD_cons_succ]))
    ((repeat' (first | (with_reducible apply And.intro) | intro _)); all_goals (first | exact trivial | (with_reducible assumption) | (show (_ : List Blk) = _; rfl) | (first | exact trivial | (with_reducible assumption) | omega | (split <;> omega) | (split <;> split <;> omega)) | skip); all_goals (try (refine ⟨rfl, (by first | exact Nat.le_refl _ | exact Nat.le_of_ble_eq_true rfl), rfl, rfl, ?_, (by repeat' (first | exact trivial | rfl | apply And.intro)), rfl, rfl⟩)))
    all_goals (try first | omega | exact sameA_refl _)
def longS : Fun
  | [.fs .u8 r, .fs .u8 t], [] => some (.b (decide (3000 < r.length ∨ 3000 < t.length)), [], [])
  | _, _ => .none
set_option maxRecDepth 100000 in
theorem s_a2Long : Sound Try.prog 29 longS := by
  intro args M r M' vs h hvs
  unfold longS at h
  split at h
  case h_2 => cases h
  rename_i r t
  cases h
  refine SpecOK.assume fun hA hM => ?_
  have htb := (TbOk.nil : TbOk Try.prog tb0)
  refine SpecOK.of_goes [] Try.func29 rfl ?_
  clear hA hM
  refine Goes.tree Γ_ok htb 1000 false false Try.func29 rfl ?_
  ((try simp only [decide_eq_true_eq, decide_eq_false_iff_not, Bool.not_eq_true', Bool.not_eq_false', Bool.not_true, Bool.not_false, Bool.and_eq_true, Bool.or_eq_true, bne_iff_ne, beq_iff_eq, ne_eq]); (try simp only [rng, lo, hi, mnI, mxI, Int.toNat_natCast, Sg.n, Nat.mul_one, Nat.zero_add, Nat.add_zero, Nat.reduceAdd, List.getD_cons_zero, List.getD_cons_succ]))
  ((repeat' (first | (with_reducible apply And.intro) | intro _)); all_goals (first | exact trivial | (with_reducible assumption) | (show (_ : List Blk) = _; rfl) | (first | exact trivial | (with_reducible assumption) | omega | (split <;> omega) | (split <;> split <;> omega)) | skip); all_goals (try (refine ⟨rfl, (by first | exact Nat.le_refl _ | exact Nat.le_of_ble_eq_true rfl), rfl, rfl, ?_, (by repeat' (first | exact trivial | rfl | apply And.intro)), rfl, rfl⟩)))
  · rename_i h
    show (decide _ : Bool) = true
    rw [decide_eq_true_eq]; omega
  · rename_i h
    show (decide _ : Bool) = decide _
    rw [decide_eq_decide]; omega

/-! A cell in a list. -/
def hspR (rows : List (List Int)) (s : List Int) : Bool := rows.any fun r => decide (r = s)
def hasSS : Fun
  | [.fs .spot rows, .ag .spot s], [] => some (.b (hspR rows s), [], [rows.length ≤ 1000000])
  | _, _ => .none
theorem any_take {f : List Int → Bool} {rows : List (List Int)} (h : ∀ j, j < rows.length → f (rows.getD j []) = false) : rows.any f = false := by
  rw [List.any_eq_false]
  intro r hr
  obtain ⟨j, hj, rfl⟩ := List.mem_iff_getElem.1 hr
  have := h j hj
  rw [List.getD_eq_getElem?_getD, List.getElem?_eq_getElem hj] at this
  simpa using this
theorem any_yes {f : List Int → Bool} {rows : List (List Int)} {i : Nat} (hib : i < rows.length) (h : f (rows.getD i []) = true) : rows.any f = true := by
  rw [List.any_eq_true]
  refine ⟨_, ?_, h⟩
  rw [List.getD_eq_getElem?_getD, List.getElem?_eq_getElem hib]; exact List.getElem_mem _
set_option maxRecDepth 100000 in
theorem s_a2HasSpot : Sound Try.prog 38 hasSS := by
  intro args M r M' vs h hvs
  unfold hasSS at h
  split at h
  case h_2 => cases h
  rename_i rows s
  cases h
  refine SpecOK.assume fun hA hM => ?_
  have htb := (TbOk.nil : TbOk Try.prog tb0)
  refine SpecOK.of_goes [] Try.func38 rfl ?_
  obtain ⟨hl, -⟩ := hvs
  clear hA hM
  refine Goes.tree Γ_ok htb 1000 false false Try.func38 rfl ?_
  ((try simp only [decide_eq_true_eq, decide_eq_false_iff_not, Bool.not_eq_true', Bool.not_eq_false', Bool.not_true, Bool.not_false, Bool.and_eq_true, Bool.or_eq_true, bne_iff_ne, beq_iff_eq, ne_eq]); (try simp only [rng, lo, hi, mnI, mxI, Int.toNat_natCast, Sg.n, Nat.mul_one, Nat.zero_add, Nat.add_zero, Nat.reduceAdd, List.getD_cons_zero, List.getD_cons_succ]))
  ((repeat' (first | (with_reducible apply And.intro) | intro _)); all_goals (first | exact trivial | (with_reducible assumption) | (show (_ : List Blk) = _; rfl) | (first | exact trivial | (with_reducible assumption) | omega | (split <;> omega) | (split <;> split <;> omega)) | skip); all_goals (try (refine ⟨rfl, (by first | exact Nat.le_refl _ | exact Nat.le_of_ble_eq_true rfl), rfl, rfl, ?_, (by repeat' (first | exact trivial | rfl | apply And.intro)), rfl, rfl⟩)))
  refine ⟨?_⟩
  refine Goes.loopR (fun i : Nat => rows.length - i) (fun i => i ≤ rows.length ∧ ∀ j, j < i → decide (rows.getD j [] = s) = false) (fun i => (.fs .spot rows :: .any :: .any :: .pw 0 .spot :: .any :: .i .i64 (i : Int) :: .any :: .any :: .any :: .any :: .any :: .any :: .any :: .any :: .any :: .any :: .any :: .any :: [])) (fun _ => [.c .spot s]) 0 [0] ⟨Nat.zero_le _, fun j hj => by omega⟩ ⟨rfl, rfl, rfl, (by repeat' (first | exact trivial | rfl | apply And.intro)), (by repeat' (first | exact trivial | rfl | apply And.intro)), rfl, rfl, rfl⟩ fun i ⟨hib, hno⟩ ih => ?_
  by_cases hlt : i < rows.length
  · refine Goes.tree Γ_ok htb 1000 false false Try.func38 rfl ?_
    ((try simp only [decide_eq_true_eq, decide_eq_false_iff_not, Bool.not_eq_true', Bool.not_eq_false', Bool.not_true, Bool.not_false, Bool.and_eq_true, Bool.or_eq_true, bne_iff_ne, beq_iff_eq, ne_eq]); (try simp only [rng, lo, hi, mnI, mxI, Int.toNat_natCast, Sg.n, Nat.mul_one, Nat.zero_add, Nat.add_zero, Nat.reduceAdd, List.getD_cons_zero, List.getD_cons_succ]))
    ((repeat' (first | (with_reducible apply And.intro) | intro _)); all_goals (first | exact trivial | (with_reducible assumption) | (show (_ : List Blk) = _; rfl) | (first | exact trivial | (with_reducible assumption) | omega | (split <;> omega) | (split <;> split <;> omega)) | skip); all_goals (try (refine ⟨rfl, (by first | exact Nat.le_refl _ | exact Nat.le_of_ble_eq_true rfl), rfl, rfl, ?_, (by repeat' (first | exact trivial | rfl | apply And.intro)), rfl, rfl⟩)))
    all_goals (try omega)
    · rename_i h
      have : hspR rows s = true := any_yes hlt (decide_eq_true h)
      rw [this]; exact rfl
    · rename_i h
      refine ⟨ih (i + 1) ⟨by omega, fun j hj => ?_⟩ (by omega) [0] _ _ ⟨rfl, rfl, rfl, (by repeat' (first | exact trivial | rfl | apply And.intro)), (by repeat' (first | exact trivial | rfl | apply And.intro)), rfl, rfl, rfl⟩⟩
      by_cases hji : j = i
      · subst hji; exact decide_eq_false h
      · exact hno j (by omega)
  · obtain rfl : i = rows.length := by omega
    have : hspR rows s = false := any_take hno
    rw [this]
    clear ih
    refine Goes.tree Γ_ok htb 1000 false false Try.func38 rfl ?_
    ((try simp only [decide_eq_true_eq, decide_eq_false_iff_not, Bool.not_eq_true', Bool.not_eq_false', Bool.not_true, Bool.not_false, Bool.and_eq_true, Bool.or_eq_true, bne_iff_ne, beq_iff_eq, ne_eq]); (try simp only [rng, lo, hi, mnI, mxI, Int.toNat_natCast, Sg.n, Nat.mul_one, Nat.zero_add, Nat.add_zero, Nat.reduceAdd, List.getD_cons_zero, List.getD_cons_succ]))
    ((repeat' (first | (with_reducible apply And.intro) | intro _)); all_goals (first | exact trivial | (with_reducible assumption) | (show (_ : List Blk) = _; rfl) | (first | exact trivial | (with_reducible assumption) | omega | (split <;> omega) | (split <;> split <;> omega)) | skip); all_goals (try (refine ⟨rfl, (by first | exact Nat.le_refl _ | exact Nat.le_of_ble_eq_true rfl), rfl, rfl, ?_, (by repeat' (first | exact trivial | rfl | apply And.intro)), rfl, rfl⟩)))
    all_goals (first | contradiction | exact rfl | trace_state)

/-! Hay that is fed. -/
def fdK (h e : Int) : Nat → Int × Int
  | 0 => (h, 0)
  | d + 1 => ((fdK h e d).1 - mnI (fdK h e d).1 e, (fdK h e d).2 + if e ≤ (fdK h e d).1 then 1 else 0)
theorem fdK_ok {h e : Int} (h0 : 0 ≤ h) (e0 : 0 ≤ e) : ∀ d : Nat, (fdK h e d).1 = (if h - e * d < 0 then 0 else h - e * d) ∧ 0 ≤ (fdK h e d).2 ∧ (fdK h e d).2 ≤ d ∧ ((fdK h e d).2 = d ↔ e * d ≤ h) := by
  intro d
  induction d with
  | zero => simp [fdK]; omega
  | succ d ih =>
    obtain ⟨i1, i2, i3, i4⟩ := ih
    have ed : e * ((d + 1 : Nat) : Int) = e * d + e := by rw [Int.natCast_add, Int.mul_add]; simp
    have e1 : 0 ≤ e * (d : Int) := Int.mul_nonneg e0 (by omega)
    simp only [fdK, mnI]
    rw [ed]
    generalize e * (d : Int) = m at *
    rw [i1]
    split at i1
    · rename_i hm
      rw [if_pos (show h - m < 0 from hm)]
      refine ⟨?_, ?_, ?_, ?_⟩
      · split <;> split <;> omega
      · split <;> omega
      · split <;> omega
      · have hne : ¬ m ≤ h := by omega
        constructor
        · intro hh
          split at hh
          · exact absurd (i4.1 (by omega)) hne
          · omega
        · intro hh; omega
    · rename_i hm
      rw [if_neg hm]
      have hd : (fdK h e d).2 = d := i4.2 (by omega)
      refine ⟨?_, ?_, ?_, ?_⟩
      · split <;> split <;> omega
      · split <;> omega
      · split <;> omega
      · rw [hd]
        constructor
        · intro hh
          split at hh
          · omega
          · omega
        · intro hh
          rw [if_pos (by omega)]; omega
def feedS : Fun
  | [.i .i64 h, .i .i64 e, .i .i64 d], [] => some (.t3 (.i .i64 (fdK h e d.toNat).1) (.i .i64 (fdK h e d.toNat).2) (.i .i64 0), [], [0 ≤ h ∧ h ≤ 1000000 ∧ 0 ≤ e ∧ e ≤ 100000 ∧ 0 ≤ d ∧ d ≤ 365])
  | _, _ => .none
theorem fd_rng {h e : Int} (h0 : 0 ≤ h) (h1 : h ≤ 1000000) (e0 : 0 ≤ e) (d : Nat) : 0 ≤ (fdK h e d).1 ∧ (fdK h e d).1 ≤ 1000000 := by
  have := (fdK_ok h0 e0 d).1
  have e1 : 0 ≤ e * (d : Int) := Int.mul_nonneg e0 (by omega)
  rw [this]
  split <;> omega
set_option maxRecDepth 100000 in
theorem s_implFeed : Sound Try.prog 54 feedS := by
  intro args M r M' vs h hvs
  unfold feedS at h
  split at h
  case h_2 => cases h
  rename_i h e d
  cases h
  refine SpecOK.assume fun hA hM => ?_
  have htb := (TbOk.cons s_within Try.func83 rfl rfl (TbOk.cons s_bit Try.func109 rfl rfl (TbOk.nil : TbOk Try.prog tb0)))
  refine SpecOK.of_goes [] Try.func54 rfl ?_
  obtain ⟨⟨h0, h1, e0, e1, d0, d1⟩, -⟩ := hvs
  clear hA hM
  refine Goes.tree Γ_ok htb 1000 false false Try.func54 rfl ?_
  ((try simp only [decide_eq_true_eq, decide_eq_false_iff_not, Bool.not_eq_true', Bool.not_eq_false', Bool.not_true, Bool.not_false, Bool.and_eq_true, Bool.or_eq_true, bne_iff_ne, beq_iff_eq, ne_eq]); (try simp only [rng, lo, hi, mnI, mxI, Int.toNat_natCast, Sg.n, Nat.mul_one, Nat.zero_add, Nat.add_zero, Nat.reduceAdd, List.getD_cons_zero, List.getD_cons_succ]))
  ((repeat' (first | (with_reducible apply And.intro) | intro _)); all_goals (first | exact trivial | (with_reducible assumption) | (show (_ : List Blk) = _; rfl) | (first | exact trivial | (with_reducible assumption) | omega | (split <;> omega) | (split <;> split <;> omega)) | skip); all_goals (try (refine ⟨rfl, (by first | exact Nat.le_refl _ | exact Nat.le_of_ble_eq_true rfl), rfl, rfl, ?_, (by repeat' (first | exact trivial | rfl | apply And.intro)), rfl, rfl⟩)))
  all_goals (try omega)
  refine ⟨?_⟩
  refine Goes.loopR (fun i : Nat => d.toNat - i) (fun i => i ≤ d.toNat) (fun i => (.i .i64 (fdK h e i).1 :: .i .i64 e :: .any :: .any :: .any :: .any :: .any :: .any :: .any :: .i .i64 (fdK h e i).2 :: .any :: .any :: .any :: .any :: .any :: .any :: .any :: .any :: .any :: .any :: .any :: .any :: .any :: .i .i64 d :: .i .i64 (i : Int) :: .any :: .any :: .any :: .any :: .any :: .any :: .any :: .any :: .any :: .any :: .any :: .any :: .any :: .any :: .any :: [])) (fun _ => []) 0 [] (Nat.zero_le _) ⟨rfl, rfl, rfl, (by repeat' (first | exact trivial | rfl | apply And.intro)), (by repeat' (first | exact trivial | rfl | apply And.intro)), rfl, rfl, rfl⟩ fun i hib ih => ?_
  have hr := fd_rng h0 h1 e0 i
  obtain ⟨-, k1, k2, -⟩ := fdK_ok h0 e0 i
  by_cases hlt : (i : Int) < d
  · have ih := ih (i + 1) (by omega) (by omega)
    have ei : fdK h e (i + 1) = ((fdK h e i).1 - mnI (fdK h e i).1 e, (fdK h e i).2 + if e ≤ (fdK h e i).1 then 1 else 0) := rfl
    rw [ei] at ih
    unfold mnI at ih
    generalize fdK h e i = S at *
    by_cases hc : e ≤ S.1
    · rw [if_pos hc] at ih
      refine Goes.tree Γ_ok htb 1000 false false Try.func54 rfl ?_
      ((try simp only [decide_eq_true_eq, decide_eq_false_iff_not, Bool.not_eq_true', Bool.not_eq_false', Bool.not_true, Bool.not_false, Bool.and_eq_true, Bool.or_eq_true, bne_iff_ne, beq_iff_eq, ne_eq]); (try simp only [rng, lo, hi, mnI, mxI, Int.toNat_natCast, Sg.n, Nat.mul_one, Nat.zero_add, Nat.add_zero, Nat.reduceAdd, List.getD_cons_zero, List.getD_cons_succ, hc, if_true, decide_true]))
      ((repeat' (first | (with_reducible apply And.intro) | intro _)); all_goals (first | exact trivial | (with_reducible assumption) | (show (_ : List Blk) = _; rfl) | (first | exact trivial | (with_reducible assumption) | omega | (split <;> omega) | (split <;> split <;> omega)) | skip); all_goals (try (refine ⟨rfl, (by first | exact Nat.le_refl _ | exact Nat.le_of_ble_eq_true rfl), rfl, rfl, ?_, (by repeat' (first | exact trivial | rfl | apply And.intro)), rfl, rfl⟩)))
      all_goals (try first | omega | (split <;> omega))
      exact ⟨ih [] _ _ ⟨rfl, rfl, rfl, (by repeat' (first | exact trivial | rfl | apply And.intro)), (by repeat' (first | exact trivial | rfl | apply And.intro)), rfl, rfl, rfl⟩⟩
    · rw [if_neg hc] at ih
      refine Goes.tree Γ_ok htb 1000 false false Try.func54 rfl ?_
      ((try simp only [decide_eq_true_eq, decide_eq_false_iff_not, Bool.not_eq_true', Bool.not_eq_false', Bool.not_true, Bool.not_false, Bool.and_eq_true, Bool.or_eq_true, bne_iff_ne, beq_iff_eq, ne_eq]); (try simp only [rng, lo, hi, mnI, mxI, Int.toNat_natCast, Sg.n, Nat.mul_one, Nat.zero_add, Nat.add_zero, Nat.reduceAdd, List.getD_cons_zero, List.getD_cons_succ, hc, if_false, decide_false, Bool.false_eq_true]))
      ((repeat' (first | (with_reducible apply And.intro) | intro _)); all_goals (first | exact trivial | (with_reducible assumption) | (show (_ : List Blk) = _; rfl) | (first | exact trivial | (with_reducible assumption) | omega | (split <;> omega) | (split <;> split <;> omega)) | skip); all_goals (try (refine ⟨rfl, (by first | exact Nat.le_refl _ | exact Nat.le_of_ble_eq_true rfl), rfl, rfl, ?_, (by repeat' (first | exact trivial | rfl | apply And.intro)), rfl, rfl⟩)))
      all_goals (try first | omega | (split <;> omega))
      exact ⟨ih [] _ _ ⟨rfl, rfl, rfl, (by repeat' (first | exact trivial | rfl | apply And.intro)), (by repeat' (first | exact trivial | rfl | apply And.intro)), rfl, rfl, rfl⟩⟩
  · obtain rfl : i = d.toNat := by omega
    clear ih
    refine Goes.tree Γ_ok htb 1000 false false Try.func54 rfl ?_
    ((try simp only [decide_eq_true_eq, decide_eq_false_iff_not, Bool.not_eq_true', Bool.not_eq_false', Bool.not_true, Bool.not_false, Bool.and_eq_true, Bool.or_eq_true, bne_iff_ne, beq_iff_eq, ne_eq]); (try simp only [rng, lo, hi, mnI, mxI, Int.toNat_natCast, Sg.n, Nat.mul_one, Nat.zero_add, Nat.add_zero, Nat.reduceAdd, List.getD_cons_zero, List.getD_cons_succ]))
    ((repeat' (first | (with_reducible apply And.intro) | intro _)); all_goals (first | exact trivial | (with_reducible assumption) | (show (_ : List Blk) = _; rfl) | (first | exact trivial | (with_reducible assumption) | omega | (split <;> omega) | (split <;> split <;> omega)) | skip); all_goals (try (refine ⟨rfl, (by first | exact Nat.le_refl _ | exact Nat.le_of_ble_eq_true rfl), rfl, rfl, ?_, (by repeat' (first | exact trivial | rfl | apply And.intro)), rfl, rfl⟩)))
    all_goals (first | omega | exact sameA_refl _ | trace_state)
set_option maxRecDepth 100000 in
theorem s_specFeed : Sound Try.prog 55 feedS := by
  intro args M r M' vs h hvs
  unfold feedS at h
  split at h
  case h_2 => cases h
  rename_i h e d
  cases h
  refine SpecOK.assume fun hA hM => ?_
  have htb := (TbOk.cons s_l00In Try.func110 rfl rfl (TbOk.cons s_l04Eats Try.func111 rfl rfl (TbOk.cons s_l04Day Try.func107 rfl rfl (TbOk.cons s_l00Min Try.func112 rfl rfl (TbOk.nil : TbOk Try.prog tb0)))))
  refine SpecOK.of_goes [] Try.func55 rfl ?_
  obtain ⟨⟨h0, h1, e0, e1, d0, d1⟩, -⟩ := hvs
  clear hA hM
  refine Goes.tree Γ_ok htb 1000 false false Try.func55 rfl ?_
  ((try simp only [decide_eq_true_eq, decide_eq_false_iff_not, Bool.not_eq_true', Bool.not_eq_false', Bool.not_true, Bool.not_false, Bool.and_eq_true, Bool.or_eq_true, bne_iff_ne, beq_iff_eq, ne_eq]); (try simp only [rng, lo, hi, mnI, mxI, Int.toNat_natCast, Sg.n, Nat.mul_one, Nat.zero_add, Nat.add_zero, Nat.reduceAdd, List.getD_cons_zero, List.getD_cons_succ]))
  ((repeat' (first | (with_reducible apply And.intro) | intro _)); all_goals (first | exact trivial | (with_reducible assumption) | (show (_ : List Blk) = _; rfl) | (first | exact trivial | (with_reducible assumption) | omega | (split <;> omega) | (split <;> split <;> omega)) | skip); all_goals (try (refine ⟨rfl, (by first | exact Nat.le_refl _ | exact Nat.le_of_ble_eq_true rfl), rfl, rfl, ?_, (by repeat' (first | exact trivial | rfl | apply And.intro)), rfl, rfl⟩)))
  all_goals (try omega)
  refine ⟨?_⟩
  refine Goes.loopR (fun i : Nat => d.toNat - i) (fun i => i ≤ d.toNat) (fun i => (.i .i64 (fdK h e i).1 :: .i .i64 e :: .i .i64 d :: .any :: .any :: .any :: .any :: .any :: .any :: .i .i64 (fdK h e i).2 :: .i .i64 (i : Int) :: .any :: .any :: .any :: .any :: .any :: .any :: .any :: .any :: .any :: .any :: .any :: .any :: .any :: .any :: .any :: .any :: .any :: .any :: .any :: .any :: .any :: .any :: .any :: .any :: .any :: .any :: .any :: .any :: .any :: .any :: [])) (fun _ => []) 0 [] (Nat.zero_le _) ⟨rfl, rfl, rfl, (by repeat' (first | exact trivial | rfl | apply And.intro)), (by repeat' (first | exact trivial | rfl | apply And.intro)), rfl, rfl, rfl⟩ fun i hib ih => ?_
  have hr := fd_rng h0 h1 e0 i
  obtain ⟨-, k1, k2, -⟩ := fdK_ok h0 e0 i
  by_cases hlt : (i : Int) < d
  · have ih := ih (i + 1) (by omega) (by omega)
    have ei : fdK h e (i + 1) = ((fdK h e i).1 - mnI (fdK h e i).1 e, (fdK h e i).2 + if e ≤ (fdK h e i).1 then 1 else 0) := rfl
    rw [ei] at ih
    generalize fdK h e i = S at *
    have em : mnI S.1 e = if S.1 < e then S.1 else e := by unfold mnI; split <;> split <;> omega
    rw [em] at ih
    by_cases hc : e ≤ S.1
    · rw [if_pos hc] at ih
      refine Goes.tree Γ_ok htb 1000 false false Try.func55 rfl ?_
      ((try simp only [decide_eq_true_eq, decide_eq_false_iff_not, Bool.not_eq_true', Bool.not_eq_false', Bool.not_true, Bool.not_false, Bool.and_eq_true, Bool.or_eq_true, bne_iff_ne, beq_iff_eq, ne_eq]); (try simp only [rng, lo, hi, mnI, mxI, Int.toNat_natCast, Sg.n, Nat.mul_one, Nat.zero_add, Nat.add_zero, Nat.reduceAdd, List.getD_cons_zero, List.getD_cons_succ]))
      ((repeat' (first | (with_reducible apply And.intro) | intro _)); all_goals (first | exact trivial | (with_reducible assumption) | (show (_ : List Blk) = _; rfl) | (first | exact trivial | (with_reducible assumption) | omega | (split <;> omega) | (split <;> split <;> omega)) | skip); all_goals (try (refine ⟨rfl, (by first | exact Nat.le_refl _ | exact Nat.le_of_ble_eq_true rfl), rfl, rfl, ?_, (by repeat' (first | exact trivial | rfl | apply And.intro)), rfl, rfl⟩)))
      all_goals (try first | omega | (split <;> omega))
      exact ⟨ih [] _ _ ⟨rfl, rfl, rfl, (by repeat' (first | exact trivial | rfl | apply And.intro)), (by repeat' (first | exact trivial | rfl | apply And.intro)), rfl, rfl, rfl⟩⟩
    · rw [if_neg hc, Int.add_zero] at ih
      refine Goes.tree Γ_ok htb 1000 false false Try.func55 rfl ?_
      ((try simp only [decide_eq_true_eq, decide_eq_false_iff_not, Bool.not_eq_true', Bool.not_eq_false', Bool.not_true, Bool.not_false, Bool.and_eq_true, Bool.or_eq_true, bne_iff_ne, beq_iff_eq, ne_eq]); (try simp only [rng, lo, hi, mnI, mxI, Int.toNat_natCast, Sg.n, Nat.mul_one, Nat.zero_add, Nat.add_zero, Nat.reduceAdd, List.getD_cons_zero, List.getD_cons_succ]))
      ((repeat' (first | (with_reducible apply And.intro) | intro _)); all_goals (first | exact trivial | (with_reducible assumption) | (show (_ : List Blk) = _; rfl) | (first | exact trivial | (with_reducible assumption) | omega | (split <;> omega) | (split <;> split <;> omega)) | skip); all_goals (try (refine ⟨rfl, (by first | exact Nat.le_refl _ | exact Nat.le_of_ble_eq_true rfl), rfl, rfl, ?_, (by repeat' (first | exact trivial | rfl | apply And.intro)), rfl, rfl⟩)))
      all_goals (try first | omega | (split <;> omega))
      exact ⟨ih [] _ _ ⟨rfl, rfl, rfl, (by repeat' (first | exact trivial | rfl | apply And.intro)), (by repeat' (first | exact trivial | rfl | apply And.intro)), rfl, rfl, rfl⟩⟩
  · obtain rfl : i = d.toNat := by omega
    clear ih
    refine Goes.tree Γ_ok htb 1000 false false Try.func55 rfl ?_
    ((try simp only [decide_eq_true_eq, decide_eq_false_iff_not, Bool.not_eq_true', Bool.not_eq_false', Bool.not_true, Bool.not_false, Bool.and_eq_true, Bool.or_eq_true, bne_iff_ne, beq_iff_eq, ne_eq]); (try simp only [rng, lo, hi, mnI, mxI, Int.toNat_natCast, Sg.n, Nat.mul_one, Nat.zero_add, Nat.add_zero, Nat.reduceAdd, List.getD_cons_zero, List.getD_cons_succ]))
    ((repeat' (first | (with_reducible apply And.intro) | intro _)); all_goals (first | exact trivial | (with_reducible assumption) | (show (_ : List Blk) = _; rfl) | (first | exact trivial | (with_reducible assumption) | omega | (split <;> omega) | (split <;> split <;> omega)) | skip); all_goals (try (refine ⟨rfl, (by first | exact Nat.le_refl _ | exact Nat.le_of_ble_eq_true rfl), rfl, rfl, ?_, (by repeat' (first | exact trivial | rfl | apply And.intro)), rfl, rfl⟩)))
    all_goals (first | omega | exact sameA_refl _ | trace_state)
end Go.Proofs.Ytgogccconmlkiaa
