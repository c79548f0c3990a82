/- The text of goats: the spec; what goats are plain. -/
import Derived.Test.YtplnfdgokpgbcaaDoorFen
namespace Go.Proofs.YtplnfdgokpgbcaaDoor
open Go Go.Eng
set_option linter.unusedSimpArgs false
set_option linter.unusedVariables false
set_option maxRecDepth 100000
set_option maxHeartbeats 4000000

theorem len7 {s : List Int} (h : s.length = 7) : ∃ a b c d e f g, s = [a, b, c, d, e, f, g] := by
  match s, h with
  | [a, b, c, d, e, f, g], _ => exact ⟨a, b, c, d, e, f, g, rfl⟩
/-- A goat's numbers are plain. -/
def plG (g : List Int) : Bool := decide ((-1 ≤ g.getD 4 0 ∧ g.getD 4 0 ≤ 200) ∧ (0 ≤ g.getD 5 0 ∧ g.getD 5 0 ≤ 100) ∧ (0 ≤ g.getD 6 0 ∧ g.getD 6 0 ≤ 1) ∧ (0 ≤ g.getD 4 0 ∨ (g.getD 2 0 = 0 ∧ g.getD 3 0 = 0)))
theorem plG_iff {a b c d e f g : Int} : plG [a, b, c, d, e, f, g] = true ↔ (-1 ≤ e ∧ e ≤ 200) ∧ (0 ≤ f ∧ f ≤ 100) ∧ (0 ≤ g ∧ g ≤ 1) ∧ (0 ≤ e ∨ (c = 0 ∧ d = 0)) := decide_eq_true_iff
def plGS : Fun
  | [.pw 0 .goat], [.c .goat g] => some (.b (plG g), [.c .goat g], [])
  | _, _ => .none
set_option maxRecDepth 100000 in
theorem s_l02Plain : Sound Tryd.prog 82 plGS := by
  intro args M r M' vs h hvs
  unfold plGS at h
  split at h
  case h_2 => cases h
  rename_i g
  cases h
  refine SpecOK.assume fun hA hM => ?_
  have htb := (TbOk.cons s_l00In Tryd.func74 rfl rfl (TbOk.nil : TbOk Tryd.prog tb0))
  refine SpecOK.of_goes [0] Tryd.func82 rfl ?_
  obtain ⟨a, b, c, d, e, f, q, rfl⟩ := len7 hA.1
  have hc := hM.1 2 c rfl
  have hd := hM.1 3 d rfl
  have he := hM.1 4 e rfl
  have hf := hM.1 5 f rfl
  have hq := hM.1 6 q rfl
  change -128 ≤ c ∧ c ≤ 127 at hc; change -128 ≤ d ∧ d ≤ 127 at hd; change -32768 ≤ e ∧ e ≤ 32767 at he; change -32768 ≤ f ∧ f ≤ 32767 at hf; change -128 ≤ q ∧ q ≤ 127 at hq
  clear hA hM
  refine Goes.tree Γ_ok htb 1000 false false Tryd.func82 rfl ?_
  ((try simp only [decide_eq_true_eq, decide_eq_false_iff_not, Bool.not_eq_true', Bool.not_eq_false', Bool.not_true, Bool.not_false, Bool.and_eq_true, Bool.or_eq_true, bne_iff_ne, beq_iff_eq, ne_eq]); (try simp only [rng, lo, hi, mnI, mxI, Int.toNat_natCast, Sg.n, Nat.mul_one, Nat.zero_add, Nat.add_zero, Nat.reduceAdd, List.getD_cons_zero, List.getD_cons_succ]))
  ((repeat' (first | (with_reducible apply And.intro) | intro _)); all_goals (first | exact trivial | (with_reducible assumption) | (show (_ : List Blk) = _; rfl) | (first | exact trivial | (with_reducible assumption) | omega | (split <;> omega) | (split <;> split <;> omega)) | skip); all_goals (try (refine ⟨rfl, (by first | exact Nat.le_refl _ | exact Nat.le_of_ble_eq_true rfl), rfl, rfl, ?_, (by repeat' (first | exact trivial | rfl | apply And.intro)), rfl, rfl⟩)))
  all_goals (try omega)
  all_goals (first
    | exact plG_iff.2 (by omega)
    | (show plG [a, b, c, d, e, f, q] = false; rw [← Bool.not_eq_true, plG_iff]; omega)
    | (show plG [a, b, c, d, e, f, q] = decide ([c, d] = [0, 0]); rw [Bool.eq_iff_iff, plG_iff, decide_eq_true_eq]; simp only [List.cons.injEq, and_true]; omega)
    | trace_state)
def plVS : Fun
  | [.ag .goat g], [] => some (.b (plG g), [], [])
  | _, _ => .none
set_option maxRecDepth 100000 in
theorem s_isGoat : Sound Tryd.prog 45 plVS := by
  intro args M r M' vs h hvs
  unfold plVS at h
  split at h
  case h_2 => cases h
  rename_i g
  cases h
  refine SpecOK.assume fun hA hM => ?_
  have htb := (TbOk.cons s_within Tryd.func79 rfl rfl (TbOk.nil : TbOk Tryd.prog tb0))
  refine SpecOK.of_goes [] Tryd.func45 rfl ?_
  obtain ⟨a, b, c, d, e, f, q, rfl⟩ := len7 hA.1
  obtain ⟨ha, hb, hc, hd, he, hf, hq, -⟩ := hA.2.1
  change -128 ≤ c ∧ c ≤ 127 at hc; change -128 ≤ d ∧ d ≤ 127 at hd; change -32768 ≤ e ∧ e ≤ 32767 at he; change -32768 ≤ f ∧ f ≤ 32767 at hf; change -128 ≤ q ∧ q ≤ 127 at hq
  clear hA hM
  refine Goes.tree Γ_ok htb 1000 false false Tryd.func45 rfl ?_
  ((try simp only [decide_eq_true_eq, decide_eq_false_iff_not, Bool.not_eq_true', Bool.not_eq_false', Bool.not_true, Bool.not_false, Bool.and_eq_true, Bool.or_eq_true, bne_iff_ne, beq_iff_eq, ne_eq]); (try simp only [rng, lo, hi, mnI, mxI, Int.toNat_natCast, Sg.n, Nat.mul_one, Nat.zero_add, Nat.add_zero, Nat.reduceAdd, List.getD_cons_zero, List.getD_cons_succ]))
  ((repeat' (first | (with_reducible apply And.intro) | intro _)); all_goals (first | exact trivial | (with_reducible assumption) | (show (_ : List Blk) = _; rfl) | (first | exact trivial | (with_reducible assumption) | omega | (split <;> omega) | (split <;> split <;> omega)) | skip); all_goals (try (refine ⟨rfl, (by first | exact Nat.le_refl _ | exact Nat.le_of_ble_eq_true rfl), rfl, rfl, ?_, (by repeat' (first | exact trivial | rfl | apply And.intro)), rfl, rfl⟩)))
  all_goals (try omega)
  all_goals (first
    | exact plG_iff.2 (by omega)
    | (show plG [a, b, c, d, e, f, q] = false; rw [← Bool.not_eq_true, plG_iff]; omega)
    | (show plG [a, b, c, d, e, f, q] = decide ([c, d] = [0, 0]); rw [Bool.eq_iff_iff, plG_iff, decide_eq_true_eq]; simp only [List.cons.injEq, and_true]; omega)
    | trace_state)

/-- A goat that cannot be told. -/
def nogG (g : List Int) : Bool := !(inF g && inF (g.drop 2) && plG g)
theorem nog_iff {a b c d e f q : Int} : nogG [a, b, c, d, e, f, q] = false ↔ (0 ≤ a ∧ a ≤ 9 ∧ 0 ≤ b ∧ b ≤ 9) ∧ (0 ≤ c ∧ c ≤ 9 ∧ 0 ≤ d ∧ d ≤ 9) ∧ plG [a, b, c, d, e, f, q] = true := by
  unfold nogG
  rw [Bool.not_eq_false', Bool.and_eq_true, Bool.and_eq_true, inF_iff, inF_iff]
  exact and_assoc
def nogS : Fun
  | [.ag .goat g], [] => some (.b (nogG g), [], [])
  | _, _ => .none
set_option maxRecDepth 100000 in
theorem s_goa1 : Sound Tryd.prog 43 nogS := by
  intro args M r M' vs h hvs
  unfold nogS at h
  split at h
  case h_2 => cases h
  rename_i g
  cases h
  refine SpecOK.assume fun hA hM => ?_
  have htb := (TbOk.cons s_isSpot Tryd.func44 rfl rfl (TbOk.cons s_isGoat Tryd.func45 rfl rfl (TbOk.nil : TbOk Tryd.prog tb0)))
  refine SpecOK.of_goes [] Tryd.func43 rfl ?_
  obtain ⟨a, b, c, d, e, f, q, rfl⟩ := len7 hA.1
  clear hA hM
  have e1 : inF (List.take 2 (List.drop 0 [a, b, c, d, e, f, q])) = inF [a, b, c, d, e, f, q] := rfl
  have e2 : inF (List.take 2 (List.drop 2 [a, b, c, d, e, f, q])) = inF ([a, b, c, d, e, f, q].drop 2) := rfl
  refine Goes.tree Γ_ok htb 1000 false false Tryd.func43 rfl ?_
  ((try simp only [decide_eq_true_eq, decide_eq_false_iff_not, Bool.not_eq_true', Bool.not_eq_false', Bool.not_true, Bool.not_false, Bool.and_eq_true, Bool.or_eq_true, bne_iff_ne, beq_iff_eq, ne_eq]); (try simp only [rng, lo, hi, mnI, mxI, Int.toNat_natCast, Sg.n, Nat.mul_one, Nat.zero_add, Nat.add_zero, Nat.reduceAdd, List.getD_cons_zero, List.getD_cons_succ, e1, e2]))
  ((repeat' (first | (with_reducible apply And.intro) | intro _)); all_goals (first | exact trivial | (with_reducible assumption) | (show (_ : List Blk) = _; rfl) | (first | exact trivial | (with_reducible assumption) | omega | (split <;> omega) | (split <;> split <;> omega)) | skip); all_goals (try (refine ⟨rfl, (by first | exact Nat.le_refl _ | exact Nat.le_of_ble_eq_true rfl), rfl, rfl, ?_, (by repeat' (first | exact trivial | rfl | apply And.intro)), rfl, rfl⟩)))
  · rename_i h
    show nogG _ = true
    unfold nogG; rw [h]; rfl
  · rename_i h1 h2
    show nogG _ = true
    unfold nogG; rw [h1, h2]; rfl
  · rename_i h1 h2
    show nogG _ = !plG _
    unfold nogG; rw [h1, h2]; rfl
def idxOutGS : Fun
  | [.fs .goat rows, .fn 43 []], [] => some (.i .i64 (findI nogG rows), [], [True])
  | _, _ => .none
set_option maxRecDepth 100000 in
theorem s_idxOutG : Sound Tryd.prog 85 idxOutGS := by
  intro args M r M' vs h hvs
  unfold idxOutGS at h
  split at h
  case h_2 => cases h
  rename_i rows
  cases h
  refine SpecOK.assume fun hA hM => ?_
  have htb := (TbOk.cons s_goa1 Tryd.func43 rfl rfl (TbOk.nil : TbOk Tryd.prog tb0))
  refine SpecOK.of_goes [] Tryd.func85 rfl ?_
  have hl : rows.length ≤ maxLen := hA.1
  have hm : maxLen = 9223372036854775807 := rfl
  obtain ⟨hc, -⟩ := hvs
  
  clear hA hM
  refine Goes.tree Γ_ok htb 1000 false false Tryd.func85 rfl ?_
  refine ⟨?_⟩
  refine Goes.loopR (fun i : Nat => rows.length - i) (fun i => i ≤ rows.length ∧ ∀ j, j < i → nogG (rows.getD j []) = false) (fun i => (.fs .goat rows :: .fn 43 [] :: .any :: .any :: .any :: .any :: .any :: .i .i64 (rows.length:Int) :: .i .i64 (i:Int) :: .any :: .any :: .any :: .any :: .any :: .any :: .any :: .any :: .any :: .any :: [])) (fun _ => []) 0 [] ⟨by omega, fun j hj => by omega⟩ ⟨rfl, rfl, rfl, (by repeat' (first | exact trivial | rfl | apply And.intro)), (by repeat' (first | exact trivial | rfl | apply And.intro)), rfl, rfl, rfl⟩ fun i ⟨hle, hno⟩ ih => ?_
  refine Goes.tree Γ_ok htb 1000 false false Tryd.func85 rfl ?_
  ((try simp only [decide_eq_true_eq, decide_eq_false_iff_not, Bool.not_eq_true', Bool.not_eq_false', Bool.not_true, Bool.not_false, Bool.and_eq_true, Bool.or_eq_true, bne_iff_ne, beq_iff_eq, ne_eq]); (try simp only [rng, lo, hi, mnI, mxI, Int.toNat_natCast, Sg.n, Nat.mul_one, Nat.zero_add, Nat.add_zero, Nat.reduceAdd, List.getD_cons_zero, List.getD_cons_succ]))
  ((repeat' (first | (with_reducible apply And.intro) | intro _)); all_goals (first | exact trivial | (with_reducible assumption) | (show (_ : List Blk) = _; rfl) | (first | exact trivial | (with_reducible assumption) | omega | (split <;> omega) | (split <;> split <;> omega)) | skip); all_goals (try (refine ⟨rfl, (by first | exact Nat.le_refl _ | exact Nat.le_of_ble_eq_true rfl), rfl, rfl, ?_, (by repeat' (first | exact trivial | rfl | apply And.intro)), rfl, rfl⟩)))
  · rename_i h1 h2
    rw [findI_some (by omega) h2 hno]
    exact sameA_refl _
  · rename_i h1 h2
    refine ⟨ih (i + 1) ⟨by omega, fun j hj => ?_⟩ (by omega) [] _ _ ⟨rfl, rfl, rfl, (by repeat' (first | exact trivial | rfl | apply And.intro)), (by repeat' (first | exact trivial | rfl | apply And.intro)), rfl, rfl, rfl⟩⟩
    by_cases hji : j = i
    · subst hji; exact h2
    · exact hno j (by omega)
  · obtain rfl : i = rows.length := by omega
    rw [findI_none hno]
    exact sameA_refl _

def hasOutGS : Fun
  | [.fs .goat rows, .fn 43 []], [] => some (.b (rows.any nogG), [], [True])
  | _, _ => .none
set_option maxRecDepth 100000 in
theorem s_hasOutG : Sound Tryd.prog 42 hasOutGS := by
  intro args M r M' vs h hvs
  unfold hasOutGS at h
  split at h
  case h_2 => cases h
  rename_i rows
  cases h
  refine SpecOK.assume fun hA hM => ?_
  have htb := (TbOk.cons s_idxOutG Tryd.func85 rfl rfl (TbOk.nil : TbOk Tryd.prog tb0))
  refine SpecOK.of_goes [] Tryd.func42 rfl ?_
  obtain ⟨hc, -⟩ := hvs
  refine Goes.tree Γ_ok htb 1000 false false Tryd.func42 rfl ?_
  ((try simp only [decide_eq_true_eq, decide_eq_false_iff_not, Bool.not_eq_true', Bool.not_eq_false', Bool.not_true, Bool.not_false, Bool.and_eq_true, Bool.or_eq_true, bne_iff_ne, beq_iff_eq, ne_eq]); (try simp only [rng, lo, hi, mnI, mxI, Int.toNat_natCast, Sg.n, Nat.mul_one, Nat.zero_add, Nat.add_zero, Nat.reduceAdd, List.getD_cons_zero, List.getD_cons_succ]))
  ((repeat' (first | (with_reducible apply And.intro) | intro _)); all_goals (first | exact trivial | (with_reducible assumption) | (show (_ : List Blk) = _; rfl) | (first | exact trivial | (with_reducible assumption) | omega | (split <;> omega) | (split <;> split <;> omega)) | skip); all_goals (try (refine ⟨rfl, (by first | exact Nat.le_refl _ | exact Nat.le_of_ble_eq_true rfl), rfl, rfl, ?_, (by repeat' (first | exact trivial | rfl | apply And.intro)), rfl, rfl⟩)))
  rw [← findI_any]
  exact sameA_refl _

theorem told_bad {rows : List (List Int)} {i : Nat} (hi : i < rows.length) (h : ¬ nogG (rows.getD i []) = false) : decide (rows.length ≤ 20 ∧ rows.any nogG = false) = false := by
  refine decide_eq_false fun g => ?_
  have := List.any_eq_false.1 g.2 _ (getD_memT hi)
  exact h (by simpa using this)
theorem told_all {rows : List (List Int)} (h : ∀ j, j < rows.length → nogG (rows.getD j []) = false) : rows.any nogG = false := by
  rw [List.any_eq_false]
  intro s hs
  obtain ⟨j, hj, rfl⟩ := List.mem_iff_getElem.1 hs
  have := h j hj
  rw [List.getD_eq_getElem?_getD, List.getElem?_eq_getElem hj] at this
  simpa using this
def toldS : Fun
  | [.fs .goat rows], [] => some (.b (decide (rows.length ≤ 20 ∧ rows.any nogG = false)), [], [rows.length ≤ 1073741824])
  | _, _ => .none
set_option maxRecDepth 100000 in
theorem s_l02Told : Sound Tryd.prog 39 toldS := by
  intro args M r M' vs h hvs
  unfold toldS at h
  split at h
  case h_2 => cases h
  rename_i rows
  cases h
  refine SpecOK.assume fun hA hM => ?_
  have htb := (TbOk.cons s_l02Plain Tryd.func82 rfl rfl (TbOk.cons s_l00In Tryd.func74 rfl rfl (TbOk.nil : TbOk Tryd.prog tb0)))
  refine SpecOK.of_goes [] Tryd.func39 rfl ?_
  obtain ⟨hl, -⟩ := hvs
  have hR : RowsOk .goat rows := hA.2.1
  clear hA hM
  refine Goes.tree Γ_ok htb 1000 false false Tryd.func39 rfl ?_
  ((try simp only [decide_eq_true_eq, decide_eq_false_iff_not, Bool.not_eq_true', Bool.not_eq_false', Bool.not_true, Bool.not_false, Bool.and_eq_true, Bool.or_eq_true, bne_iff_ne, beq_iff_eq, ne_eq]); (try simp only [rng, lo, hi, mnI, mxI, Int.toNat_natCast, Sg.n, Nat.mul_one, Nat.zero_add, Nat.add_zero, Nat.reduceAdd, List.getD_cons_zero, List.getD_cons_succ]))
  ((repeat' (first | (with_reducible apply And.intro) | intro _)); all_goals (first | exact trivial | (with_reducible assumption) | (show (_ : List Blk) = _; rfl) | (first | exact trivial | (with_reducible assumption) | omega | (split <;> omega) | (split <;> split <;> omega)) | skip); all_goals (try (refine ⟨rfl, (by first | exact Nat.le_refl _ | exact Nat.le_of_ble_eq_true rfl), rfl, rfl, ?_, (by repeat' (first | exact trivial | rfl | apply And.intro)), rfl, rfl⟩)))
  refine ⟨?_⟩
  refine Goes.loopR (fun i : Nat => rows.length - i) (fun i => i ≤ rows.length ∧ ∀ j, j < i → nogG (rows.getD j []) = false) (fun i => (.fs .goat rows :: .any :: .any :: .i .i64 (i:Int) :: .any :: .any :: .any :: .any :: .any :: .any :: .any :: .any :: .any :: .any :: .any :: .any :: .any :: .any :: .any :: .any :: .any :: .any :: .any :: .any :: .any :: .any :: .any :: .any :: .any :: .any :: .any :: .any :: .any :: .any :: .any :: .any :: .any :: .any :: .any :: .any :: .any :: .any :: .any :: .any :: .any :: .any :: .any :: .any :: .any :: .any :: .any :: .any :: [])) (fun _ => []) 0 [] ⟨Nat.zero_le _, fun j hj => by omega⟩ ⟨rfl, rfl, rfl, (by repeat' (first | exact trivial | rfl | apply And.intro)), (by repeat' (first | exact trivial | rfl | apply And.intro)), rfl, rfl, rfl⟩ fun i ⟨hib, hno⟩ ih => ?_
  by_cases hlt : i < rows.length
  · have hm := getD_memT hlt
    obtain ⟨h7, hok⟩ := hR _ hm
    obtain ⟨a, b, c, d, e, f, q, e3⟩ := len7 h7
    rw [e3] at hok
    obtain ⟨ha, hb, hc, hd, -⟩ := hok
    change -128 ≤ a ∧ a ≤ 127 at ha; change -128 ≤ b ∧ b ≤ 127 at hb; change -128 ≤ c ∧ c ≤ 127 at hc; change -128 ≤ d ∧ d ≤ 127 at hd
    refine Goes.tree Γ_ok htb 1000 false false Tryd.func39 rfl ?_
    ((try simp only [decide_eq_true_eq, decide_eq_false_iff_not, Bool.not_eq_true', Bool.not_eq_false', Bool.not_true, Bool.not_false, Bool.and_eq_true, Bool.or_eq_true, bne_iff_ne, beq_iff_eq, ne_eq]); (try simp only [rng, lo, hi, mnI, mxI, Int.toNat_natCast, Sg.n, Nat.mul_one, Nat.zero_add, Nat.add_zero, Nat.reduceAdd, List.getD_cons_zero, List.getD_cons_succ, e3]))
    ((repeat' (first | (with_reducible apply And.intro) | intro _)); all_goals (first | exact trivial | (with_reducible assumption) | (show (_ : List Blk) = _; rfl) | (first | exact trivial | (with_reducible assumption) | omega | (split <;> omega) | (split <;> split <;> omega)) | skip); all_goals (try (refine ⟨rfl, (by first | exact Nat.le_refl _ | exact Nat.le_of_ble_eq_true rfl), rfl, rfl, ?_, (by repeat' (first | exact trivial | rfl | apply And.intro)), rfl, rfl⟩)))
    all_goals (try omega)
    all_goals (try (
      refine told_bad hlt fun g => ?_
      rw [e3, nog_iff] at g
      first | omega | (obtain ⟨-, -, g⟩ := g; simp_all; done)))
    refine ⟨ih (i + 1) ⟨by omega, fun j hj => ?_⟩ (by omega) [] _ _ ⟨rfl, rfl, rfl, (by repeat' (first | exact trivial | rfl | apply And.intro)), (by repeat' (first | exact trivial | rfl | apply And.intro)), rfl, rfl, rfl⟩⟩
    by_cases hji : j = i
    · subst hji; rw [e3, nog_iff]; exact ⟨by omega, by omega, by assumption⟩
    · exact hno j (by omega)
  · obtain rfl : i = rows.length := by omega
    clear ih
    refine Goes.tree Γ_ok htb 1000 false false Tryd.func39 rfl ?_
    ((try simp only [decide_eq_true_eq, decide_eq_false_iff_not, Bool.not_eq_true', Bool.not_eq_false', Bool.not_true, Bool.not_false, Bool.and_eq_true, Bool.or_eq_true, bne_iff_ne, beq_iff_eq, ne_eq]); (try simp only [rng, lo, hi, mnI, mxI, Int.toNat_natCast, Sg.n, Nat.mul_one, Nat.zero_add, Nat.add_zero, Nat.reduceAdd, List.getD_cons_zero, List.getD_cons_succ]))
    ((repeat' (first | (with_reducible apply And.intro) | intro _)); all_goals (first | exact trivial | (with_reducible assumption) | (show (_ : List Blk) = _; rfl) | (first | exact trivial | (with_reducible assumption) | omega | (split <;> omega) | (split <;> split <;> omega)) | skip); all_goals (try (refine ⟨rfl, (by first | exact Nat.le_refl _ | exact Nat.le_of_ble_eq_true rfl), rfl, rfl, ?_, (by repeat' (first | exact trivial | rfl | apply And.intro)), rfl, rfl⟩)))
    have hall := told_all hno
    show decide _ = decide _
    rw [hall, Bool.eq_iff_iff, decide_eq_true_eq, decide_eq_true_eq]
    exact ⟨fun h => by have := h.1; omega, fun h => ⟨by omega, rfl⟩⟩

/-! The whole text. -/
set_option maxRecDepth 100000 in
theorem s_l02Spot : Sound Tryd.prog 83 textS := by
  intro args M r M' vs h hvs
  unfold textS at h
  split at h
  case h_2 => cases h
  rename_i s
  cases h
  refine SpecOK.assume fun hA hM => ?_
  have htb := (TbOk.cons s_dec2 Tryd.func76 rfl rfl (TbOk.nil : TbOk Tryd.prog tb0))
  refine SpecOK.of_goes [] Tryd.func83 rfl ?_
  obtain ⟨a, b, rfl⟩ := len2 hA.1
  obtain ⟨hs, -⟩ := hvs
  have hg := inF_iff.1 hs
  have h1 := dig_len a.toNat
  have h2 := dig_len b.toNat
  simp only [List.getD_cons_zero, List.getD_cons_succ] at hg
  clear hA hM
  refine Goes.tree Γ_ok htb 1000 false false Tryd.func83 rfl ?_
  ((try simp only [decide_eq_true_eq, decide_eq_false_iff_not, Bool.not_eq_true', Bool.not_eq_false', Bool.not_true, Bool.not_false, Bool.and_eq_true, Bool.or_eq_true, bne_iff_ne, beq_iff_eq, ne_eq]); (try simp only [rng, lo, hi, mnI, mxI, Int.toNat_natCast, Sg.n, Nat.mul_one, Nat.zero_add, Nat.add_zero, Nat.reduceAdd, List.getD_cons_zero, List.getD_cons_succ]))
  ((repeat' (first | (with_reducible apply And.intro) | intro _)); all_goals (first | exact trivial | (with_reducible assumption) | (show (_ : List Blk) = _; rfl) | (first | exact trivial | (with_reducible assumption) | omega | (split <;> omega) | (split <;> split <;> omega)) | skip); all_goals (try (refine ⟨rfl, (by first | exact Nat.le_refl _ | exact Nat.le_of_ble_eq_true rfl), rfl, rfl, ?_, (by repeat' (first | exact trivial | rfl | apply And.intro)), rfl, rfl⟩)))
  all_goals (first | omega | exact sameA_refl _ | (show _ ≤ 9223372036854775807; simp only [ByteArray.size_append]; first | (show _ + 1 ≤ _; omega) | (show _ + 1 + _ ≤ _; omega)) | trace_state)
/-- The words of a goat, as the spec adds them. -/
def ropT (g : List Int) : ByteArray := if g.getD 4 0 < 0 then ⟨#[102, 114, 101, 101, 32]⟩ else spT (g.drop 2) ++ ⟨#[126]⟩ ++ digS (g.getD 4 0).toNat ++ ⟨#[32]⟩
def likT (g : List Int) : ByteArray := if g.getD 6 0 = 0 then ⟨#[32, 114, 105, 99, 104, 10]⟩ else ⟨#[32, 110, 101, 97, 114, 10]⟩
def goT (rows : List (List Int)) : Nat → ByteArray
  | 0 => ⟨#[]⟩
  | i + 1 => goT rows i ++ (spT (rows.getD i []) ++ ⟨#[32]⟩) ++ ropT (rows.getD i []) ++ digS ((rows.getD i []).getD 5 0).toNat ++ likT (rows.getD i [])
theorem szl (l : List UInt8) : (ByteArray.mk l.toArray).size = l.length := by simp [ByteArray.size]
theorem goT_len {rows : List (List Int)} (h : rows.any nogG = false) (h7 : ∀ g ∈ rows, g.length = 7) : ∀ i, i ≤ rows.length → (goT rows i).size ≤ 1000 * i := by
  intro i
  induction i with
  | zero => intro _; exact Nat.le_refl 0
  | succ i ih =>
    intro hi
    have h1 := ih (by omega)
    have hm := getD_memT (by omega : i < rows.length)
    obtain ⟨a, b, c, d, e, f, q, e3⟩ := len7 (h7 _ hm)
    have hn := List.any_eq_false.1 h _ hm
    have hn : nogG (rows.getD i []) = false := by simpa using hn
    rw [e3] at hn
    obtain ⟨g1, g2, g3⟩ := nog_iff.1 hn
    have g4 := plG_iff.1 g3
    have s1 : (spT (rows.getD i [])).size ≤ 21 := spT_len (by rw [e3]; exact inF_iff.2 g1)
    have s2 : (spT ((rows.getD i []).drop 2)).size ≤ 21 := spT_len (by rw [e3]; exact inF_iff.2 g2)
    have d1 := dig_len ((rows.getD i []).getD 4 0).toNat
    have d2 := dig_len ((rows.getD i []).getD 5 0).toNat
    have l1 : (ropT (rows.getD i [])).size ≤ 300 := by
      unfold ropT
      rw [e3] at *
      simp only [List.getD_cons_zero, List.getD_cons_succ] at *
      split
      · show 5 ≤ _; omega
      · simp only [ByteArray.size_append, szb]; omega
    have l2 : (likT (rows.getD i [])).size = 6 := by unfold likT; split <;> rfl
    unfold goT
    simp only [ByteArray.size_append, szb]
    rw [e3] at *
    simp only [List.getD_cons_zero, List.getD_cons_succ] at *
    omega
def l02TextS : Fun
  | [.fs .goat rows], [] => some (.s (goT rows rows.length), [], [rows.length ≤ 20 ∧ rows.any nogG = false])
  | _, _ => .none
set_option maxRecDepth 100000 in
theorem s_l02Text : Sound Tryd.prog 40 l02TextS := by
  intro args M r M' vs h hvs
  unfold l02TextS at h
  split at h
  case h_2 => cases h
  rename_i rows
  cases h
  refine SpecOK.assume fun hA hM => ?_
  have htb := (TbOk.cons s_l02Spot Tryd.func83 rfl rfl (TbOk.cons s_dec5 Tryd.func76 rfl rfl (TbOk.nil : TbOk Tryd.prog tb0)))
  refine SpecOK.of_goes [] Tryd.func40 rfl ?_
  obtain ⟨⟨hl, hs⟩, -⟩ := hvs
  have hR : RowsOk .goat rows := hA.2.1
  have h7 : ∀ g ∈ rows, g.length = 7 := fun g hg => (hR g hg).1
  clear hA hM
  have hgl := goT_len hs h7
  refine Goes.tree Γ_ok htb 1000 false false Tryd.func40 rfl ?_
  ((try simp only [decide_eq_true_eq, decide_eq_false_iff_not, Bool.not_eq_true', Bool.not_eq_false', Bool.not_true, Bool.not_false, Bool.and_eq_true, Bool.or_eq_true, bne_iff_ne, beq_iff_eq, ne_eq]); (try simp only [rng, lo, hi, mnI, mxI, Int.toNat_natCast, Sg.n, Nat.mul_one, Nat.zero_add, Nat.add_zero, Nat.reduceAdd, List.getD_cons_zero, List.getD_cons_succ]))
  ((repeat' (first | (with_reducible apply And.intro) | intro _)); all_goals (first | exact trivial | (with_reducible assumption) | (show (_ : List Blk) = _; rfl) | (first | exact trivial | (with_reducible assumption) | omega | (split <;> omega) | (split <;> split <;> omega)) | skip); all_goals (try (refine ⟨rfl, (by first | exact Nat.le_refl _ | exact Nat.le_of_ble_eq_true rfl), rfl, rfl, ?_, (by repeat' (first | exact trivial | rfl | apply And.intro)), rfl, rfl⟩)))
  refine ⟨?_⟩
  refine Goes.loopR (fun i : Nat => rows.length - i) (fun i => i ≤ rows.length) (fun i => (.fs .goat rows :: .any :: .any :: .s (goT rows i) :: .i .i64 (i:Int) :: .any :: .any :: .any :: .any :: .any :: .any :: .any :: .any :: .any :: .any :: .any :: .any :: .any :: .any :: .any :: .any :: .any :: .any :: .any :: .any :: .any :: .any :: .any :: .any :: .any :: .any :: .any :: .any :: .any :: .any :: .any :: .any :: .any :: .any :: .any :: .any :: .any :: .any :: .any :: .any :: .any :: .any :: .any :: .any :: .any :: .any :: .any :: .any :: [])) (fun _ => []) 0 [] (Nat.zero_le _) ⟨rfl, rfl, rfl, (by repeat' (first | exact trivial | rfl | apply And.intro)), (by repeat' (first | exact trivial | rfl | apply And.intro)), rfl, rfl, rfl⟩ fun i hib ih => ?_
  have hgi := hgl i hib
  by_cases hlt : i < rows.length
  · have hm := getD_memT hlt
    obtain ⟨a, b, c, d, e, f, q, e3⟩ := len7 (h7 _ hm)
    have hn := List.any_eq_false.1 hs _ hm
    have hn : nogG (rows.getD i []) = false := by simpa using hn
    rw [e3] at hn
    obtain ⟨g1, g2, g3⟩ := nog_iff.1 hn
    have g4 := plG_iff.1 g3
    have ek : goT rows (i + 1) = goT rows i ++ (spT (rows.getD i []) ++ ⟨#[32]⟩) ++ ropT (rows.getD i []) ++ digS ((rows.getD i []).getD 5 0).toNat ++ likT (rows.getD i []) := rfl
    have er : ropT [a, b, c, d, e, f, q] = if e < 0 then ⟨#[102, 114, 101, 101, 32]⟩ else spT [c, d, e, f, q] ++ ⟨#[126]⟩ ++ digS e.toNat ++ ⟨#[32]⟩ := rfl
    have el : likT [a, b, c, d, e, f, q] = if q = 0 then ⟨#[32, 114, 105, 99, 104, 10]⟩ else ⟨#[32, 110, 101, 97, 114, 10]⟩ := rfl
    have e5 : [a, b, c, d, e, f, q].getD 5 0 = f := rfl
    have ih := ih (i + 1)
    rw [ek, e3, er, el, e5] at ih
    have t1 : spT (List.take 2 (List.drop 0 [a, b, c, d, e, f, q])) = spT [a, b, c, d, e, f, q] := rfl
    have t2 : spT (List.take 2 (List.drop 2 [a, b, c, d, e, f, q])) = spT [c, d, e, f, q] := rfl
    have i1 : inF (List.take 2 (List.drop 0 [a, b, c, d, e, f, q])) = true := inF_iff.2 g1
    have i2 : inF (List.take 2 (List.drop 2 [a, b, c, d, e, f, q])) = true := inF_iff.2 g2
    have s1 : (spT [a, b, c, d, e, f, q]).size ≤ 21 := spT_len (inF_iff.2 g1)
    have s2 : (spT [c, d, e, f, q]).size ≤ 21 := spT_len (inF_iff.2 g2)
    have d1 := dig_len e.toNat
    have d2 := dig_len f.toNat
    have z5 : (ByteArray.mk #[102, 114, 101, 101, 32]).size = 5 := rfl
    have z6 : (ByteArray.mk #[32, 114, 105, 99, 104, 10]).size = 6 := rfl
    have z6' : (ByteArray.mk #[32, 110, 101, 97, 114, 10]).size = 6 := rfl
    by_cases he : e < 0
    · rw [if_pos he] at ih
      refine Goes.tree Γ_ok htb 1000 false false Tryd.func40 rfl ?_
      ((try simp only [decide_eq_true_eq, decide_eq_false_iff_not, Bool.not_eq_true', Bool.not_eq_false', Bool.not_true, Bool.not_false, Bool.and_eq_true, Bool.or_eq_true, bne_iff_ne, beq_iff_eq, ne_eq]); (try simp only [rng, lo, hi, mnI, mxI, Int.toNat_natCast, Sg.n, Nat.mul_one, Nat.zero_add, Nat.add_zero, Nat.reduceAdd, List.getD_cons_zero, List.getD_cons_succ, e3, t1, t2, i1, i2]))
      ((repeat' (first | (with_reducible apply And.intro) | intro _)); all_goals (first | exact trivial | (with_reducible assumption) | (show (_ : List Blk) = _; rfl) | (first | exact trivial | (with_reducible assumption) | omega | (split <;> omega) | (split <;> split <;> omega)) | skip); all_goals (try (refine ⟨rfl, (by first | exact Nat.le_refl _ | exact Nat.le_of_ble_eq_true rfl), rfl, rfl, ?_, (by repeat' (first | exact trivial | rfl | apply And.intro)), rfl, rfl⟩)))
      all_goals (try first | omega | (show _ ≤ 9223372036854775807; simp only [ByteArray.size_append, szb, z5, z6, z6']; omega))
      · rename_i h
        rw [if_pos h] at ih
        exact ⟨ih (by omega) (by omega) [] _ _ ⟨rfl, rfl, rfl, (by repeat' (first | exact trivial | rfl | apply And.intro)), (by repeat' (first | exact trivial | rfl | apply And.intro)), rfl, rfl, rfl⟩⟩
      · rename_i h
        rw [if_neg h] at ih
        exact ⟨ih (by omega) (by omega) [] _ _ ⟨rfl, rfl, rfl, (by repeat' (first | exact trivial | rfl | apply And.intro)), (by repeat' (first | exact trivial | rfl | apply And.intro)), rfl, rfl, rfl⟩⟩
    · rw [if_neg he] at ih
      refine Goes.tree Γ_ok htb 1000 false false Tryd.func40 rfl ?_
      ((try simp only [decide_eq_true_eq, decide_eq_false_iff_not, Bool.not_eq_true', Bool.not_eq_false', Bool.not_true, Bool.not_false, Bool.and_eq_true, Bool.or_eq_true, bne_iff_ne, beq_iff_eq, ne_eq]); (try simp only [rng, lo, hi, mnI, mxI, Int.toNat_natCast, Sg.n, Nat.mul_one, Nat.zero_add, Nat.add_zero, Nat.reduceAdd, List.getD_cons_zero, List.getD_cons_succ, e3, t1, t2, i1, i2]))
      ((repeat' (first | (with_reducible apply And.intro) | intro _)); all_goals (first | exact trivial | (with_reducible assumption) | (show (_ : List Blk) = _; rfl) | (first | exact trivial | (with_reducible assumption) | omega | (split <;> omega) | (split <;> split <;> omega)) | skip); all_goals (try (refine ⟨rfl, (by first | exact Nat.le_refl _ | exact Nat.le_of_ble_eq_true rfl), rfl, rfl, ?_, (by repeat' (first | exact trivial | rfl | apply And.intro)), rfl, rfl⟩)))
      all_goals (try first | omega | (show _ ≤ 9223372036854775807; simp only [ByteArray.size_append, szb, z5, z6, z6']; omega))
      · rename_i h
        rw [if_pos h] at ih
        exact ⟨ih (by omega) (by omega) [] _ _ ⟨rfl, rfl, rfl, (by repeat' (first | exact trivial | rfl | apply And.intro)), (by repeat' (first | exact trivial | rfl | apply And.intro)), rfl, rfl, rfl⟩⟩
      · rename_i h
        rw [if_neg h] at ih
        exact ⟨ih (by omega) (by omega) [] _ _ ⟨rfl, rfl, rfl, (by repeat' (first | exact trivial | rfl | apply And.intro)), (by repeat' (first | exact trivial | rfl | apply And.intro)), rfl, rfl, rfl⟩⟩
  · obtain rfl : i = rows.length := by omega
    clear ih
    refine Goes.tree Γ_ok htb 1000 false false Tryd.func40 rfl ?_
    ((try simp only [decide_eq_true_eq, decide_eq_false_iff_not, Bool.not_eq_true', Bool.not_eq_false', Bool.not_true, Bool.not_false, Bool.and_eq_true, Bool.or_eq_true, bne_iff_ne, beq_iff_eq, ne_eq]); (try simp only [rng, lo, hi, mnI, mxI, Int.toNat_natCast, Sg.n, Nat.mul_one, Nat.zero_add, Nat.add_zero, Nat.reduceAdd, List.getD_cons_zero, List.getD_cons_succ]))
    ((repeat' (first | (with_reducible apply And.intro) | intro _)); all_goals (first | exact trivial | (with_reducible assumption) | (show (_ : List Blk) = _; rfl) | (first | exact trivial | (with_reducible assumption) | omega | (split <;> omega) | (split <;> split <;> omega)) | skip); all_goals (try (refine ⟨rfl, (by first | exact Nat.le_refl _ | exact Nat.le_of_ble_eq_true rfl), rfl, rfl, ?_, (by repeat' (first | exact trivial | rfl | apply And.intro)), rfl, rfl⟩)))
    exact sameA_refl _
def goaT (rows : List (List Int)) : ByteArray := if rows.length ≤ 20 ∧ rows.any nogG = false then goT rows rows.length else ⟨#[]⟩
def goaS : Fun
  | [.fs .goat rows], [] => some (.s (goaT rows), [], [rows.length ≤ 1073741824])
  | _, _ => .none
set_option maxRecDepth 100000 in
theorem s_specGoats : Sound Tryd.prog 13 goaS := by
  intro args M r M' vs h hvs
  unfold goaS at h
  split at h
  case h_2 => cases h
  rename_i rows
  cases h
  refine SpecOK.assume fun hA hM => ?_
  have htb := (TbOk.cons s_l02Told Tryd.func39 rfl rfl (TbOk.cons s_l02Text Tryd.func40 rfl rfl (TbOk.nil : TbOk Tryd.prog tb0)))
  refine SpecOK.of_goes [] Tryd.func13 rfl ?_
  obtain ⟨hl, -⟩ := hvs
  clear hA hM
  refine Goes.tree Γ_ok htb 1000 false false Tryd.func13 rfl ?_
  ((try simp only [decide_eq_true_eq, decide_eq_false_iff_not, Bool.not_eq_true', Bool.not_eq_false', Bool.not_true, Bool.not_false, Bool.and_eq_true, Bool.or_eq_true, bne_iff_ne, beq_iff_eq, ne_eq]); (try simp only [rng, lo, hi, mnI, mxI, Int.toNat_natCast, Sg.n, Nat.mul_one, Nat.zero_add, Nat.add_zero, Nat.reduceAdd, List.getD_cons_zero, List.getD_cons_succ]))
  ((repeat' (first | (with_reducible apply And.intro) | intro _)); all_goals (first | exact trivial | (with_reducible assumption) | (show (_ : List Blk) = _; rfl) | (first | exact trivial | (with_reducible assumption) | omega | (split <;> omega) | (split <;> split <;> omega)) | skip); all_goals (try (refine ⟨rfl, (by first | exact Nat.le_refl _ | exact Nat.le_of_ble_eq_true rfl), rfl, rfl, ?_, (by repeat' (first | exact trivial | rfl | apply And.intro)), rfl, rfl⟩)))
  · rename_i h
    rw [show goaT rows = ⟨#[]⟩ from if_neg h]; exact sameA_refl _
  · rename_i h
    exact h.2
  · rename_i h
    rw [show goaT rows = goT rows rows.length from if_pos h]; exact sameA_refl _
end Go.Proofs.YtplnfdgokpgbcaaDoor
