/- The way from a cell: the least of the cells that are one nearer, and so on. -/
import Derived.Test.YtfelemoefhbphaaDelW
namespace Go.Proofs.Ytfelemoefhbphaa
open Go Go.Eng
set_option linter.unusedSimpArgs false
set_option linter.unusedVariables false
set_option maxRecDepth 100000
set_option maxHeartbeats 4000000

def lessS (a b : List Int) : Bool := decide (a.getD 1 0 < b.getD 1 0 ∨ (a.getD 1 0 = b.getD 1 0 ∧ a.getD 0 0 < b.getD 0 0))
def cmpI (a b : List Int) : Int := if a.getD 1 0 ≠ b.getD 1 0 then a.getD 1 0 - b.getD 1 0 else a.getD 0 0 - b.getD 0 0
theorem cmp_less (a b : List Int) : cmpI a b < 0 ↔ lessS a b = true := by
  unfold cmpI lessS
  rw [decide_eq_true_eq]
  split <;> omega
/-- The least of the first i + 1. -/
def minK (rows : List (List Int)) : Nat → List Int
  | 0 => rows.getD 0 []
  | i + 1 => if cmpI (rows.getD (i + 1) []) (minK rows i) < 0 then rows.getD (i + 1) [] else minK rows i
def minW (rows : List (List Int)) : List Int := minK rows (rows.length - 1)
theorem minK_mem {rows : List (List Int)} : ∀ i, i < rows.length → minK rows i ∈ rows := by
  intro i
  induction i with
  | zero => intro h; exact getD_mem h
  | succ i ih =>
    intro h
    unfold minK
    split
    · exact getD_mem h
    · exact ih (by omega)
def cmpS : Fun
  | [.ag .spot a, .ag .spot b], [] => some (.i .i64 (cmpI a b), [], [])
  | _, _ => .none
set_option maxRecDepth 100000 in
theorem s_cmp : Sound Try.prog 129 cmpS := by
  intro args M r M' vs h hvs
  unfold cmpS at h
  split at h
  case h_2 => cases h
  rename_i a b
  cases h
  refine SpecOK.assume fun hA hM => ?_
  have htb := (TbOk.nil : TbOk Try.prog tb0)
  refine SpecOK.of_goes [] Try.func129 rfl ?_
  obtain ⟨a0, a1, rfl⟩ := len2 hA.1
  obtain ⟨b0, b1, rfl⟩ := len2 hA.2.2.1
  have h1 := hA.2.1
  have h2 := hA.2.2.2.1
  have hr : (-128 ≤ a0 ∧ a0 ≤ 127) ∧ (-128 ≤ a1 ∧ a1 ≤ 127) ∧ (-128 ≤ b0 ∧ b0 ≤ 127) ∧ (-128 ≤ b1 ∧ b1 ≤ 127) := by
    simp [cellsOk, Sg.flat, flats, CK.ok, rng, lo, hi] at h1 h2
    omega
  clear hA hM h1 h2
  refine Goes.tree Γ_ok htb 1000 false false Try.func129 rfl ?_
  ((try simp only [decide_eq_true_eq, decide_eq_false_iff_not, Bool.not_eq_true', Bool.not_eq_false', Bool.not_true, Bool.not_false, Bool.and_eq_true, Bool.or_eq_true, bne_iff_ne, beq_iff_eq, ne_eq]); (try simp only [rng, lo, hi, mnI, mxI, Int.toNat_natCast, Sg.n, Nat.mul_one, Nat.zero_add, Nat.add_zero, Nat.reduceAdd, List.getD_cons_zero, List.getD_cons_succ]))
  ((repeat' (first | (with_reducible apply And.intro) | intro _)); all_goals (first | exact trivial | (with_reducible assumption) | (show (_ : List Blk) = _; rfl) | (first | exact trivial | (with_reducible assumption) | omega | (split <;> omega) | (split <;> split <;> omega)) | skip); all_goals (try (refine ⟨rfl, (by first | exact Nat.le_refl _ | exact Nat.le_of_ble_eq_true rfl), rfl, rfl, ?_, (by repeat' (first | exact trivial | rfl | apply And.intro)), rfl, rfl⟩)))
  all_goals (try first | omega | (refine sameA_i ?_; unfold cmpI; simp [*]; done))
  all_goals trace_state

def minS : Fun
  | [.ow 0 n .spot 37, .fn 129 []], [.l .spot rows] => some (.ag .spot (minW rows), [.l .spot rows], [n = rows.length ∧ 0 < n ∧ n ≤ 1000000])
  | _, _ => .none
set_option maxRecDepth 100000 in
theorem s_minW : Sound Try.prog 125 minS := by
  intro args M r M' vs h hvs
  unfold minS at h
  split at h
  case h_2 => cases h
  rename_i n rows
  cases h
  refine SpecOK.assume fun hA hM => ?_
  have htb := (TbOk.cons s_cmp Try.func129 rfl rfl (TbOk.nil : TbOk Try.prog tb0))
  refine SpecOK.of_goes [0] Try.func125 rfl ?_
  obtain ⟨⟨rfl, h0, hl⟩, -⟩ := hvs
  have hro : RowsOk .spot rows := hM.1
  clear hA hM
  refine Goes.tree Γ_ok htb 1000 false false Try.func125 rfl ?_
  ((try simp only [decide_eq_true_eq, decide_eq_false_iff_not, Bool.not_eq_true', Bool.not_eq_false', Bool.not_true, Bool.not_false, Bool.and_eq_true, Bool.or_eq_true, bne_iff_ne, beq_iff_eq, ne_eq]); (try simp only [rng, lo, hi, mnI, mxI, Int.toNat_natCast, Sg.n, Nat.mul_one, Nat.zero_add, Nat.add_zero, Nat.reduceAdd, List.getD_cons_zero, List.getD_cons_succ]))
  ((repeat' (first | (with_reducible apply And.intro) | intro _)); all_goals (first | exact trivial | (with_reducible assumption) | (show (_ : List Blk) = _; rfl) | (first | exact trivial | (with_reducible assumption) | omega | (split <;> omega) | (split <;> split <;> omega)) | skip); all_goals (try (refine ⟨rfl, (by first | exact Nat.le_refl _ | exact Nat.le_of_ble_eq_true rfl), rfl, rfl, ?_, (by repeat' (first | exact trivial | rfl | apply And.intro)), rfl, rfl⟩)))
  refine ⟨?_⟩
  refine Goes.loopR (fun i : Nat => rows.length - i) (fun i => i + 1 ≤ rows.length) (fun i => (.ow 0 rows.length .spot 37 :: .fn 129 [] :: .any :: .any :: .pw 1 .spot :: .pw 2 .spot :: .i .i64 ((i : Int) + 1) :: .any :: .any :: .any :: .any :: .any :: .any :: .any :: .any :: .any :: .any :: .any :: .any :: .any :: .any :: .any :: .any :: .any :: .any :: .any :: .any :: .any :: .any :: .any :: .any :: .any :: .any :: []))
    (fun i => [.l .spot rows, .c .spot (List.replicate 2 0), .c .spot (minK rows i)]) 0 [0, 1, 2] (by omega) ⟨rfl, rfl, rfl, (by repeat' (first | exact trivial | rfl | apply And.intro)), (by repeat' (first | exact trivial | rfl | apply And.intro)), rfl, rfl, rfl⟩ fun i hle ih => ?_
  have hyes : cmpI (rows.getD (i + 1) []) (minK rows i) < 0 → minK rows (i + 1) = rows.getD (i + 1) [] := fun h => if_pos h
  have hno : ¬ cmpI (rows.getD (i + 1) []) (minK rows i) < 0 → minK rows (i + 1) = minK rows i := fun h => if_neg h
  have e1 : ((i : Int) + 1).toNat = i + 1 := by omega
  by_cases hlt : i + 1 < rows.length
  · refine Goes.tree Γ_ok htb 1000 false false Try.func125 rfl ?_
    ((try simp only [decide_eq_true_eq, decide_eq_false_iff_not, Bool.not_eq_true', Bool.not_eq_false', Bool.not_true, Bool.not_false, Bool.and_eq_true, Bool.or_eq_true, bne_iff_ne, beq_iff_eq, ne_eq]); (try simp only [rng, lo, hi, mnI, mxI, Int.toNat_natCast, Sg.n, Nat.mul_one, Nat.zero_add, Nat.add_zero, Nat.reduceAdd, List.getD_cons_zero, List.getD_cons_succ, e1]))
    ((repeat' (first | (with_reducible apply And.intro) | intro _)); all_goals (first | exact trivial | (with_reducible assumption) | (show (_ : List Blk) = _; rfl) | (first | exact trivial | (with_reducible assumption) | omega | (split <;> omega) | (split <;> split <;> omega)) | skip); all_goals (try (refine ⟨rfl, (by first | exact Nat.le_refl _ | exact Nat.le_of_ble_eq_true rfl), rfl, rfl, ?_, (by repeat' (first | exact trivial | rfl | apply And.intro)), rfl, rfl⟩)))
    · refine ⟨ih (i + 1) (by omega) (by omega) [0, 1, 2] _ _ ?_⟩
      rw [hyes (by assumption)]
      exact ⟨rfl, rfl, rfl, (by repeat' (first | exact trivial | rfl | apply And.intro)), (by repeat' (first | exact trivial | rfl | apply And.intro)), rfl, rfl, rfl⟩
    · refine ⟨ih (i + 1) (by omega) (by omega) [0, 1, 2] _ _ ?_⟩
      rw [hno (by assumption)]
      exact ⟨rfl, rfl, rfl, (by repeat' (first | exact trivial | rfl | apply And.intro)), (by repeat' (first | exact trivial | rfl | apply And.intro)), rfl, rfl, rfl⟩
  · have e : minW rows = minK rows i := by unfold minW; congr 1; omega
    rw [e]
    clear ih
    refine Goes.tree Γ_ok htb 1000 false false Try.func125 rfl ?_
    ((try simp only [decide_eq_true_eq, decide_eq_false_iff_not, Bool.not_eq_true', Bool.not_eq_false', Bool.not_true, Bool.not_false, Bool.and_eq_true, Bool.or_eq_true, bne_iff_ne, beq_iff_eq, ne_eq]); (try simp only [rng, lo, hi, mnI, mxI, Int.toNat_natCast, Sg.n, Nat.mul_one, Nat.zero_add, Nat.add_zero, Nat.reduceAdd, List.getD_cons_zero, List.getD_cons_succ]))
    ((repeat' (first | (with_reducible apply And.intro) | intro _)); all_goals (first | exact trivial | (with_reducible assumption) | (show (_ : List Blk) = _; rfl) | (first | exact trivial | (with_reducible assumption) | omega | (split <;> omega) | (split <;> split <;> omega)) | skip); all_goals (try (refine ⟨rfl, (by first | exact Nat.le_refl _ | exact Nat.le_of_ble_eq_true rfl), rfl, rfl, ?_, (by repeat' (first | exact trivial | rfl | apply And.intro)), rfl, rfl⟩)))
    all_goals (first | contradiction | omega | exact sameA_refl _ | trace_state)

/-! The way. -/
def nxt (p D s : List Int) : List Int := minW (leftW D s (besN p s 4))
def wK (p D a : List Int) : Nat → List Int × List (List Int)
  | 0 => (a, [a])
  | k + 1 => (nxt p D (wK p D a k).1, (wK p D a k).2 ++ [nxt p D (wK p D a k).1])

theorem nxt_ok {p b s : List Int} (hd : okD p) (hb : isP p b = true) (hbl : b.length = 2) (hs : isP p s = true) (hl : s.length = 2) (h1 : 0 < (m1 (bfsD p [b])).getD (cx s) 0) :
    0 < (leftW (m1 (bfsD p [b])) s (besN p s 4)).length ∧ isP p (nxt p (m1 (bfsD p [b])) s) = true ∧ (nxt p (m1 (bfsD p [b])) s).length = 2 ∧ (m1 (bfsD p [b])).getD (cx (nxt p (m1 (bfsD p [b])) s)) 0 = (m1 (bfsD p [b])).getD (cx s) 0 - 1 := by
  have hD := (bfsD_wf hd (one_isP hb)).1
  have hg : ∀ c, isP p c = true → (m1 (bfsD p [b])).getD (cx c) 0 = (bfsD p [b]).getD (cx c) 0 - 1 := fun c hc => m1_get (by rw [hD]; exact cx_lt (inG_isP hd hc))
  rw [hg s hs] at h1
  have hmem : ∀ c ∈ besN p s 4, isP p c = true ∧ c.length = 2 := fun c hc => by
    obtain ⟨e, -, e2, rfl⟩ := besN_go 4 hc
    unfold canGo at e2
    rw [Bool.and_eq_true] at e2
    exact ⟨e2.1, ahead_len _ _⟩
  have hpos : 0 < (leftW (m1 (bfsD p [b])) s (besN p s 4)).length := by
    rcases bfs_prev hd hb hbl hs hl (by omega) with ⟨-, h⟩ | ⟨c, hc, c1, c2, c3, c4⟩
    · omega
    · refine List.length_pos_of_mem (a := c) (List.mem_filter.2 ⟨hc, ?_⟩)
      unfold delW
      rw [Bool.not_not, hg c c1, hg s hs]
      exact decide_eq_true (by omega)
  have hm := minK_mem ((leftW (m1 (bfsD p [b])) s (besN p s 4)).length - 1) (show _ < (leftW (m1 (bfsD p [b])) s (besN p s 4)).length by omega)
  obtain ⟨f1, f2⟩ := List.mem_filter.1 hm
  obtain ⟨g1, g2⟩ := hmem _ f1
  unfold delW at f2
  rw [Bool.not_not, decide_eq_true_eq] at f2
  exact ⟨hpos, g1, g2, f2⟩
theorem wK_ok {p a b : List Int} (hd : okD p) (hb : isP p b = true) (hbl : b.length = 2) (ha : isP p a = true) (hal : a.length = 2) (h0 : 0 ≤ (m1 (bfsD p [b])).getD (cx a) 0) : ∀ k : Nat, (k : Int) ≤ (m1 (bfsD p [b])).getD (cx a) 0 →
    isP p (wK p (m1 (bfsD p [b])) a k).1 = true ∧ (wK p (m1 (bfsD p [b])) a k).1.length = 2 ∧ (m1 (bfsD p [b])).getD (cx (wK p (m1 (bfsD p [b])) a k).1) 0 = (m1 (bfsD p [b])).getD (cx a) 0 - k ∧ (wK p (m1 (bfsD p [b])) a k).2.length = k + 1 := by
  intro k
  induction k with
  | zero => intro _; exact ⟨ha, hal, by show _ = _ - ((0 : Nat) : Int); simp [wK], rfl⟩
  | succ k ih =>
    intro hk
    obtain ⟨i1, i2, i3, i4⟩ := ih (by omega)
    obtain ⟨n1, n2, n3, n4⟩ := nxt_ok hd hb hbl i1 i2 (by omega)
    refine ⟨n2, n3, ?_, by simp [wK, i4]⟩
    show (m1 (bfsD p [b])).getD (cx (nxt p (m1 (bfsD p [b])) (wK p (m1 (bfsD p [b])) a k).1)) 0 = _
    rw [n4, i3]; omega
noncomputable def wayL (p a b : List Int) : List (List Int) := (wK p (m1 (bfsD p [b])) a ((m1 (bfsD p [b])).getD (cx a) 0).toNat).2
end Go.Proofs.Ytfelemoefhbphaa
