/- The open sides of some cells: the spec and the program. -/
import Derived.Test.YtjbgjgkogmlpfaaGreatOpenL
namespace Go.Proofs.YtjbgjgkogmlpfaaGreat
open Go Go.Eng
set_option linter.unusedSimpArgs false
set_option linter.unusedVariables false
set_option maxRecDepth 100000
set_option maxHeartbeats 4000000

/-- By a table of cells. -/
def opT (p T h : List Int) : Bool := ((T.getD (cx (atH h)) 0 != 0) != (T.getD (cx (othH h)) 0 != 0)) && !standsP p h
def openT (p T : List Int) : List (List Int) := selK (opT p T) (sidL (hurP p) (spots p)) (sidL (hurP p) (spots p)).length
def l03OpenS : Fun
  | [.pw 0 .pas, .pw 1 .bgrid], [.c .pas p, .c .bgrid T] => some (.fs .hur (openT p T), [.c .pas p, .c .bgrid T], [okD p])
  | _, _ => .none
theorem allH_in {p : List Int} (hd : okD p) : ∀ h ∈ sidL (hurP p) (spots p), hurP p h = true ∧ (∃ a b c : Int, h = [a, b, c] ∧ (c = 0 ∨ c = 1)) ∧ inG (atH h) ∧ inG (othH h) ∧ near (atH h) := by
  intro h hh
  obtain ⟨h1, j, k, -, -, hc⟩ := (mem_sidL _).1 hh
  have hP : isP p (atH h) = true ∧ isP p (othH h) = true := by
    have := h1
    unfold hurP at this
    rw [Bool.and_eq_true] at this
    exact this
  refine ⟨h1, ?_, inG_of' hd hP.1, inG_of' hd hP.2, near_of hd hP.1⟩
  rcases hc with rfl | rfl
  · exact ⟨_, _, _, rfl, .inl rfl⟩
  · exact ⟨_, _, _, rfl, .inr rfl⟩
theorem allH_len {p : List Int} (h : okD p) : (sidL (hurP p) (spots p)).length ≤ 200 := by
  obtain ⟨w1, w2, h1, h2⟩ := h
  have := sidK_len (hurP p) (spots p) (spots p).length
  have e : (spots p).length ≤ 10 * 10 := by
    unfold spots
    rw [spotsY_len]
    exact Nat.mul_le_mul (by omega) (by omega)
  unfold sidL
  omega
set_option maxRecDepth 100000 in
theorem s_l03Open : Sound Tryz.prog 16 l03OpenS := by
  intro args M r M' vs h hvs
  unfold l03OpenS at h
  split at h
  case h_2 => cases h
  rename_i p T
  cases h
  refine SpecOK.assume fun hA hM => ?_
  have htb := (TbOk.cons s_l03All Tryz.func28 rfl rfl (TbOk.cons s_l03Side Tryz.func30 rfl rfl (TbOk.cons s_l01Next Tryz.func29 rfl rfl (TbOk.cons s_l03Stands Tryz.func31 rfl rfl (TbOk.nil : TbOk Tryz.prog tb0)))))
  refine SpecOK.of_goes [0, 1] Tryz.func16 rfl ?_
  obtain ⟨hd, -⟩ := hvs
  have hin := allH_in hd
  have hal := allH_len hd
  clear hA hM
  unfold openT
  refine Goes.tree Γ_ok htb 1000 true false Tryz.func16 rfl ?_
  ((try simp only [decide_eq_true_eq, decide_eq_false_iff_not, Bool.not_eq_true', Bool.not_eq_false', Bool.not_true, Bool.not_false, Bool.and_eq_true, Bool.or_eq_true, bne_iff_ne, beq_iff_eq, ne_eq]); (try simp only [rng, lo, hi, mnI, mxI, Int.toNat_natCast, Sg.n, Nat.mul_one, Nat.zero_add, Nat.add_zero, Nat.reduceAdd, List.getD_cons_zero, List.getD_cons_succ]))
  ((repeat' (first | (with_reducible apply And.intro) | intro _)); all_goals (first | exact trivial | (with_reducible assumption) | (show (_ : List Blk) = _; rfl) | (first | exact trivial | (with_reducible assumption) | omega | (split <;> omega) | (split <;> split <;> omega)) | skip); all_goals (try (refine ⟨rfl, (by first | exact Nat.le_refl _ | exact Nat.le_of_ble_eq_true rfl), rfl, rfl, ?_, (by repeat' (first | exact trivial | rfl | apply And.intro)), rfl, rfl⟩)))
  all_goals (try first | exact hd)
  generalize sidL (hurP p) (spots p) = L at *
  refine ⟨?_⟩
  refine Goes.loopR (fun i : Nat => L.length - i) (fun i => i ≤ L.length) (fun i => (.pw 0 .pas :: .pw 1 .bgrid :: .any :: .any :: .any :: .fs .hur L :: .ow 2 (selK (opT p T) L i).length .hur 62 :: .i .i64 (i:Int) :: .any :: .any :: .any :: .any :: .any :: .any :: .any :: .any :: .any :: .any :: .any :: .any :: .any :: .any :: .any :: .any :: .any :: .any :: .any :: .any :: .any :: .any :: .any :: .any :: .any :: .any :: .any :: .any :: .any :: .any :: .any :: .any :: .any :: .any :: .any :: .any :: .any :: .any :: .any :: .any :: .any :: .any :: .any :: .any :: .any :: .any :: .any :: .any :: .any :: .any :: .any :: .any :: .any :: .any :: .any :: .any :: .any :: .any :: .any :: .any :: .any :: .any :: .any :: .any :: .any :: []))
    (fun i => [.c .pas p, .c .bgrid T, .l .hur (selK (opT p T) L i)]) 0 [0, 1, 2] (Nat.zero_le _) ⟨rfl, rfl, rfl, (by repeat' (first | exact trivial | rfl | apply And.intro)), (by repeat' (first | exact trivial | rfl | apply And.intro)), rfl, rfl, rfl⟩ fun i hib ih => ?_
  have hsl := selK_len (opT p T) L i
  by_cases hlt : i < L.length
  · obtain ⟨g1, ⟨a, b, c, g2, g3⟩, g4, g5, g6⟩ := hin _ (getD_mem (d := []) hlt)
    have ek : selK (opT p T) L (i + 1) = addH (opT p T) (selK (opT p T) L i) (L.getD i []) := rfl
    have ih := ih (i + 1)
    rw [ek] at ih
    have hyes : opT p T [a, b, c] = true → addH (opT p T) (selK (opT p T) L i) [a, b, c] = selK (opT p T) L i ++ [[a, b, c]] := fun h => if_pos h
    have hno : ¬ opT p T [a, b, c] = true → addH (opT p T) (selK (opT p T) L i) [a, b, c] = selK (opT p T) L i := fun h => if_neg h
    rw [g2] at g1 g4 g5 g6 ih
    have hop : opT p T [a, b, c] = (((T.getD (cx (atH [a, b, c])) 0 != 0) != (T.getD (cx (othH [a, b, c])) 0 != 0)) && !standsP p [a, b, c]) := rfl
    unfold atH othH cx at hop
    unfold atH at g4 g6
    unfold othH at g5
    unfold inG at g4 g5
    simp only [List.getD_cons_zero, List.getD_cons_succ] at hop g4 g5 g6
    generalize hA : ahead [a, b] (if c = 0 then 1 else 2) = q at *
    have htd : List.take 2 (List.drop 0 [a, b, c]) = [a, b] := rfl
    refine Goes.tree Γ_ok htb 1000 true false Tryz.func16 rfl ?_
    ((try simp only [decide_eq_true_eq, decide_eq_false_iff_not, Bool.not_eq_true', Bool.not_eq_false', Bool.not_true, Bool.not_false, Bool.and_eq_true, Bool.or_eq_true, bne_iff_ne, beq_iff_eq, ne_eq]); (try simp only [rng, lo, hi, mnI, mxI, Int.toNat_natCast, Sg.n, Nat.mul_one, Nat.zero_add, Nat.add_zero, Nat.reduceAdd, List.getD_cons_zero, List.getD_cons_succ, g2, htd, hA, one_row]))
    ((repeat' (first | (with_reducible apply And.intro) | intro _)); all_goals (first | exact trivial | (with_reducible assumption) | (show (_ : List Blk) = _; rfl) | (first | exact trivial | (with_reducible assumption) | omega | (split <;> omega) | (split <;> split <;> omega)) | skip); all_goals (try (refine ⟨rfl, (by first | exact Nat.le_refl _ | exact Nat.le_of_ble_eq_true rfl), rfl, rfl, ?_, (by repeat' (first | exact trivial | rfl | apply And.intro)), rfl, rfl⟩)))
    all_goals (try first | omega | exact g6)
    · show (selK (opT p T) L i ++ [_]).length ≤ _
      simp only [List.length_append, List.length_cons, List.length_nil]; omega
    · rename_i h1 h2
      refine ⟨ih (by omega) (by omega) [0, 1, 5] _ _ ?_⟩
      rw [hyes (by rw [hop, h2]; simpa [bne] using h1)]
      exact ⟨rfl, rfl, rfl, (by repeat' (first | exact trivial | rfl | apply And.intro)), (by repeat' (first | exact trivial | rfl | apply And.intro)), rfl, rfl, rfl⟩
    · rename_i h1 h2
      refine ⟨ih (by omega) (by omega) [0, 1, 2] _ _ ?_⟩
      rw [hno (by rw [hop, h2]; simp)]
      exact ⟨rfl, rfl, rfl, (by repeat' (first | exact trivial | rfl | apply And.intro)), (by repeat' (first | exact trivial | rfl | apply And.intro)), rfl, rfl, rfl⟩
    · rename_i h1
      refine ⟨ih (by omega) (by omega) [0, 1, 2] _ _ ?_⟩
      rw [hno (by rw [hop, h1]; simp)]
      exact ⟨rfl, rfl, rfl, (by repeat' (first | exact trivial | rfl | apply And.intro)), (by repeat' (first | exact trivial | rfl | apply And.intro)), rfl, rfl, rfl⟩
  · obtain rfl : i = L.length := by omega
    clear ih
    refine Goes.tree Γ_ok htb 1000 true false Tryz.func16 rfl ?_
    ((try simp only [decide_eq_true_eq, decide_eq_false_iff_not, Bool.not_eq_true', Bool.not_eq_false', Bool.not_true, Bool.not_false, Bool.and_eq_true, Bool.or_eq_true, bne_iff_ne, beq_iff_eq, ne_eq]); (try simp only [rng, lo, hi, mnI, mxI, Int.toNat_natCast, Sg.n, Nat.mul_one, Nat.zero_add, Nat.add_zero, Nat.reduceAdd, List.getD_cons_zero, List.getD_cons_succ]))
    ((repeat' (first | (with_reducible apply And.intro) | intro _)); all_goals (first | exact trivial | (with_reducible assumption) | (show (_ : List Blk) = _; rfl) | (first | exact trivial | (with_reducible assumption) | omega | (split <;> omega) | (split <;> split <;> omega)) | skip); all_goals (try (refine ⟨rfl, (by first | exact Nat.le_refl _ | exact Nat.le_of_ble_eq_true rfl), rfl, rfl, ?_, (by repeat' (first | exact trivial | rfl | apply And.intro)), rfl, rfl⟩)))
    all_goals (first | contradiction | exact sameA_refl _ | trace_state)
end Go.Proofs.YtjbgjgkogmlpfaaGreat
