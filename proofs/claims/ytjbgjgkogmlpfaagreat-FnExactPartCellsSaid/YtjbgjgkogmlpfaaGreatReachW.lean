/- The spec's search over a table of flows: l03Reach. -/
import Derived.Test.YtjbgjgkogmlpfaaGreatFlowW
namespace Go.Proofs.YtjbgjgkogmlpfaaGreat
open Go Go.Eng
set_option linter.unusedSimpArgs false
set_option linter.unusedVariables false
open Go.Proofs.YtjbgjgkogmlpfaaGreat.Fl (cl isC ix fAt fAdd BS BOk TabInv reachN sidesS sideS backF BkInv)
set_option maxRecDepth 100000
set_option maxHeartbeats 4000000

structure RIn (p fl a b : List Int) (A G : List (List Int)) : Prop where
  ok : okD p
  src : ∀ s, s ∈ A → isP p s = true ∧ s.length = 2
  dis : ∀ s, s ∈ A → s ∉ G
  ma : ∀ k, k < 100 → (a.getD k 0 ≠ 0 ↔ cl k ∈ A)
  mb : ∀ k, k < 100 → (b.getD k 0 ≠ 0 ↔ cl k ∈ G)
  inv : TabInv (nbQ p) A G fl
def rchR (p fl a b : List Int) : List Int × List Int × Bool := reachN (goQ p) b fl 101 0 (st0 p a)
def reachS : Fun
  | [.pw 0 .pas, .pw 1 .flo, .pw 2 .bgrid, .pw 3 .bgrid], [.c .pas p, .c .flo fl, .c .bgrid a, .c .bgrid b] =>
      some (.t2 (.ag .bgrid (rchR p fl a b).2.1) (.b (rchR p fl a b).2.2), [.c .pas p, .c .flo (rchR p fl a b).1, .c .bgrid a, .c .bgrid b], [∃ A G, RIn p fl a b A G])
  | _, _ => .none
theorem sameA_bb {σ : Sg} {xs : List Int} {q : Bool} {c : Bool} (h : c = q) : sameA (.t2 (.ag σ xs) (.b c)) (.t2 (.ag σ xs) (.d q)) := ⟨sameA_refl (.ag σ xs), h⟩
theorem no_ft {p : Prop} (h : (false : Bool) = true) : p := by cases h
theorem no_tf {p : Prop} (h : (true : Bool) = false) : p := by cases h
theorem no_nt {p : Prop} (h : ¬ True) : p := absurd trivial h
theorem nz_eq0 {x : Int} (h : (x != 0) = false) : x = 0 := by simpa using h
theorem filY_len {a : List Int} {w : Nat} (hw : w ≤ 10) : ∀ {k : Nat} {st : BS}, FOk a w k st → st.2.2.length ≤ 100 := fun {k st} h => by
  have hb : BOk (fun _ _ => true) st.2.2 [] st := ⟨h.l1, h.l2, fun s hs => (h.mem s hs).1, h.nd, h.bit, h.seen, fun j hj => .inl ⟨(h.mem _ (Fl.get_mem hj)).2.2.1, Fl.get_mem hj⟩, fun S hS _ s hs => hS s hs⟩
  exact hb.len
set_option maxRecDepth 100000 in
theorem s_reach : Sound Tryz.prog 27 reachS := by
  intro args M r M' vs h hvs
  unfold reachS at h
  split at h
  case h_2 => cases h
  rename_i p fl a b
  cases h
  refine SpecOK.assume fun hA hM => ?_
  have htb := (TbOk.cons s_l01Next Tryz.func29 rfl rfl (TbOk.cons s_l01Closed Tryz.func48 rfl rfl (TbOk.cons s_floAt Tryz.func49 rfl rfl (TbOk.cons s_floAddK Tryz.func47 rfl rfl (TbOk.nil : TbOk Tryz.prog tb0)))))
  refine SpecOK.of_goes [0, 1, 2, 3] Tryz.func27 rfl ?_
  obtain ⟨⟨A, G, hI⟩, -⟩ := hvs
  obtain ⟨w1, w2, h1, h2⟩ := hI.ok
  have hd : okD p := ⟨w1, w2, h1, h2⟩
  clear hA hM
  refine Goes.tree Γ_ok htb 1000 false false Tryz.func27 rfl ?_
  ((try simp only [decide_eq_true_eq, decide_eq_false_iff_not, Bool.not_eq_true', Bool.not_eq_false', Bool.not_true, Bool.not_false, Bool.and_eq_true, Bool.or_eq_true, bne_iff_ne, beq_iff_eq, ne_eq]); (try simp only [rng, lo, hi, mnI, mxI, Int.toNat_natCast, Sg.n, Nat.mul_one, Nat.zero_add, Nat.add_zero, Nat.reduceAdd, List.getD_cons_zero, List.getD_cons_succ]))
  ((repeat' (first | (with_reducible apply And.intro) | intro _)); all_goals (first | exact trivial | (with_reducible assumption) | (show (_ : List Blk) = _; rfl) | (first | exact trivial | (with_reducible assumption) | omega | (split <;> omega) | (split <;> split <;> omega)) | skip); all_goals (try (refine ⟨rfl, (by first | exact Nat.le_refl _ | exact Nat.le_of_ble_eq_true rfl), rfl, rfl, ?_, (by repeat' (first | exact trivial | rfl | apply And.intro)), rfl, rfl⟩)))
  refine ⟨?_⟩
  refine Goes.loopR (fun y : Nat => (p.getD 1 0).toNat - y) (fun y => y ≤ (p.getD 1 0).toNat) (fun y => (.pw 0 .pas :: .pw 1 .flo :: .pw 2 .bgrid :: .pw 3 .bgrid :: .any :: .any :: .any :: .any :: .pw 4 .bgrid :: .any :: .pw 5 .bgrid :: .pw 6 .lgrid :: .ow 7 (filY (p.getD 0 0).toNat a y).2.2.length .spot 54 :: .i .i8 (y:Int) :: .any :: .any :: .any :: .any :: .any :: .any :: .any :: .any :: .any :: .any :: .any :: .any :: .any :: .any :: .any :: .any :: .any :: .any :: .any :: .any :: .any :: .any :: .any :: .any :: .any :: .any :: .any :: .any :: .any :: .any :: .any :: .any :: .any :: .any :: .any :: .any :: .any :: .any :: .any :: .any :: .any :: .any :: .any :: .any :: .any :: .any :: .any :: .any :: .any :: .any :: .any :: .any :: .any :: .any :: .any :: .any :: .any :: .any :: .any :: .any :: .any :: .any :: .any :: .any :: .any :: .any :: .any :: .any :: .any :: .any :: .any :: .any :: .any :: .any :: .any :: .any :: .any :: .any :: .any :: .any :: .any :: .any :: .any :: .any :: .any :: .any :: .any :: .any :: .any :: .any :: .any :: .any :: .any :: .any :: .any :: .any :: .any :: .any :: .any :: .any :: .any :: .any :: .any :: .any :: .any :: .any :: .any :: .any :: .any :: .any :: .any :: .any :: .any :: .any :: .any :: .any :: .any :: .any :: .any :: .any :: .any :: .any :: .any :: .any :: .any :: .any :: .any :: .any :: .any :: .any :: .any :: .any :: .any :: .any :: .any :: .any :: .any :: .any :: .any :: .any :: .any :: .any :: .any :: []))
    (fun y => [.c .pas p, .c .flo fl, .c .bgrid a, .c .bgrid b, .c .bgrid (List.replicate 100 0), .c .bgrid (filY (p.getD 0 0).toNat a y).1, .c .lgrid (filY (p.getD 0 0).toNat a y).2.1, .l .spot (filY (p.getD 0 0).toNat a y).2.2]) 0 [0, 1, 2, 3, 4, 5, 6, 7] (Nat.zero_le _) ⟨rfl, rfl, rfl, (by repeat' (first | exact trivial | rfl | apply And.intro)), (by repeat' (first | exact trivial | rfl | apply And.intro)), rfl, rfl, rfl⟩ fun y hy ihO => ?_
  have hfo := FOk.grid a (w := (p.getD 0 0).toNat) (by omega) y (by omega)
  by_cases hlt : y < (p.getD 1 0).toNat
  · have ihO := ihO (y + 1)
    have e1 : filY (p.getD 0 0).toNat a (y + 1) = fil1 a y (filY (p.getD 0 0).toNat a y) (p.getD 0 0).toNat := rfl
    rw [e1] at ihO
    generalize filY (p.getD 0 0).toNat a y = st1 at *
    refine Goes.tree Γ_ok htb 1000 false false Tryz.func27 rfl ?_
    ((try simp only [decide_eq_true_eq, decide_eq_false_iff_not, Bool.not_eq_true', Bool.not_eq_false', Bool.not_true, Bool.not_false, Bool.and_eq_true, Bool.or_eq_true, bne_iff_ne, beq_iff_eq, ne_eq]); (try simp only [rng, lo, hi, mnI, mxI, Int.toNat_natCast, Sg.n, Nat.mul_one, Nat.zero_add, Nat.add_zero, Nat.reduceAdd, List.getD_cons_zero, List.getD_cons_succ]))
    ((repeat' (first | (with_reducible apply And.intro) | intro _)); all_goals (first | exact trivial | (with_reducible assumption) | (show (_ : List Blk) = _; rfl) | (first | exact trivial | (with_reducible assumption) | omega | (split <;> omega) | (split <;> split <;> omega)) | skip); all_goals (try (refine ⟨rfl, (by first | exact Nat.le_refl _ | exact Nat.le_of_ble_eq_true rfl), rfl, rfl, ?_, (by repeat' (first | exact trivial | rfl | apply And.intro)), rfl, rfl⟩)))
    all_goals (try omega)
    refine ⟨?_⟩
    refine Goes.loopR (fun x : Nat => (p.getD 0 0).toNat - x) (fun x => x ≤ (p.getD 0 0).toNat) (fun x => (.pw 0 .pas :: .pw 1 .flo :: .pw 2 .bgrid :: .pw 3 .bgrid :: .any :: .any :: .any :: .any :: .pw 4 .bgrid :: .any :: .pw 5 .bgrid :: .pw 6 .lgrid :: .ow 7 (fil1 a y st1 x).2.2.length .spot 54 :: .i .i8 (y:Int) :: .i .i8 (x:Int) :: .any :: .any :: .any :: .any :: .any :: .any :: .any :: .any :: .any :: .any :: .any :: .any :: .any :: .any :: .any :: .any :: .any :: .any :: .any :: .any :: .any :: .any :: .any :: .any :: .any :: .any :: .any :: .any :: .any :: .any :: .any :: .any :: .any :: .any :: .any :: .any :: .any :: .any :: .any :: .any :: .any :: .any :: .any :: .any :: .any :: .any :: .any :: .any :: .any :: .any :: .any :: .any :: .any :: .any :: .any :: .any :: .any :: .any :: .any :: .any :: .any :: .any :: .any :: .any :: .any :: .any :: .any :: .any :: .any :: .any :: .any :: .any :: .any :: .any :: .any :: .any :: .any :: .any :: .any :: .any :: .any :: .any :: .any :: .any :: .any :: .any :: .any :: .any :: .any :: .any :: .any :: .any :: .any :: .any :: .any :: .any :: .any :: .any :: .any :: .any :: .any :: .any :: .any :: .any :: .any :: .any :: .any :: .any :: .any :: .any :: .any :: .any :: .any :: .any :: .any :: .any :: .any :: .any :: .any :: .any :: .any :: .any :: .any :: .any :: .any :: .any :: .any :: .any :: .any :: .any :: .any :: .any :: .any :: .any :: .any :: .any :: .any :: .any :: .any :: .any :: .any :: .any :: []))
      (fun x => [.c .pas p, .c .flo fl, .c .bgrid a, .c .bgrid b, .c .bgrid (List.replicate 100 0), .c .bgrid (fil1 a y st1 x).1, .c .lgrid (fil1 a y st1 x).2.1, .l .spot (fil1 a y st1 x).2.2]) 0 [0, 1, 2, 3, 4, 5, 6, 7] (Nat.zero_le _) ⟨rfl, rfl, rfl, (by repeat' (first | exact trivial | rfl | apply And.intro)), (by repeat' (first | exact trivial | rfl | apply And.intro)), rfl, rfl, rfl⟩ fun x hx ih => ?_
    have hfx := FOk.row (w := (p.getD 0 0).toNat) (by omega) (by omega) hfo x hx
    have hql := filY_len (by omega) hfx
    by_cases hlx : x < (p.getD 0 0).toNat
    · have ih := ih (x + 1)
      have hyes : a.getD (y * 10 + x) 0 ≠ 0 → fil1 a y st1 (x + 1) = ((fil1 a y st1 x).1.set (y * 10 + x) 1, (fil1 a y st1 x).2.1.set (y * 10 + x) (-1), (fil1 a y st1 x).2.2 ++ [[(x : Int), (y : Int)]]) := fun h => if_pos h
      have hno : ¬ a.getD (y * 10 + x) 0 ≠ 0 → fil1 a y st1 (x + 1) = fil1 a y st1 x := fun h => if_neg h
      generalize fil1 a y st1 x = st2 at *
      refine Goes.tree Γ_ok htb 1000 false false Tryz.func27 rfl ?_
      ((try simp only [decide_eq_true_eq, decide_eq_false_iff_not, Bool.not_eq_true', Bool.not_eq_false', Bool.not_true, Bool.not_false, Bool.and_eq_true, Bool.or_eq_true, bne_iff_ne, beq_iff_eq, ne_eq]); (try simp only [rng, lo, hi, mnI, mxI, Int.toNat_natCast, Sg.n, Nat.mul_one, Nat.zero_add, Nat.add_zero, Nat.reduceAdd, List.getD_cons_zero, List.getD_cons_succ, one_row]))
      ((repeat' (first | (with_reducible apply And.intro) | intro _)); all_goals (first | exact trivial | (with_reducible assumption) | (show (_ : List Blk) = _; rfl) | (first | exact trivial | (with_reducible assumption) | omega | (split <;> omega) | (split <;> split <;> omega)) | skip); all_goals (try (refine ⟨rfl, (by first | exact Nat.le_refl _ | exact Nat.le_of_ble_eq_true rfl), rfl, rfl, ?_, (by repeat' (first | exact trivial | rfl | apply And.intro)), rfl, rfl⟩)))
      · show (st2.2.2 ++ [_]).length ≤ _
        simp only [List.length_append, List.length_cons, List.length_nil]; omega
      · refine ⟨ih (by omega) (by omega) [0, 1, 2, 3, 4, 5, 6, 9] _ _ ?_⟩
        rw [hyes (by assumption)]
        exact ⟨rfl, rfl, rfl, (by repeat' (first | exact trivial | rfl | apply And.intro)), (by repeat' (first | exact trivial | rfl | apply And.intro)), rfl, rfl, rfl⟩
      · refine ⟨ih (by omega) (by omega) [0, 1, 2, 3, 4, 5, 6, 7] _ _ ?_⟩
        rw [hno (fun g => g (by simpa using ‹(a.getD (y * 10 + x) 0 != 0) = false›))]
        exact ⟨rfl, rfl, rfl, (by repeat' (first | exact trivial | rfl | apply And.intro)), (by repeat' (first | exact trivial | rfl | apply And.intro)), rfl, rfl, rfl⟩
    · obtain rfl : x = (p.getD 0 0).toNat := by omega
      clear ih
      refine Goes.tree Γ_ok htb 1000 false false Tryz.func27 rfl ?_
      ((try simp only [decide_eq_true_eq, decide_eq_false_iff_not, Bool.not_eq_true', Bool.not_eq_false', Bool.not_true, Bool.not_false, Bool.and_eq_true, Bool.or_eq_true, bne_iff_ne, beq_iff_eq, ne_eq]); (try simp only [rng, lo, hi, mnI, mxI, Int.toNat_natCast, Sg.n, Nat.mul_one, Nat.zero_add, Nat.add_zero, Nat.reduceAdd, List.getD_cons_zero, List.getD_cons_succ]))
      ((repeat' (first | (with_reducible apply And.intro) | intro _)); all_goals (first | exact trivial | (with_reducible assumption) | (show (_ : List Blk) = _; rfl) | (first | exact trivial | (with_reducible assumption) | omega | (split <;> omega) | (split <;> split <;> omega)) | skip); all_goals (try (refine ⟨rfl, (by first | exact Nat.le_refl _ | exact Nat.le_of_ble_eq_true rfl), rfl, rfl, ?_, (by repeat' (first | exact trivial | rfl | apply And.intro)), rfl, rfl⟩)))
      all_goals (try omega)
      exact ⟨ihO (by omega) (by omega) [0, 1, 2, 3, 4, 5, 6, 7] _ _ ⟨rfl, rfl, rfl, (by repeat' (first | exact trivial | rfl | apply And.intro)), (by repeat' (first | exact trivial | rfl | apply And.intro)), rfl, rfl, rfl⟩⟩
  · obtain rfl : y = (p.getD 1 0).toNat := by omega
    clear ihO hlt hy
    have e0 : filY (p.getD 0 0).toNat a (p.getD 1 0).toNat = st0 p a := rfl
    obtain ⟨hB0, hAq⟩ := st0_ok fl hd hI.src hI.ma
    rw [e0]
    have hR : reachN (goQ p) b fl 101 0 (st0 p a) = rchR p fl a b := rfl
    generalize rchR p fl a b = R at *
    generalize st0 p a = s0 at *
    refine Goes.tree Γ_ok htb 1000 false false Tryz.func27 rfl ?_
    ((try simp only [decide_eq_true_eq, decide_eq_false_iff_not, Bool.not_eq_true', Bool.not_eq_false', Bool.not_true, Bool.not_false, Bool.and_eq_true, Bool.or_eq_true, bne_iff_ne, beq_iff_eq, ne_eq]); (try simp only [rng, lo, hi, mnI, mxI, Int.toNat_natCast, Sg.n, Nat.mul_one, Nat.zero_add, Nat.add_zero, Nat.reduceAdd, List.getD_cons_zero, List.getD_cons_succ]))
    ((repeat' (first | (with_reducible apply And.intro) | intro _)); all_goals (first | exact trivial | (with_reducible assumption) | (show (_ : List Blk) = _; rfl) | (first | exact trivial | (with_reducible assumption) | omega | (split <;> omega) | (split <;> split <;> omega)) | skip); all_goals (try (refine ⟨rfl, (by first | exact Nat.le_refl _ | exact Nat.le_of_ble_eq_true rfl), rfl, rfl, ?_, (by repeat' (first | exact trivial | rfl | apply And.intro)), rfl, rfl⟩)))
    all_goals (try omega)
    refine ⟨?_⟩
    refine Goes.loopR (fun q : Nat × BS => 101 - q.1) (fun q => q.1 ≤ q.2.2.2.length ∧ BOk (goQ p) A fl q.2 ∧ reachN (goQ p) b fl (101 - q.1) q.1 q.2 = R) (fun q => (.pw 0 .pas :: .pw 1 .flo :: .pw 2 .bgrid :: .pw 3 .bgrid :: .any :: .any :: .any :: .any :: .pw 4 .bgrid :: .any :: .pw 5 .bgrid :: .pw 6 .lgrid :: .ow 7 q.2.2.2.length .spot 54 :: .any :: .any :: .i .i64 (q.1:Int) :: .any :: .any :: .any :: .any :: .any :: .any :: .any :: .any :: .any :: .any :: .any :: .any :: .any :: .any :: .any :: .any :: .any :: .any :: .any :: .any :: .any :: .any :: .any :: .any :: .any :: .any :: .any :: .any :: .any :: .any :: .any :: .any :: .any :: .any :: .any :: .any :: .any :: .any :: .any :: .any :: .any :: .any :: .any :: .any :: .any :: .any :: .any :: .any :: .any :: .any :: .any :: .any :: .any :: .any :: .any :: .any :: .any :: .any :: .any :: .any :: .any :: .any :: .any :: .any :: .any :: .any :: .any :: .any :: .any :: .any :: .any :: .any :: .any :: .any :: .any :: .any :: .any :: .any :: .any :: .any :: .any :: .any :: .any :: .any :: .any :: .any :: .any :: .any :: .any :: .any :: .any :: .any :: .any :: .any :: .any :: .any :: .any :: .any :: .any :: .any :: .any :: .any :: .any :: .any :: .any :: .any :: .any :: .any :: .any :: .any :: .any :: .any :: .any :: .any :: .any :: .any :: .any :: .any :: .any :: .any :: .any :: .any :: .any :: .any :: .any :: .any :: .any :: .any :: .any :: .any :: .any :: .any :: .any :: .any :: .any :: .any :: .any :: .any :: .any :: .any :: .any :: []))
      (fun q => [.c .pas p, .c .flo fl, .c .bgrid a, .c .bgrid b, .c .bgrid (List.replicate 100 0), .c .bgrid q.2.1, .c .lgrid q.2.2.1, .l .spot q.2.2.2]) (0, s0) [0, 1, 2, 3, 4, 5, 6, 7] ⟨Nat.zero_le _, hB0, hR⟩ ⟨rfl, rfl, rfl, (by repeat' (first | exact trivial | rfl | apply And.intro)), (by repeat' (first | exact trivial | rfl | apply And.intro)), rfl, rfl, rfl⟩ fun q ⟨hqi, hB, hq⟩ ihQ => ?_
    obtain ⟨i, st⟩ := q
    clear hB0 hAq hR
    dsimp only at hqi hB hq ⊢
    have hlen := hB.len
    by_cases hlt : i < st.2.2.length
    · have hisP := hB.least (fun s => isP p s = true) (fun s hs => (hI.src s hs).1) (fun s _ _ d _ _ hg _ => goQ_isP hg)
      have hnP := hisP _ (Fl.get_mem hlt)
      have hnC := hB.cells _ (Fl.get_mem hlt)
      have hnG := inG_of' hd hnP
      have hnl := Fl.isC_len hnC
      have hf101 : 101 - i = (100 - i) + 1 := by omega
      rw [hf101, reachN, if_pos hlt] at hq
      have hbk := hI.inv.bk hB hlt
      have hcx : ix (st.2.2.getD i []) = ((st.2.2.getD i []).getD 1 0).toNat * 10 + ((st.2.2.getD i []).getD 0 0).toNat := rfl
      by_cases hb : b.getD (ix (st.2.2.getD i [])) 0 = 0
      · rw [if_neg (fun g => g hb)] at hq
        rw [hcx] at hb
        generalize hnow : st.2.2.getD i [] = now at *
        have hnG' := hnG
        unfold inG at hnG
        refine Goes.tree Γ_ok htb 1000 false false Tryz.func27 rfl ?_
        ((try simp only [decide_eq_true_eq, decide_eq_false_iff_not, Bool.not_eq_true', Bool.not_eq_false', Bool.not_true, Bool.not_false, Bool.and_eq_true, Bool.or_eq_true, bne_iff_ne, beq_iff_eq, ne_eq]); (try simp only [rng, lo, hi, mnI, mxI, Int.toNat_natCast, Sg.n, Nat.mul_one, Nat.zero_add, Nat.add_zero, Nat.reduceAdd, List.getD_cons_zero, List.getD_cons_succ, hnow, hb]))
        (repeat' (first | (with_reducible apply And.intro) | intro _))
        all_goals (try exact absurd trivial (by assumption))
        all_goals (try first | exact trivial | (first | exact trivial | (with_reducible assumption) | omega | (split <;> omega) | (split <;> split <;> omega)))
        have hsd := hB.sides (goQ_ok hd) hlt hnow
        obtain ⟨hs41, ⟨r4, hs42⟩, -⟩ := hsd 4 (Nat.le_refl 4)
        have hih := ihQ (i + 1, sidesS (goQ p) fl now st 4) ⟨by dsimp only; rw [hs42, List.length_append]; omega, hs41, by dsimp only; rw [show 101 - (i + 1) = 100 - i by omega]; exact hq⟩ (by dsimp only; omega)
        clear ihQ
        dsimp only at hih
        refine ⟨?_⟩
        refine Goes.loopR (fun d : Nat => 4 - d) (fun d => d ≤ 4) (fun d => (.pw 0 .pas :: .pw 1 .flo :: .pw 2 .bgrid :: .pw 3 .bgrid :: .any :: .any :: .any :: .any :: .pw 4 .bgrid :: .any :: .pw 5 .bgrid :: .pw 6 .lgrid :: .ow 7 (sidesS (goQ p) fl now st d).2.2.length .spot 54 :: .any :: .any :: .i .i64 (i:Int) :: .pw 8 .spot :: .any :: .i .i64 (d:Int) :: .any :: .any :: .any :: .any :: .any :: .any :: .any :: .any :: .any :: .any :: .any :: .any :: .any :: .any :: .any :: .any :: .any :: .any :: .any :: .any :: .any :: .any :: .any :: .any :: .any :: .any :: .any :: .any :: .any :: .any :: .any :: .any :: .any :: .any :: .any :: .any :: .any :: .any :: .any :: .any :: .any :: .any :: .any :: .any :: .any :: .any :: .any :: .any :: .any :: .any :: .any :: .any :: .any :: .any :: .any :: .any :: .any :: .any :: .any :: .any :: .any :: .any :: .any :: .any :: .any :: .any :: .any :: .any :: .any :: .any :: .any :: .any :: .any :: .any :: .any :: .any :: .any :: .any :: .any :: .any :: .any :: .any :: .any :: .any :: .any :: .any :: .any :: .any :: .any :: .any :: .any :: .any :: .any :: .any :: .any :: .any :: .any :: .any :: .any :: .any :: .any :: .any :: .any :: .any :: .any :: .any :: .any :: .any :: .any :: .any :: .any :: .any :: .any :: .any :: .any :: .any :: .any :: .any :: .any :: .any :: .any :: .any :: .any :: .any :: .any :: .any :: .any :: .any :: .any :: .any :: .any :: .any :: .any :: .any :: .any :: .any :: .any :: .any :: []))
          (fun d => [.c .pas p, .c .flo fl, .c .bgrid a, .c .bgrid b, .c .bgrid (List.replicate 100 0), .c .bgrid (sidesS (goQ p) fl now st d).1, .c .lgrid (sidesS (goQ p) fl now st d).2.1, .l .spot (sidesS (goQ p) fl now st d).2.2, .c .spot now]) 0 [0, 1, 2, 3, 4, 5, 6, 7, 8] (Nat.zero_le _) ⟨rfl, rfl, rfl, (by repeat' (first | exact trivial | rfl | apply And.intro)), (by repeat' (first | exact trivial | rfl | apply And.intro)), rfl, rfl, rfl⟩ fun d hd4 ih => ?_
        by_cases hltd : d < 4
        · obtain ⟨hs1, -, -⟩ := hsd d (by omega)
          have hsl := hs1.len
          have ih := ih (d + 1)
          have hyes : goQ p now d = true → (sidesS (goQ p) fl now st d).1.getD (ix (ahead now d)) 0 = 0 → ¬ 0 < fAt fl now d → sidesS (goQ p) fl now st (d + 1) = ((sidesS (goQ p) fl now st d).1.set (ix (ahead now d)) 1, (sidesS (goQ p) fl now st d).2.1.set (ix (ahead now d)) (((d : Int) + 2) % 4), (sidesS (goQ p) fl now st d).2.2 ++ [ahead now d]) := fun h1 h2 h3 => if_pos ⟨h1, h2, h3⟩
          have hno : ¬ (goQ p now d = true ∧ (sidesS (goQ p) fl now st d).1.getD (ix (ahead now d)) 0 = 0 ∧ ¬ 0 < fAt fl now d) → sidesS (goQ p) fl now st (d + 1) = sidesS (goQ p) fl now st d := fun h => if_neg h
          have hgq : goQ p now d = canGo p now d := by unfold goQ; rw [hnP]; rfl
          have htm : ((d : Int) + 2).tmod 4 = ((d : Int) + 2) % 4 := Int.tmod_eq_emod_of_nonneg (by omega)
          have hcxn : ix (ahead now d) = ((ahead now d).getD 1 0).toNat * 10 + ((ahead now d).getD 0 0).toNat := rfl
          rw [hcxn] at hyes hno
          have hnear := near_of hd hnP
          generalize sidesS (goQ p) fl now st d = sd at *
          cases hgo : canGo p now d with
          | false =>
            rw [hno (fun g => by rw [hgq, hgo] at g; cases g.1)] at ih
            refine Goes.tree Γ_ok htb 1000 false false Tryz.func27 rfl ?_
            ((try simp only [decide_eq_true_eq, decide_eq_false_iff_not, Bool.not_eq_true', Bool.not_eq_false', Bool.not_true, Bool.not_false, Bool.and_eq_true, Bool.or_eq_true, bne_iff_ne, beq_iff_eq, ne_eq]); (try simp only [rng, lo, hi, mnI, mxI, Int.toNat_natCast, Sg.n, Nat.mul_one, Nat.zero_add, Nat.add_zero, Nat.reduceAdd, List.getD_cons_zero, List.getD_cons_succ, hgo]))
            (repeat' (first | (with_reducible apply And.intro) | intro _))
            all_goals (try with_reducible first | exact no_tf (by with_reducible assumption) | exact no_ft (by with_reducible assumption) | exact no_nt (by with_reducible assumption))
            all_goals (try first | exact trivial | (show (_ : List Blk) = _; rfl) | (first | exact trivial | (with_reducible assumption) | omega | (split <;> omega) | (split <;> split <;> omega)))
            all_goals exact ⟨ih (by omega) (by omega) [0, 1, 2, 3, 4, 5, 6, 7, 8] _ _ ⟨rfl, rfl, rfl, (by repeat' (first | exact trivial | rfl | apply And.intro)), (by repeat' (first | exact trivial | rfl | apply And.intro)), rfl, rfl, rfl⟩⟩
          | true =>
            have hgo' : goQ p now d = true := by rw [hgq]; exact hgo
            have haP := goQ_isP hgo'
            have haG := inG_of' hd haP
            have hrg := hI.inv.rng (goQ_ok hd) hnC (d := (d : Int)) (by omega) (by omega) hgo'
            have haG' := haG
            unfold inG at haG
            refine Goes.tree Γ_ok htb 1000 false false Tryz.func27 rfl ?_
            ((try simp only [decide_eq_true_eq, decide_eq_false_iff_not, Bool.not_eq_true', Bool.not_eq_false', Bool.not_true, Bool.not_false, Bool.and_eq_true, Bool.or_eq_true, bne_iff_ne, beq_iff_eq, ne_eq]); (try simp only [rng, lo, hi, mnI, mxI, Int.toNat_natCast, Sg.n, Nat.mul_one, Nat.zero_add, Nat.add_zero, Nat.reduceAdd, List.getD_cons_zero, List.getD_cons_succ, hgo, htm]))
            (repeat' (first | (with_reducible apply And.intro) | intro _))
            all_goals (try with_reducible first | exact no_tf (by with_reducible assumption) | exact no_ft (by with_reducible assumption) | exact no_nt (by with_reducible assumption))
            all_goals (try first | exact trivial | (show (_ : List Blk) = _; rfl) | (first | exact trivial | (with_reducible assumption) | omega | (split <;> omega) | (split <;> split <;> omega)))
            all_goals (try first | omega | exact ⟨hnl, hnG', haG', by omega, by omega, hrg.1, hrg.2⟩)
            · rename_i h3
              refine ⟨ih (by omega) (by omega) [0, 1, 2, 3, 4, 5, 6, 7, 8] _ _ ?_⟩
              rw [hno fun g => h3 g.2.1]
              exact ⟨rfl, rfl, rfl, (by repeat' (first | exact trivial | rfl | apply And.intro)), (by repeat' (first | exact trivial | rfl | apply And.intro)), rfl, rfl, rfl⟩
            · rename_i h3
              refine ⟨ih (by omega) (by omega) [0, 1, 2, 3, 4, 5, 6, 7, 8] _ _ ?_⟩
              rw [hno fun g => g.2.2 h3]
              exact ⟨rfl, rfl, rfl, (by repeat' (first | exact trivial | rfl | apply And.intro)), (by repeat' (first | exact trivial | rfl | apply And.intro)), rfl, rfl, rfl⟩
            · exact Nat.le_trans (Nat.le_of_eq List.length_append) (by show _ + 1 ≤ _; omega)
            · rename_i h3 h4
              refine ⟨ih (by omega) (by omega) [0, 1, 2, 3, 4, 5, 6, 11, 8] _ _ ?_⟩
              rw [hyes hgo' (nz_eq0 h3) h4]
              exact ⟨rfl, rfl, rfl, (by repeat' (first | exact trivial | rfl | apply And.intro)), (by repeat' (first | exact trivial | rfl | apply And.intro)), rfl, rfl, rfl⟩
        · obtain rfl : d = 4 := by omega
          clear ih
          refine Goes.tree Γ_ok htb 1000 false false Tryz.func27 rfl ?_
          ((try simp only [decide_eq_true_eq, decide_eq_false_iff_not, Bool.not_eq_true', Bool.not_eq_false', Bool.not_true, Bool.not_false, Bool.and_eq_true, Bool.or_eq_true, bne_iff_ne, beq_iff_eq, ne_eq]); (try simp only [rng, lo, hi, mnI, mxI, Int.toNat_natCast, Sg.n, Nat.mul_one, Nat.zero_add, Nat.add_zero, Nat.reduceAdd, List.getD_cons_zero, List.getD_cons_succ]))
          ((repeat' (first | (with_reducible apply And.intro) | intro _)); all_goals (first | exact trivial | (with_reducible assumption) | (show (_ : List Blk) = _; rfl) | (first | exact trivial | (with_reducible assumption) | omega | (split <;> omega) | (split <;> split <;> omega)) | skip); all_goals (try (refine ⟨rfl, (by first | exact Nat.le_refl _ | exact Nat.le_of_ble_eq_true rfl), rfl, rfl, ?_, (by repeat' (first | exact trivial | rfl | apply And.intro)), rfl, rfl⟩)))
          exact ⟨hih [0, 1, 2, 3, 4, 5, 6, 7] _ _ ⟨rfl, rfl, rfl, (by repeat' (first | exact trivial | rfl | apply And.intro)), (by repeat' (first | exact trivial | rfl | apply And.intro)), rfl, rfl, rfl⟩⟩
      · rw [if_pos hb] at hq
        rw [hcx] at hb
        clear ihQ hcx
        generalize hnow : st.2.2.getD i [] = now at *
        unfold inG at hnG
        subst hq
        refine Goes.tree Γ_ok htb 1000 false false Tryz.func27 rfl ?_
        ((try simp only [decide_eq_true_eq, decide_eq_false_iff_not, Bool.not_eq_true', Bool.not_eq_false', Bool.not_true, Bool.not_false, Bool.and_eq_true, Bool.or_eq_true, bne_iff_ne, beq_iff_eq, ne_eq]); (try simp only [rng, lo, hi, mnI, mxI, Int.toNat_natCast, Sg.n, Nat.mul_one, Nat.zero_add, Nat.add_zero, Nat.reduceAdd, List.getD_cons_zero, List.getD_cons_succ, hnow]))
        (repeat' (first | (with_reducible apply And.intro) | intro _))
        all_goals (try with_reducible first | exact no_tf (by with_reducible assumption) | exact no_ft (by with_reducible assumption) | exact no_nt (by with_reducible assumption) | exact absurd (by with_reducible assumption) hb | exact absurd (nz_eq0 (by with_reducible assumption)) hb)
        all_goals (try first | exact trivial | (show (_ : List Blk) = _; rfl) | (first | exact trivial | (with_reducible assumption) | omega | (split <;> omega) | (split <;> split <;> omega)))
        refine ⟨?_⟩
        generalize hF : backF st.2.1 100 fl now = F at *
        refine Goes.loopR (fun q : Nat × Nat × List Int => q.2.1) (fun q => q.2.1 < q.1 ∧ q.2.1 < st.2.2.length ∧ BkInv (nbQ p) st q.2.1 q.2.2 ∧ backF st.2.1 q.1 q.2.2 (st.2.2.getD q.2.1 []) = F) (fun q => (.pw 0 .pas :: .pw 1 .flo :: .pw 2 .bgrid :: .pw 3 .bgrid :: .any :: .any :: .any :: .any :: .pw 4 .bgrid :: .any :: .pw 5 .bgrid :: .pw 6 .lgrid :: .any :: .any :: .any :: .any :: .pw 8 .spot :: .any :: .any :: .any :: .any :: .any :: .any :: .any :: .any :: .any :: .any :: .any :: .any :: .any :: .any :: .any :: .any :: .any :: .any :: .any :: .any :: .any :: .any :: .any :: .any :: .any :: .any :: .any :: .any :: .any :: .any :: .any :: .any :: .any :: .any :: .any :: .any :: .any :: .any :: .any :: .any :: .any :: .any :: .any :: .any :: .any :: .any :: .any :: .any :: .any :: .any :: .any :: .any :: .any :: .any :: .any :: .any :: .any :: .any :: .any :: .any :: .any :: .any :: .any :: .any :: .any :: .any :: .any :: .any :: .any :: .any :: .any :: .any :: .any :: .any :: .any :: .any :: .any :: .any :: .any :: .any :: .any :: .any :: .any :: .any :: .any :: .any :: .any :: .any :: .any :: .any :: .any :: .any :: .any :: .any :: .any :: .any :: .any :: .any :: .any :: .any :: .any :: .any :: .any :: .any :: .any :: .any :: .any :: .any :: .any :: .any :: .any :: .any :: .any :: .any :: .any :: .any :: .any :: .any :: .any :: .any :: .any :: .any :: .any :: .any :: .any :: .any :: .any :: .any :: .any :: .any :: .any :: .any :: .any :: .any :: .any :: .any :: .any :: .any :: .any :: .any :: []))
          (fun q => [.c .pas p, .c .flo q.2.2, .c .bgrid a, .c .bgrid b, .c .bgrid (List.replicate 100 0), .c .bgrid st.1, .c .lgrid st.2.1, .l .spot st.2.2, .c .spot (st.2.2.getD q.2.1 [])]) (100, i, fl) [0, 1, 2, 3, 4, 5, 6, 7, 8] ⟨by dsimp only; omega, hlt, hbk, by dsimp only; rw [hnow]; exact hF⟩ (by dsimp only; rw [hnow]; exact ⟨rfl, rfl, rfl, (by repeat' (first | exact trivial | rfl | apply And.intro)), (by repeat' (first | exact trivial | rfl | apply And.intro)), rfl, rfl, rfl⟩) fun q ⟨hq1, hq2, hq3, hq4⟩ ih => ?_
        obtain ⟨n, j, f⟩ := q
        dsimp only at hq1 hq2 hq3 hq4 ⊢
        obtain ⟨n, rfl⟩ : ∃ m, n = m + 1 := ⟨n - 1, by omega⟩
        have hjP := hisP _ (Fl.get_mem hq2)
        have hjC := hB.cells _ (Fl.get_mem hq2)
        have hjG := inG_of' hd hjP
        have hjl := Fl.isC_len hjC
        have hnear := near_of hd hjP
        have hstep := Fl.back_step (goQ_ok hd) hB hq2 hq3
        have hcx : ix (st.2.2.getD j []) = ((st.2.2.getD j []).getD 1 0).toNat * 10 + ((st.2.2.getD j []).getD 0 0).toNat := rfl
        unfold backF at hq4
        by_cases hby : 0 ≤ st.2.1.getD (ix (st.2.2.getD j [])) 0
        · obtain ⟨j', d, g1, g2, g3, g4, g5, g6, g7, g8, g9⟩ := hstep hby
          rw [if_neg (by omega), g2, g4] at hq4
          rw [g2] at hby
          rw [hcx] at g2
          have hj2 : j' < st.2.2.length := by omega
          have hbP := hisP _ (Fl.get_mem hj2)
          have hbC := hB.cells _ (Fl.get_mem hj2)
          have hbG := inG_of' hd hbP
          have hbl := Fl.isC_len hbC
          have g4' : ahead (st.2.2.getD j []) d = st.2.2.getD j' [] := g4
          have g6' : ahead (st.2.2.getD j' []) ((d + 2) % 4) = st.2.2.getD j [] := g6
          have htm : (d + 2).tmod 4 = (d + 2) % 4 := Int.tmod_eq_emod_of_nonneg (by omega)
          have ih := ih (n, j', fAdd f (st.2.2.getD j' []) ((d + 2) % 4)) ⟨by dsimp only; omega, hj2, g9, hq4⟩ (by dsimp only; omega)
          dsimp only at ih
          have hokA : okA f (st.2.2.getD j' []) ((d + 2) % 4) := ⟨hbl, hbG, by rw [g6']; exact hjG, by omega, by omega, g7, by omega⟩
          have hjG' := hjG
          unfold inG at hjG
          generalize st.2.2.getD j [] = now1 at *
          generalize st.2.2.getD j' [] = now2 at *
          refine Goes.tree Γ_ok htb 1000 false false Tryz.func27 rfl ?_
          ((try simp only [decide_eq_true_eq, decide_eq_false_iff_not, Bool.not_eq_true', Bool.not_eq_false', Bool.not_true, Bool.not_false, Bool.and_eq_true, Bool.or_eq_true, bne_iff_ne, beq_iff_eq, ne_eq]); (try simp only [rng, lo, hi, mnI, mxI, Int.toNat_natCast, Sg.n, Nat.mul_one, Nat.zero_add, Nat.add_zero, Nat.reduceAdd, List.getD_cons_zero, List.getD_cons_succ, g2, g4', htm]))
          (repeat' (first | (with_reducible apply And.intro) | intro _))
          all_goals (try with_reducible first | exact no_tf (by with_reducible assumption) | exact no_ft (by with_reducible assumption) | exact no_nt (by with_reducible assumption))
          all_goals (try first | exact trivial | (show (_ : List Blk) = _; rfl) | (first | exact trivial | (with_reducible assumption) | omega | (split <;> omega) | (split <;> split <;> omega)) | omega)
          exact ⟨ih [0, 1, 2, 3, 4, 5, 6, 7, 8] _ _ ⟨rfl, rfl, rfl, (by repeat' (first | exact trivial | rfl | apply And.intro)), (by repeat' (first | exact trivial | rfl | apply And.intro)), rfl, rfl, rfl⟩⟩
        · clear ih hstep
          rw [if_pos (by omega)] at hq4
          rw [hcx] at hby
          subst hq4
          unfold inG at hjG
          refine Goes.tree Γ_ok htb 1000 false false Tryz.func27 rfl ?_
          ((try simp only [decide_eq_true_eq, decide_eq_false_iff_not, Bool.not_eq_true', Bool.not_eq_false', Bool.not_true, Bool.not_false, Bool.and_eq_true, Bool.or_eq_true, bne_iff_ne, beq_iff_eq, ne_eq]); (try simp only [rng, lo, hi, mnI, mxI, Int.toNat_natCast, Sg.n, Nat.mul_one, Nat.zero_add, Nat.add_zero, Nat.reduceAdd, List.getD_cons_zero, List.getD_cons_succ]))
          (repeat' (first | (with_reducible apply And.intro) | intro _))
          all_goals (try with_reducible exact absurd (by with_reducible assumption) hby)
          all_goals (try first | exact trivial | (show (_ : List Blk) = _; rfl) | (first | exact trivial | (with_reducible assumption) | omega | (split <;> omega) | (split <;> split <;> omega)) | omega)
          (refine ⟨rfl, (by first | exact Nat.le_refl _ | exact Nat.le_of_ble_eq_true rfl), rfl, rfl, ?_, (by repeat' (first | exact trivial | rfl | apply And.intro)), rfl, rfl⟩)
          exact sameA_bb rfl
    · clear ihQ
      have hf101 : 101 - i = (100 - i) + 1 := by omega
      rw [hf101, reachN, if_neg hlt] at hq
      subst hq
      refine Goes.tree Γ_ok htb 1000 false false Tryz.func27 rfl ?_
      ((try simp only [decide_eq_true_eq, decide_eq_false_iff_not, Bool.not_eq_true', Bool.not_eq_false', Bool.not_true, Bool.not_false, Bool.and_eq_true, Bool.or_eq_true, bne_iff_ne, beq_iff_eq, ne_eq]); (try simp only [rng, lo, hi, mnI, mxI, Int.toNat_natCast, Sg.n, Nat.mul_one, Nat.zero_add, Nat.add_zero, Nat.reduceAdd, List.getD_cons_zero, List.getD_cons_succ]))
      ((repeat' (first | (with_reducible apply And.intro) | intro _)); all_goals (first | exact trivial | (with_reducible assumption) | (show (_ : List Blk) = _; rfl) | (first | exact trivial | (with_reducible assumption) | omega | (split <;> omega) | (split <;> split <;> omega)) | skip); all_goals (try (refine ⟨rfl, (by first | exact Nat.le_refl _ | exact Nat.le_of_ble_eq_true rfl), rfl, rfl, ?_, (by repeat' (first | exact trivial | rfl | apply And.intro)), rfl, rfl⟩)))
      all_goals (first | contradiction | exact sameA_bb rfl)
end Go.Proofs.YtjbgjgkogmlpfaaGreat
