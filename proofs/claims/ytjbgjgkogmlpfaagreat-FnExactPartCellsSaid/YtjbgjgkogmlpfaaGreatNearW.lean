/- impl.nearSide: rounds of pushes; the cells that are met last. -/
import Derived.Test.YtjbgjgkogmlpfaaGreatPushW
import Derived.Test.YtjbgjgkogmlpfaaGreatSt0
import Derived.Test.YtjbgjgkogmlpfaaGreatFilt
namespace Go.Proofs.YtjbgjgkogmlpfaaGreat
open Go Go.Eng
set_option linter.unusedSimpArgs false
set_option linter.unusedVariables false
open Go.Proofs.YtjbgjgkogmlpfaaGreat.Fl (cl isC GoOk FL FlOk FlInv pushN pushL sendN un valL matF)
set_option maxRecDepth 100000
set_option maxHeartbeats 4000000

def metB (es : FL) (s : List Int) : Bool := lkM es s != 0
def metS : Fun
  | [.ag .spot s, .pw 0 .ref], [.r [.mp 1], .m .spot .bool es] => some (.b (metB es s), [.r [.mp 1], .m .spot .bool es], [])
  | _, _ => .none
set_option maxRecDepth 100000 in
theorem s_met : Sound Tryz.prog 45 metS := by
  intro args M r M' vs h hvs
  unfold metS at h
  split at h
  case h_2 => cases h
  rename_i s es
  cases h
  refine SpecOK.assume fun hA hM => ?_
  have htb := (TbOk.nil : TbOk Tryz.prog tb0)
  refine SpecOK.of_goes [0, 1] Tryz.func45 rfl ?_
  clear hA hM
  refine Goes.tree Γ_ok htb 1000 false false Tryz.func45 rfl ?_
  ((try simp only [decide_eq_true_eq, decide_eq_false_iff_not, Bool.not_eq_true', Bool.not_eq_false', Bool.not_true, Bool.not_false, Bool.and_eq_true, Bool.or_eq_true, bne_iff_ne, beq_iff_eq, ne_eq]); (try simp only [rng, lo, hi, mnI, mxI, Int.toNat_natCast, Sg.n, Nat.mul_one, Nat.zero_add, Nat.add_zero, Nat.reduceAdd, List.getD_cons_zero, List.getD_cons_succ]))
  ((repeat' (first | (with_reducible apply And.intro) | intro _)); all_goals (first | exact trivial | (with_reducible assumption) | (show (_ : List Blk) = _; rfl) | (first | exact trivial | (with_reducible assumption) | omega | (split <;> omega) | (split <;> split <;> omega)) | skip); all_goals (try (refine ⟨rfl, (by first | exact Nat.le_refl _ | exact Nat.le_of_ble_eq_true rfl), rfl, rfl, ?_, (by repeat' (first | exact trivial | rfl | apply And.intro)), rfl, rfl⟩)))
  all_goals exact sameA_refl _
def cellsMetS : Fun
  | [.ag .pas p, .fn 45 [(0, .ref)]], [.r [.mp 1], .m .spot .bool es] => some (.ow 2 (spotsF (metB es) (p.getD 0 0).toNat (p.getD 1 0).toNat).length .spot 54, [.r [.mp 1], .m .spot .bool es, .l .spot (spotsF (metB es) (p.getD 0 0).toNat (p.getD 1 0).toNat)], [okD p])
  | _, _ => .none
set_option maxRecDepth 100000 in
theorem s_cellsMet : Sound Tryz.prog 44 cellsMetS := by
  intro args M r M' vs h hvs
  unfold cellsMetS at h
  split at h
  case h_2 => cases h
  rename_i p es
  cases h
  refine SpecOK.assume fun hA hM => ?_
  have htb := (TbOk.cons s_met Tryz.func45 rfl rfl (TbOk.nil : TbOk Tryz.prog tb0))
  refine SpecOK.of_goes [0, 1, 3] Tryz.func44 rfl ?_
  obtain ⟨⟨hw1, hw2, hh1, hh2⟩, -⟩ := hvs
  clear hA hM
  have hb : ∀ y, y ≤ (p.getD 1 0).toNat → (p.getD 0 0).toNat * y ≤ 10 * 10 := fun y hy => Nat.mul_le_mul (by omega) (by omega)
  refine Goes.tree Γ_ok htb 1000 false false Tryz.func44 rfl ?_
  refine ⟨?_⟩
  refine Goes.loopR (fun y : Nat => (p.getD 1 0).toNat - y) (fun y => y ≤ (p.getD 1 0).toNat) (fun y => (.any :: .fn 45 [(0, .ref)] :: .pw 2 .pas :: .any :: .any :: .ow 3 (spotsF (metB es) (p.getD 0 0).toNat y).length .spot 54 :: .any :: .any :: .any :: .any :: .any :: .i .i8 (p.getD 1 0) :: .i .i8 (y:Int) :: .any :: .any :: .any :: .any :: .any :: .any :: .any :: .any :: .any :: .any :: .any :: .any :: .any :: .any :: .any :: .any :: .any :: .any :: .any :: .any :: []))
    (fun y => [.r [.mp 1], .m .spot .bool es, .c .pas p, .l .spot (spotsF (metB es) (p.getD 0 0).toNat y)]) 0 [0, 1, 2, 3] (by omega) ⟨rfl, rfl, rfl, (by repeat' (first | exact trivial | rfl | apply And.intro)), (by repeat' (first | exact trivial | rfl | apply And.intro)), rfl, rfl, rfl⟩ fun y hy ihO => ?_
  have hb1 := hb y hy
  by_cases hlt : (y : Int) < p.getD 1 0
  · refine Goes.tree Γ_ok htb 1000 false false Tryz.func44 rfl ?_
    ((try simp only [decide_eq_true_eq, decide_eq_false_iff_not, Bool.not_eq_true', Bool.not_eq_false', Bool.not_true, Bool.not_false, Bool.and_eq_true, Bool.or_eq_true, bne_iff_ne, beq_iff_eq, ne_eq]); (try simp only [rng, lo, hi, mnI, mxI, Int.toNat_natCast, Sg.n, Nat.mul_one, Nat.zero_add, Nat.add_zero, Nat.reduceAdd, List.getD_cons_zero, List.getD_cons_succ]))
    ((repeat' (first | (with_reducible apply And.intro) | intro _)); all_goals (first | exact trivial | (with_reducible assumption) | (show (_ : List Blk) = _; rfl) | (first | exact trivial | (with_reducible assumption) | omega | (split <;> omega) | (split <;> split <;> omega)) | skip); all_goals (try (refine ⟨rfl, (by first | exact Nat.le_refl _ | exact Nat.le_of_ble_eq_true rfl), rfl, rfl, ?_, (by repeat' (first | exact trivial | rfl | apply And.intro)), rfl, rfl⟩)))
    refine ⟨?_⟩
    refine Goes.loopR (fun x : Nat => (p.getD 0 0).toNat - x) (fun x => x ≤ (p.getD 0 0).toNat) (fun x => (.any :: .fn 45 [(0, .ref)] :: .pw 2 .pas :: .any :: .any :: .ow 3 (rowF (metB es) (spotsF (metB es) (p.getD 0 0).toNat y) y x).length .spot 54 :: .i .i8 (y:Int) :: .any :: .any :: .any :: .any :: .i .i8 (p.getD 1 0) :: .i .i8 (y:Int) :: .any :: .any :: .any :: .i .i8 (p.getD 0 0) :: .i .i8 (x:Int) :: .any :: .any :: .any :: .any :: .any :: .any :: .any :: .any :: .any :: .any :: .any :: .any :: .any :: .any :: .any :: []))
      (fun x => [.r [.mp 1], .m .spot .bool es, .c .pas p, .l .spot (rowF (metB es) (spotsF (metB es) (p.getD 0 0).toNat y) y x)]) 0 [0, 1, 2, 3] (by omega) ⟨rfl, rfl, rfl, (by repeat' (first | exact trivial | rfl | apply And.intro)), (by repeat' (first | exact trivial | rfl | apply And.intro)), rfl, rfl, rfl⟩ fun x hx ih => ?_
    have l1 := rowF_len (metB es) (spotsF (metB es) (p.getD 0 0).toNat y) y x
    have l2 := spotsF_len (metB es) (p.getD 0 0).toNat y
    have hyes : metB es [(x:Int), (y:Int)] = true → rowF (metB es) (spotsF (metB es) (p.getD 0 0).toNat y) y (x + 1) = rowF (metB es) (spotsF (metB es) (p.getD 0 0).toNat y) y x ++ [[(x : Int), (y : Int)]] := fun h => by rw [rowF, if_pos h]
    have hno : metB es [(x:Int), (y:Int)] = false → rowF (metB es) (spotsF (metB es) (p.getD 0 0).toNat y) y (x + 1) = rowF (metB es) (spotsF (metB es) (p.getD 0 0).toNat y) y x := fun h => by rw [rowF, if_neg (by rw [h]; decide)]
    refine Goes.tree Γ_ok htb 1000 false false Tryz.func44 rfl ?_
    ((try simp only [decide_eq_true_eq, decide_eq_false_iff_not, Bool.not_eq_true', Bool.not_eq_false', Bool.not_true, Bool.not_false, Bool.and_eq_true, Bool.or_eq_true, bne_iff_ne, beq_iff_eq, ne_eq]); (try simp only [rng, lo, hi, mnI, mxI, Int.toNat_natCast, Sg.n, Nat.mul_one, Nat.zero_add, Nat.add_zero, Nat.reduceAdd, List.getD_cons_zero, List.getD_cons_succ, one_row]))
    ((repeat' (first | (with_reducible apply And.intro) | intro _)); all_goals (first | exact trivial | (with_reducible assumption) | (show (_ : List Blk) = _; rfl) | (first | exact trivial | (with_reducible assumption) | omega | (split <;> omega) | (split <;> split <;> omega)) | skip); all_goals (try (refine ⟨rfl, (by first | exact Nat.le_refl _ | exact Nat.le_of_ble_eq_true rfl), rfl, rfl, ?_, (by repeat' (first | exact trivial | rfl | apply And.intro)), rfl, rfl⟩)))
    · show (rowF (metB es) (spotsF (metB es) (p.getD 0 0).toNat y) y x ++ [[(x:Int), (y:Int)]]).length ≤ _
      simp only [List.length_append, List.length_cons, List.length_nil]; omega
    · refine ⟨ih (x + 1) (by omega) (by omega) [0, 1, 2, 6] _ _ ?_⟩
      rw [hyes (by assumption)]
      exact ⟨rfl, rfl, rfl, (by repeat' (first | exact trivial | rfl | apply And.intro)), (by repeat' (first | exact trivial | rfl | apply And.intro)), rfl, rfl, rfl⟩
    · refine ⟨ih (x + 1) (by omega) (by omega) [0, 1, 2, 3] _ _ ?_⟩
      rw [hno (by assumption)]
      exact ⟨rfl, rfl, rfl, (by repeat' (first | exact trivial | rfl | apply And.intro)), (by repeat' (first | exact trivial | rfl | apply And.intro)), rfl, rfl, rfl⟩
    · obtain rfl : x = (p.getD 0 0).toNat := by omega
      exact ⟨ihO (y + 1) (by omega) (by omega) [0, 1, 2, 3] _ _ ⟨rfl, rfl, rfl, (by repeat' (first | exact trivial | rfl | apply And.intro)), (by repeat' (first | exact trivial | rfl | apply And.intro)), rfl, rfl, rfl⟩⟩
  · obtain rfl : y = (p.getD 1 0).toNat := by omega
    clear ihO
    refine Goes.tree Γ_ok htb 1000 false false Tryz.func44 rfl ?_
    ((try simp only [decide_eq_true_eq, decide_eq_false_iff_not, Bool.not_eq_true', Bool.not_eq_false', Bool.not_true, Bool.not_false, Bool.and_eq_true, Bool.or_eq_true, bne_iff_ne, beq_iff_eq, ne_eq]); (try simp only [rng, lo, hi, mnI, mxI, Int.toNat_natCast, Sg.n, Nat.mul_one, Nat.zero_add, Nat.add_zero, Nat.reduceAdd, List.getD_cons_zero, List.getD_cons_succ]))
    ((repeat' (first | (with_reducible apply And.intro) | intro _)); all_goals (first | exact trivial | (with_reducible assumption) | (show (_ : List Blk) = _; rfl) | (first | exact trivial | (with_reducible assumption) | omega | (split <;> omega) | (split <;> split <;> omega)) | skip); all_goals (try (refine ⟨rfl, (by first | exact Nat.le_refl _ | exact Nat.le_of_ble_eq_true rfl), rfl, rfl, ?_, (by repeat' (first | exact trivial | rfl | apply And.intro)), rfl, rfl⟩)))
    all_goals (first | contradiction | exact sameA_refl _)

noncomputable def nearL (p : List Int) (A G : List (List Int)) : List (List Int) := spotsF (nearQ p A G) (p.getD 0 0).toNat (p.getD 1 0).toNat
theorem metB_dec (es : FL) (s : List Int) : metB es s = decide (lkM es s ≠ 0) := by
  unfold metB
  by_cases h : lkM es s = 0
  · rw [decide_eq_false (by simp [h]), h]; rfl
  · rw [decide_eq_true h]; simpa using h
theorem rowF_eqv {f g : List Int → Bool} {acc : List (List Int)} {y : Nat} : ∀ x : Nat, (∀ i, i < x → f [(i : Int), (y : Int)] = g [(i : Int), (y : Int)]) → rowF f acc y x = rowF g acc y x
  | 0, _ => rfl
  | x + 1, h => by
    unfold rowF
    rw [rowF_eqv x fun i hi => h i (by omega), h x (by omega)]
theorem spotsF_eqv {f g : List Int → Bool} {w : Nat} : ∀ y : Nat, (∀ i j, i < w → j < y → f [(i : Int), (j : Int)] = g [(i : Int), (j : Int)]) → spotsF f w y = spotsF g w y
  | 0, _ => rfl
  | y + 1, h => by
    unfold spotsF
    rw [spotsF_eqv y fun i j hi hj => h i j hi (by omega), rowF_eqv w fun i hi => h i y hi (by omega)]
theorem nearL_met {p : List Int} {A G : List (List Int)} {es : FL} (hd : okD p) (h : ∀ k, k < 100 → nearQ p A G (cl k) = metB es (cl k)) : nearL p A G = spotsF (metB es) (p.getD 0 0).toNat (p.getD 1 0).toNat := by
  obtain ⟨h1, h2, h3, h4⟩ := hd
  refine spotsF_eqv _ fun i j hi hj => ?_
  rw [cl_xy (by omega)]
  exact h _ (by omega)
def inP (p : List Int) (A : List (List Int)) : Prop := ∀ s, s ∈ A → isP p s = true
noncomputable def nearIS : Fun
  | [.ag .pas p, .fs .spot A, .fs .spot G], [] => some (.ow 0 (nearL p A G).length .spot 54, [.l .spot (nearL p A G)], [okD p ∧ inP p A ∧ inP p G ∧ ∀ s, s ∈ A → s ∉ G])
  | _, _ => .none
set_option maxRecDepth 100000 in
theorem s_nearSide : Sound Tryz.prog 22 nearIS := by
  intro args M r M' vs h hvs
  unfold nearIS at h
  split at h
  case h_2 => cases h
  rename_i p A G
  cases h
  refine SpecOK.assume fun hA hM => ?_
  have htb := (TbOk.cons s_push101 Tryz.func43 rfl rfl (TbOk.cons s_cellsMet Tryz.func44 rfl rfl (TbOk.nil : TbOk Tryz.prog tb0)))
  refine SpecOK.of_goes [4] Tryz.func22 rfl ?_
  obtain ⟨⟨hd, hAp, hGp, hdis⟩, -⟩ := hvs
  have hAm : A.length ≤ maxLen := hA.2.2.1
  have hA2 : ∀ s, s ∈ A → s.length = 2 := fun s hs => (hA.2.2.2.1 s hs).1
  have hG2 : ∀ s, s ∈ G → s.length = 2 := fun s hs => (hA.2.2.2.2.2.1 s hs).1
  have hm : maxLen = 9223372036854775807 := rfl
  clear hA hM
  have hAC : ∀ s, s ∈ A → isC s := fun s hs => isC_of hd (hAp s hs) (hA2 s hs)
  refine Goes.tree Γ_ok htb 1000 false false Tryz.func22 rfl ?_
  ((try simp only [decide_eq_true_eq, decide_eq_false_iff_not, Bool.not_eq_true', Bool.not_eq_false', Bool.not_true, Bool.not_false, Bool.and_eq_true, Bool.or_eq_true, bne_iff_ne, beq_iff_eq, ne_eq]); (try simp only [rng, lo, hi, mnI, mxI, Int.toNat_natCast, Sg.n, Nat.mul_one, Nat.zero_add, Nat.add_zero, Nat.reduceAdd, List.getD_cons_zero, List.getD_cons_succ]))
  ((repeat' (first | (with_reducible apply And.intro) | intro _)); all_goals (first | exact trivial | (with_reducible assumption) | (show (_ : List Blk) = _; rfl) | (first | exact trivial | (with_reducible assumption) | omega | (split <;> omega) | (split <;> split <;> omega)) | skip); all_goals (try (refine ⟨rfl, (by first | exact Nat.le_refl _ | exact Nat.le_of_ble_eq_true rfl), rfl, rfl, ?_, (by repeat' (first | exact trivial | rfl | apply And.intro)), rfl, rfl⟩)))
  refine ⟨?_⟩
  refine Goes.loopR (fun f : FL => (10000 - valL A (matF f)).toNat) (fun f => FlInv (nbQ p) A G f) (fun f => (.any :: .fs .spot A :: .fs .spot G :: .pw 0 .pas :: .any :: .any :: .any :: .mp 1 :: .any :: .any :: .any :: .any :: .any :: .any :: .any :: .any :: .any :: .any :: .any :: .any :: .any :: .any :: .any :: .any :: .any :: .any :: .any :: .any :: .any :: .any :: .any :: .any :: .any :: .any :: .any :: .any :: .any :: .any :: [])) (fun f => [.c .pas p, .m .sp2 .bool f]) [] [0, 1] (FlInv.nil _ _ _) ⟨rfl, rfl, rfl, (by repeat' (first | exact trivial | rfl | apply And.intro)), (by repeat' (first | exact trivial | rfl | apply And.intro)), rfl, rfl, rfl⟩ fun f hf ihO => ?_
  refine Goes.tree Γ_ok htb 1000 false false Tryz.func22 rfl ?_
  ((try simp only [decide_eq_true_eq, decide_eq_false_iff_not, Bool.not_eq_true', Bool.not_eq_false', Bool.not_true, Bool.not_false, Bool.and_eq_true, Bool.or_eq_true, bne_iff_ne, beq_iff_eq, ne_eq]); (try simp only [rng, lo, hi, mnI, mxI, Int.toNat_natCast, Sg.n, Nat.mul_one, Nat.zero_add, Nat.add_zero, Nat.reduceAdd, List.getD_cons_zero, List.getD_cons_succ]))
  ((repeat' (first | (with_reducible apply And.intro) | intro _)); all_goals (first | exact trivial | (with_reducible assumption) | (show (_ : List Blk) = _; rfl) | (first | exact trivial | (with_reducible assumption) | omega | (split <;> omega) | (split <;> split <;> omega)) | skip); all_goals (try (refine ⟨rfl, (by first | exact Nat.le_refl _ | exact Nat.le_of_ble_eq_true rfl), rfl, rfl, ?_, (by repeat' (first | exact trivial | rfl | apply And.intro)), rfl, rfl⟩)))
  have hsend := Fl.send_ok (nbQ_ok hd) (A := A) (G := G) (n := 101) hAC A f [] (fun t ht => ht) hf.ok (by decide)
  have hstep := fun h => FlInv.step hf hsend h hdis
  have hnear := fun h => FlInv.near (nbQ_ok hd) nbQ_sym hAC hf hsend h
  have hle := fun (f' : FL) (h : FlInv (nbQ p) A G f') => Fl.valL_le h.flow hdis
  generalize hR : sendN (nbQ p) G 101 A f [] = R at *
  refine ⟨?_⟩
  refine Goes.loopR (fun st : Nat × FL => A.length - st.1) (fun st => st.1 ≤ A.length ∧ un st.2 < 101 ∧ sendN (nbQ p) G 101 (A.drop st.1) f st.2 = R) (fun st => (.any :: .fs .spot A :: .fs .spot G :: .pw 0 .pas :: .any :: .any :: .any :: .mp 1 :: .pw 3 .ref :: .d false :: .any :: .any :: .any :: .any :: .fs .spot A :: .i .i64 (A.length:Int) :: .i .i64 (st.1:Int) :: .any :: .any :: .any :: .any :: .any :: .any :: .any :: .any :: .any :: .any :: .any :: .any :: .any :: .any :: .any :: .any :: .any :: .any :: .any :: .any :: .any :: []))
    (fun st => [.c .pas p, .m .sp2 .bool f, .m .spot .bool st.2, .r [.mp 2]]) (0, []) [0, 1, 2, 3] ⟨Nat.zero_le _, (by decide), hR⟩ ⟨rfl, rfl, rfl, (by repeat' (first | exact trivial | rfl | apply And.intro)), (by repeat' (first | exact trivial | rfl | apply And.intro)), rfl, rfl, rfl⟩ fun st ⟨hle', hun, hst⟩ ih => ?_
  obtain ⟨i, m1⟩ := st
  dsimp only at hle' hun hst ⊢
  by_cases hlt : i < A.length
  · have htm := Fl.get_mem hlt
    have htp := hAp _ htm
    have htl := hA2 _ htm
    have htC := hAC _ htm
    have hdr : A.drop i = A.getD i [] :: A.drop (i + 1) := by
      rw [List.drop_eq_getElem_cons hlt, List.getD_eq_getElem?_getD, List.getElem?_eq_getElem hlt]; rfl
    rw [hdr] at hst
    generalize hbt : A.getD i [] = t at *
    have hP := fun h0 : lkM m1 t = 0 => Fl.push_ok (nbQ_ok hd) (G := G) 101 f m1 t htC hf.ok h0 hun
    generalize hrr : pushN (nbQ p) G 101 f m1 t = r at *
    have hskip : ¬ lkM m1 t = 0 → sendN (nbQ p) G 101 (A.drop (i + 1)) f m1 = R := fun h => by rw [← hst, sendN, if_neg h]
    have hyes : lkM m1 t = 0 → r.1 = true → R = (true, r.2.1, r.2.2) := fun h1 h3 => by rw [← hst, sendN, if_pos h1, hrr, if_pos h3]
    have hno : lkM m1 t = 0 → r.1 = false → sendN (nbQ p) G 101 (A.drop (i + 1)) r.2.1 r.2.2 = R := fun h1 h3 => by rw [← hst, sendN, if_pos h1, hrr, if_neg (by rw [h3]; decide)]
    clear hst hR
    refine Goes.tree Γ_ok htb 1000 false false Tryz.func22 rfl ?_
    ((try simp only [decide_eq_true_eq, decide_eq_false_iff_not, Bool.not_eq_true', Bool.not_eq_false', Bool.not_true, Bool.not_false, Bool.and_eq_true, Bool.or_eq_true, bne_iff_ne, beq_iff_eq, ne_eq]); (try simp only [rng, lo, hi, mnI, mxI, Int.toNat_natCast, Sg.n, Nat.mul_one, Nat.zero_add, Nat.add_zero, Nat.reduceAdd, List.getD_cons_zero, List.getD_cons_succ, hbt, hrr]))
    (repeat' (first | (with_reducible apply And.intro) | intro _))
    all_goals (try with_reducible first | exact no_tf (by with_reducible assumption) | exact no_ft (by with_reducible assumption))
    all_goals (try first | exact trivial | (first | exact trivial | (with_reducible assumption) | omega | (split <;> omega) | (split <;> split <;> omega)))
    · exact nz_eq ‹(lkM m1 t != 0) = false›
    · exact hf.ok
    · rename_i h3
      rw [hyes (nz_eq ‹(lkM m1 t != 0) = false›) h3] at hstep
      obtain ⟨h5, h6⟩ := hstep rfl
      have h7 := hle _ h5
      dsimp only at h5 h6 h7
      exact ⟨ihO r.2.1 h5 (by omega) [0, 1] _ _ ⟨rfl, rfl, rfl, (by repeat' (first | exact trivial | rfl | apply And.intro)), (by repeat' (first | exact trivial | rfl | apply And.intro)), rfl, rfl, rfl⟩⟩
    · rename_i h3
      have h1 := nz_eq ‹(lkM m1 t != 0) = false›
      have hno := hno h1 h3
      have hPp := hP h1
      obtain ⟨hPf, -, -⟩ := hPp.no h3
      rw [hPf] at hno ⊢
      exact ⟨ih (i + 1, r.2.2) ⟨hlt, Nat.lt_of_le_of_lt (Fl.un_mono hPp.gr) hun, hno⟩ (by dsimp only; omega) [0, 1, 2, 3] _ _ ⟨rfl, rfl, rfl, (by repeat' (first | exact trivial | rfl | apply And.intro)), (by repeat' (first | exact trivial | rfl | apply And.intro)), rfl, rfl, rfl⟩⟩
    · rename_i h1
      exact ⟨ih (i + 1, m1) ⟨hlt, hun, hskip h1⟩ (by dsimp only; omega) [0, 1, 2, 3] _ _ ⟨rfl, rfl, rfl, (by repeat' (first | exact trivial | rfl | apply And.intro)), (by repeat' (first | exact trivial | rfl | apply And.intro)), rfl, rfl, rfl⟩⟩
  · obtain rfl : i = A.length := by omega
    clear ih
    rw [List.drop_length] at hst
    obtain rfl : (false, f, m1) = R := hst
    have hnr := hnear rfl
    rw [nearL_met hd fun k hk => (decide_eq_decide.2 (Fl.nearP_iff hf.flow hnr hk)).trans (metB_dec m1 (cl k)).symm]
    refine Goes.tree Γ_ok htb 1000 false false Tryz.func22 rfl ?_
    ((try simp only [decide_eq_true_eq, decide_eq_false_iff_not, Bool.not_eq_true', Bool.not_eq_false', Bool.not_true, Bool.not_false, Bool.and_eq_true, Bool.or_eq_true, bne_iff_ne, beq_iff_eq, ne_eq]); (try simp only [rng, lo, hi, mnI, mxI, Int.toNat_natCast, Sg.n, Nat.mul_one, Nat.zero_add, Nat.add_zero, Nat.reduceAdd, List.getD_cons_zero, List.getD_cons_succ]))
    (repeat' (first | (with_reducible apply And.intro) | intro _))
    all_goals (try with_reducible exact absurd (by with_reducible assumption : (A.length : Int) < A.length) (Int.lt_irrefl _))
    all_goals (try first | exact trivial | (first | exact trivial | (with_reducible assumption) | omega | (split <;> omega) | (split <;> split <;> omega)) | exact hd)
    (refine ⟨rfl, (by first | exact Nat.le_refl _ | exact Nat.le_of_ble_eq_true rfl), rfl, rfl, ?_, (by repeat' (first | exact trivial | rfl | apply And.intro)), rfl, rfl⟩)
    exact sameA_refl _
end Go.Proofs.YtjbgjgkogmlpfaaGreat
