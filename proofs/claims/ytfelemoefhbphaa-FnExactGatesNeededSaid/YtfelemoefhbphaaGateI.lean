/- How many gates: the program. -/
import Derived.Test.YtfelemoefhbphaaGateS
import Derived.Test.YtfelemoefhbphaaPair
import Derived.Test.YtfelemoefhbphaaSideOf
namespace Go.Proofs.Ytfelemoefhbphaa
open Go Go.Eng
set_option linter.unusedSimpArgs false
set_option linter.unusedVariables false
set_option maxRecDepth 100000
set_option maxHeartbeats 4000000

def inTGS : Fun
  | [.ag .spot c, .pw 0 .grid], [.c .grid T] => some (.b (inT T c), [.c .grid T], [inG c ∧ ∀ j, -1 ≤ T.getD j 0 ∧ T.getD j 0 ≤ 100])
  | _, _ => .none
set_option maxRecDepth 100000 in
theorem s_inTG : Sound Try.prog 109 inTGS := by
  intro args M r M' vs h hvs
  unfold inTGS at h
  split at h
  case h_2 => cases h
  rename_i c T
  cases h
  refine SpecOK.assume fun hA hM => ?_
  have htb := (TbOk.cons s_stepAt Try.func110 rfl rfl (TbOk.nil : TbOk Try.prog tb0))
  refine SpecOK.of_goes [0] Try.func109 rfl ?_
  obtain ⟨⟨hb, hr⟩, -⟩ := hvs
  clear hA hM
  refine Goes.tree Γ_ok htb 1000 false false Try.func109 rfl ?_
  ((try simp only [decide_eq_true_eq, decide_eq_false_iff_not, Bool.not_eq_true', Bool.not_eq_false', Bool.not_true, Bool.not_false, Bool.and_eq_true, Bool.or_eq_true, bne_iff_ne, beq_iff_eq, ne_eq]); (try simp only [rng, lo, hi, mnI, mxI, Int.toNat_natCast, Sg.n, Nat.mul_one, Nat.zero_add, Nat.add_zero, Nat.reduceAdd, List.getD_cons_zero, List.getD_cons_succ]))
  ((repeat' (first | (with_reducible apply And.intro) | intro _)); all_goals (first | exact trivial | (with_reducible assumption) | (show (_ : List Blk) = _; rfl) | (first | exact trivial | (with_reducible assumption) | omega | (split <;> omega) | (split <;> split <;> omega)) | skip); all_goals (try (refine ⟨rfl, (by first | exact Nat.le_refl _ | exact Nat.le_of_ble_eq_true rfl), rfl, rfl, ?_, (by repeat' (first | exact trivial | rfl | apply And.intro)), rfl, rfl⟩)))
  all_goals (first | exact hb | exact (hr _).1 | exact (hr _).2 | exact sameA_refl _)
def cellsGateS : Fun
  | [.ag .pas p, .fn 109 [(0, .grid)]], [.c .grid T] => some (.fs .spot (spotsF (inT T) (p.getD 0 0).toNat (p.getD 1 0).toNat), [.c .grid T], [okD p ∧ (∀ j, -1 ≤ T.getD j 0 ∧ T.getD j 0 ≤ 100)])
  | _, _ => .none

set_option maxRecDepth 100000 in
theorem s_cellsGate : Sound Try.prog 108 cellsGateS := by
  intro args M r M' vs h hvs
  unfold cellsGateS at h
  split at h
  case h_2 => cases h
  rename_i p T
  cases h
  refine SpecOK.assume fun hA hM => ?_
  have htb := (TbOk.cons s_inTG Try.func109 rfl rfl (TbOk.nil : TbOk Try.prog tb0))
  refine SpecOK.of_goes [0] Try.func108 rfl ?_
  obtain ⟨⟨⟨hw1, hw2, hh1, hh2⟩, hcond⟩, -⟩ := hvs
  clear hA hM
  have hb : ∀ y, y ≤ (p.getD 1 0).toNat → (p.getD 0 0).toNat * y ≤ 10 * 10 := fun y hy => Nat.mul_le_mul (by omega) (by omega)
  refine Goes.tree Γ_ok htb 1000 true false Try.func108 rfl ?_
  refine ⟨?_⟩
  refine Goes.loopR (fun y : Nat => (p.getD 1 0).toNat - y) (fun y => y ≤ (p.getD 1 0).toNat) (fun y => (.any :: .fn 109 [(0, .grid)] :: .pw 1 .pas :: .any :: .any :: .ow 2 (spotsF (inT T) (p.getD 0 0).toNat y).length .spot 37 :: .any :: .any :: .any :: .any :: .any :: .i .i8 (p.getD 1 0) :: .i .i8 (y:Int) :: .any :: .any :: .any :: .any :: .any :: .any :: .any :: .any :: .any :: .any :: .any :: .any :: .any :: .any :: .any :: .any :: .any :: .any :: .any :: .any :: []))
    (fun y => [.c .grid T, .c .pas p, .l .spot (spotsF (inT T) (p.getD 0 0).toNat y)]) 0 [0, 1, 2] (by omega) ⟨rfl, rfl, rfl, (by repeat' (first | exact trivial | rfl | apply And.intro)), (by repeat' (first | exact trivial | rfl | apply And.intro)), rfl, rfl, rfl⟩ fun y hy ihO => ?_
  have hb1 := hb y hy
  by_cases hlt : (y : Int) < p.getD 1 0
  · refine Goes.tree Γ_ok htb 1000 true false Try.func108 rfl ?_
    ((try simp only [decide_eq_true_eq, decide_eq_false_iff_not, Bool.not_eq_true', Bool.not_eq_false', Bool.not_true, Bool.not_false, Bool.and_eq_true, Bool.or_eq_true, bne_iff_ne, beq_iff_eq, ne_eq]); (try simp only [rng, lo, hi, mnI, mxI, Int.toNat_natCast, Sg.n, Nat.mul_one, Nat.zero_add, Nat.add_zero, Nat.reduceAdd, List.getD_cons_zero, List.getD_cons_succ]))
    ((repeat' (first | (with_reducible apply And.intro) | intro _)); all_goals (first | exact trivial | (with_reducible assumption) | (show (_ : List Blk) = _; rfl) | (first | exact trivial | (with_reducible assumption) | omega | (split <;> omega) | (split <;> split <;> omega)) | skip); all_goals (try (refine ⟨rfl, (by first | exact Nat.le_refl _ | exact Nat.le_of_ble_eq_true rfl), rfl, rfl, ?_, (by repeat' (first | exact trivial | rfl | apply And.intro)), rfl, rfl⟩)))
    refine ⟨?_⟩
    refine Goes.loopR (fun x : Nat => (p.getD 0 0).toNat - x) (fun x => x ≤ (p.getD 0 0).toNat) (fun x => (.any :: .fn 109 [(0, .grid)] :: .pw 1 .pas :: .any :: .any :: .ow 2 (rowF (inT T) (spotsF (inT T) (p.getD 0 0).toNat y) y x).length .spot 37 :: .i .i8 (y:Int) :: .any :: .any :: .any :: .any :: .i .i8 (p.getD 1 0) :: .i .i8 (y:Int) :: .any :: .any :: .any :: .i .i8 (p.getD 0 0) :: .i .i8 (x:Int) :: .any :: .any :: .any :: .any :: .any :: .any :: .any :: .any :: .any :: .any :: .any :: .any :: .any :: .any :: .any :: []))
      (fun x => [.c .grid T, .c .pas p, .l .spot (rowF (inT T) (spotsF (inT T) (p.getD 0 0).toNat y) y x)]) 0 [0, 1, 2] (by omega) ⟨rfl, rfl, rfl, (by repeat' (first | exact trivial | rfl | apply And.intro)), (by repeat' (first | exact trivial | rfl | apply And.intro)), rfl, rfl, rfl⟩ fun x hx ih => ?_
    have l1 := rowF_len (inT T) (spotsF (inT T) (p.getD 0 0).toNat y) y x
    have l2 := spotsF_len (inT T) (p.getD 0 0).toNat y
    have hyes : (inT T) [(x:Int), (y:Int)] = true → rowF (inT T) (spotsF (inT T) (p.getD 0 0).toNat y) y (x + 1) = rowF (inT T) (spotsF (inT T) (p.getD 0 0).toNat y) y x ++ [[(x : Int), (y : Int)]] := fun h => by rw [rowF, if_pos h]
    have hno : (inT T) [(x:Int), (y:Int)] = false → rowF (inT T) (spotsF (inT T) (p.getD 0 0).toNat y) y (x + 1) = rowF (inT T) (spotsF (inT T) (p.getD 0 0).toNat y) y x := fun h => by rw [rowF, if_neg (by rw [h]; decide)]
    refine Goes.tree Γ_ok htb 1000 true false Try.func108 rfl ?_
    ((try simp only [decide_eq_true_eq, decide_eq_false_iff_not, Bool.not_eq_true', Bool.not_eq_false', Bool.not_true, Bool.not_false, Bool.and_eq_true, Bool.or_eq_true, bne_iff_ne, beq_iff_eq, ne_eq]); (try simp only [rng, lo, hi, mnI, mxI, Int.toNat_natCast, Sg.n, Nat.mul_one, Nat.zero_add, Nat.add_zero, Nat.reduceAdd, List.getD_cons_zero, List.getD_cons_succ, one_row]))
    ((repeat' (first | (with_reducible apply And.intro) | intro _)); all_goals (first | exact trivial | (with_reducible assumption) | (show (_ : List Blk) = _; rfl) | (first | exact trivial | (with_reducible assumption) | omega | (split <;> omega) | (split <;> split <;> omega)) | skip); all_goals (try (refine ⟨rfl, (by first | exact Nat.le_refl _ | exact Nat.le_of_ble_eq_true rfl), rfl, rfl, ?_, (by repeat' (first | exact trivial | rfl | apply And.intro)), rfl, rfl⟩)))
    all_goals (try first | (with_reducible exact hcond) | exact (hcond _).1 | exact (hcond _).2)
    · simp only [inG, List.getD_cons_zero, List.getD_cons_succ]; omega
    · show (rowF (inT T) (spotsF (inT T) (p.getD 0 0).toNat y) y x ++ [[(x:Int), (y:Int)]]).length ≤ _
      simp only [List.length_append, List.length_cons, List.length_nil]; omega
    · refine ⟨ih (x + 1) (by omega) (by omega) [0, 1, 5] _ _ ?_⟩
      rw [hyes (by assumption)]
      exact ⟨rfl, rfl, rfl, (by repeat' (first | exact trivial | rfl | apply And.intro)), (by repeat' (first | exact trivial | rfl | apply And.intro)), rfl, rfl, rfl⟩
    · refine ⟨ih (x + 1) (by omega) (by omega) [0, 1, 2] _ _ ?_⟩
      rw [hno (by assumption)]
      exact ⟨rfl, rfl, rfl, (by repeat' (first | exact trivial | rfl | apply And.intro)), (by repeat' (first | exact trivial | rfl | apply And.intro)), rfl, rfl, rfl⟩
    · obtain rfl : x = (p.getD 0 0).toNat := by omega
      exact ⟨ihO (y + 1) (by omega) (by omega) [0, 1, 2] _ _ ⟨rfl, rfl, rfl, (by repeat' (first | exact trivial | rfl | apply And.intro)), (by repeat' (first | exact trivial | rfl | apply And.intro)), rfl, rfl, rfl⟩⟩
  · obtain rfl : y = (p.getD 1 0).toNat := by omega
    clear ihO
    refine Goes.tree Γ_ok htb 1000 true false Try.func108 rfl ?_
    ((try simp only [decide_eq_true_eq, decide_eq_false_iff_not, Bool.not_eq_true', Bool.not_eq_false', Bool.not_true, Bool.not_false, Bool.and_eq_true, Bool.or_eq_true, bne_iff_ne, beq_iff_eq, ne_eq]); (try simp only [rng, lo, hi, mnI, mxI, Int.toNat_natCast, Sg.n, Nat.mul_one, Nat.zero_add, Nat.add_zero, Nat.reduceAdd, List.getD_cons_zero, List.getD_cons_succ]))
    ((repeat' (first | (with_reducible apply And.intro) | intro _)); all_goals (first | exact trivial | (with_reducible assumption) | (show (_ : List Blk) = _; rfl) | (first | exact trivial | (with_reducible assumption) | omega | (split <;> omega) | (split <;> split <;> omega)) | skip); all_goals (try (refine ⟨rfl, (by first | exact Nat.le_refl _ | exact Nat.le_of_ble_eq_true rfl), rfl, rfl, ?_, (by repeat' (first | exact trivial | rfl | apply And.intro)), rfl, rfl⟩)))
    all_goals (first | contradiction | exact sameA_refl _)


/-! The cells within so many gates, as a list. -/
def inB (T c : List Int) : Bool := decide (T.getD (cx c) 0 ≠ 0)
noncomputable def gL (p a : List Int) (k : Nat) : List (List Int) := spotsF (inB (gT p a k)) (p.getD 0 0).toNat (p.getD 1 0).toNat
def bK (L H : List (List Int)) : Nat → List (List Int)
  | 0 => L
  | i + 1 => bK L H i ++ [atH (H.getD i []), othH (H.getD i [])]
theorem bK_len (L H : List (List Int)) : ∀ i, (bK L H i).length = L.length + 2 * i := by
  intro i
  induction i with
  | zero => rfl
  | succ i ih => unfold bK; rw [List.length_append, ih]; simp; omega
theorem mem_bK {L H : List (List Int)} {t : List Int} : ∀ i, i ≤ H.length → (t ∈ bK L H i ↔ t ∈ L ∨ ∃ h ∈ H.take i, t = atH h ∨ t = othH h) := by
  intro i
  induction i with
  | zero => intro _; simp [bK]
  | succ i ih =>
    intro hi
    unfold bK
    rw [List.mem_append, ih (by omega), take_snocF H [] (by omega)]
    constructor
    · rintro ((h | ⟨h, h1, h2⟩) | h)
      · exact .inl h
      · exact .inr ⟨h, List.mem_append_left _ h1, h2⟩
      · rw [List.mem_cons, List.mem_singleton] at h
        exact .inr ⟨_, List.mem_append_right _ (List.mem_singleton.2 rfl), h⟩
    · rintro (h | ⟨h, h1, h2⟩)
      · exact .inl (.inl h)
      · rcases List.mem_append.1 h1 with h1 | h1
        · exact .inl (.inr ⟨h, h1, h2⟩)
        · rw [List.mem_singleton] at h1
          subst h1
          exact .inr (by rw [List.mem_cons, List.mem_singleton]; exact h2)
theorem rowF_congr {f g : List Int → Bool} {acc : List (List Int)} {y w : Nat} (h : ∀ x : Nat, x < w → f [(x : Int), (y : Int)] = g [(x : Int), (y : Int)]) : ∀ x, x ≤ w → rowF f acc y x = rowF g acc y x := by
  intro x
  induction x with
  | zero => intro _; rfl
  | succ x ih => intro hx; unfold rowF; rw [ih (by omega), h x (by omega)]
theorem spotsF_congr {f g : List Int → Bool} {w : Nat} : ∀ y, (∀ x y' : Nat, x < w → y' < y → f [(x : Int), (y' : Int)] = g [(x : Int), (y' : Int)]) → spotsF f w y = spotsF g w y := by
  intro y
  induction y with
  | zero => intro _; rfl
  | succ y ih =>
    intro h
    show rowF f (spotsF f w y) y w = rowF g (spotsF g w y) y w
    rw [ih (fun x y' h1 h2 => h x y' h1 (by omega))]
    exact rowF_congr (fun x hx => h x y hx (by omega)) w (Nat.le_refl _)
theorem cells_eq {p : List Int} {f g : List Int → Bool} (h : ∀ c, cellP p c → (f c = true ↔ g c = true)) : spotsF f (p.getD 0 0).toNat (p.getD 1 0).toNat = spotsF g (p.getD 0 0).toNat (p.getD 1 0).toNat := by
  refine spotsF_congr _ fun x y hx hy => ?_
  have := h _ (cell_nat x y hx hy)
  cases hf : f [(x : Int), (y : Int)] <;> cases hg : g [(x : Int), (y : Int)] <;> simp_all
theorem inB_iff {p a c : List Int} (hd : okD p) (ha : cellP p a) (hc : cellP p c) (k : Nat) : inB (gT p a k) c = true ↔ gS p a k c := by
  unfold inB
  rw [decide_eq_true_eq]
  exact (gT_ok hd ha k).2 c hc
theorem inT_iff {p c : List Int} {rows : List (List Int)} (hd : okD p) (hs : ∀ s ∈ rows, cellP p s) (hc : cellP p c) : inT (m1 (bfsD p rows)) c = true ↔ Rch p rows c := by
  have hlen := (bfsD_wf hd (fun s h => (hs s h).1)).1
  have hg : (m1 (bfsD p rows)).getD (cx c) 0 = (bfsD p rows).getD (cx c) 0 - 1 := m1_get (by rw [hlen]; exact cx_lt (inG_of' hd hc.1))
  unfold inT Rch
  rw [decide_eq_true_eq, hg]
  omega
theorem mem_gL {p a c : List Int} (hd : okD p) (ha : cellP p a) {k : Nat} : c ∈ gL p a k ↔ cellP p c ∧ gS p a k c := by
  unfold gL
  rw [mem_spotsF]
  constructor
  · rintro ⟨j, k', hj, hk, rfl, h⟩
    have hc := cell_nat (p := p) k' j hk hj
    exact ⟨hc, (inB_iff hd ha hc k).1 h⟩
  · rintro ⟨hc, h⟩
    obtain ⟨x, y, e, hx, hy⟩ := spot_of hc
    exact ⟨y, x, hy, hx, e, (inB_iff hd ha hc k).2 h⟩
theorem gL_zero {p a : List Int} (hd : okD p) (ha : cellP p a) : yardR p a = gL p a 0 :=
  cells_eq fun c hc => by rw [inT_iff hd (one_cell ha) hc, inB_iff hd ha hc]; exact Iff.rfl
noncomputable def bkL (p a : List Int) (k : Nat) : List (List Int) := bK (gL p a k) (sideL p (gL p a k)) (sideL p (gL p a k)).length
theorem mem_bkL {p a t : List Int} (hd : okD p) (ha : cellP p a) {k : Nat} : t ∈ bkL p a k ↔ cellP p t ∧ (gS p a k t ∨ ∃ s, cellP p s ∧ gS p a k s ∧ ∃ e : Nat, e < 4 ∧ ahead s (e : Int) = t) := by
  unfold bkL
  rw [mem_bK _ (Nat.le_refl _), List.take_length, mem_gL hd ha]
  constructor
  · rintro (⟨h1, h2⟩ | ⟨h, h1, h2⟩)
    · exact ⟨h1, .inl h2⟩
    · obtain ⟨s, hs, d, hd4, ho, rfl⟩ := mem_sideL.1 h1
      obtain ⟨cs, gs⟩ := (mem_gL hd ha).1 hs
      have hn : isP p (ahead s d) = true := by
        unfold outC at ho
        rw [Bool.and_eq_true] at ho
        exact ho.1
      have two : t = s ∨ t = ahead s d := by
        rcases hur_ends cs.2 hd4 with ⟨e1, e2⟩ | ⟨e1, e2⟩
        · rw [e1, e2] at h2; exact h2
        · rw [e1, e2] at h2; exact h2.symm
      rcases two with rfl | rfl
      · exact ⟨cs, .inl gs⟩
      · exact ⟨⟨hn, ahead_len _ _⟩, .inr ⟨s, cs, gs, d, hd4, rfl⟩⟩
  · rintro ⟨ht, h | ⟨s, cs, gs, e, he, rfl⟩⟩
    · exact .inl ⟨ht, h⟩
    · by_cases hin : ahead s (e : Int) ∈ gL p a k
      · exact .inl ((mem_gL hd ha).1 hin)
      · refine .inr ⟨hurdleAt s e, mem_sideL.2 ⟨s, (mem_gL hd ha).2 ⟨cs, gs⟩, e, he, ?_, rfl⟩, ?_⟩
        · unfold outC
          rw [Bool.and_eq_true, Bool.not_eq_true']
          refine ⟨ht.1, ?_⟩
          cases hh : hasR (gL p a k) (ahead s (e : Int)) with
          | false => rfl
          | true => exact absurd ((hasR_iff _ _).1 hh) hin
        · rcases hur_ends cs.2 he with ⟨e1, e2⟩ | ⟨e1, e2⟩
          · exact .inr e2.symm
          · exact .inl e1.symm
theorem gL_succ {p a : List Int} (hd : okD p) (ha : cellP p a) (k : Nat) : spotsF (inT (m1 (bfsD p (bkL p a k)))) (p.getD 0 0).toNat (p.getD 1 0).toNat = gL p a (k + 1) := by
  have hb : ∀ s ∈ bkL p a k, cellP p s := fun s hs => ((mem_bkL hd ha).1 hs).1
  refine cells_eq fun c hc => ?_
  rw [inT_iff hd hb hc, inB_iff hd ha hc, reach_iff hd hb hc]
  constructor
  · rintro ⟨t, h1, h2⟩
    obtain ⟨h3, h4⟩ := (mem_bkL hd ha).1 h1
    exact ⟨t, h3, h4, h2⟩
  · rintro ⟨t, h1, h2, h3⟩
    exact ⟨t, (mem_bkL hd ha).2 ⟨h1, h2⟩, h3⟩
theorem gL_len {p : List Int} (hd : okD p) (a : List Int) (k : Nat) : (gL p a k).length ≤ 100 := by
  obtain ⟨w1, w2, h1, h2⟩ := hd
  have := spotsF_len (inB (gT p a k)) (p.getD 0 0).toNat (p.getD 1 0).toNat
  have hm : (p.getD 0 0).toNat * (p.getD 1 0).toNat ≤ 10 * 10 := Nat.mul_le_mul (by omega) (by omega)
  unfold gL; omega
theorem hasL {p a b : List Int} (hd : okD p) (ha : cellP p a) (hb : cellP p b) (k : Nat) : hasR (gL p a k) b = decide ((gT p a k).getD (cx b) 0 ≠ 0) := by
  rw [Bool.eq_iff_iff, hasR_iff, mem_gL hd ha, decide_eq_true_eq, (gT_ok hd ha k).2 b hb]
  exact ⟨fun h => h.2, fun h => ⟨hb, h⟩⟩
theorem mem_sideH {p : List Int} {xs : List (List Int)} (hd : okD p) (hx : ∀ s ∈ xs, cellP p s) : ∀ h ∈ sideL p xs, near h ∧ h.length = 3 := by
  intro h hh
  obtain ⟨s, hs, d, hd4, ho, rfl⟩ := mem_sideL.1 hh
  have hn : isP p (ahead s d) = true := by
    unfold outC at ho
    rw [Bool.and_eq_true] at ho
    exact ho.1
  refine ⟨?_, by unfold hurdleAt; split <;> rfl⟩
  show near (atH (hurdleAt s d))
  rcases hur_ends (hx s hs).2 hd4 with ⟨e1, e2⟩ | ⟨e1, e2⟩
  · rw [e1]; exact near_of hd (hx s hs).1
  · rw [e1]; exact near_of hd hn
theorem sideL_len (p : List Int) (xs : List (List Int)) : (sideL p xs).length ≤ 4 * xs.length := by
  have h1 := sdK_len p xs (ordL xs) (ordL xs).length
  have h2 := ordL_len xs
  unfold sideL; omega

set_option maxRecDepth 100000 in
theorem s_implGates : Sound Try.prog 53 gateFS := by
  intro args M r M' vs h hvs
  unfold gateFS at h
  split at h
  case h_2 => cases h
  rename_i p a b
  cases h
  refine SpecOK.assume fun hA hM => ?_
  have htb := (TbOk.cons s_cellCode Try.func58 rfl rfl (TbOk.cons s_yardZ Try.func59 rfl rfl (TbOk.cons s_hasR Try.func105 rfl rfl (TbOk.cons s_cloneSpot Try.func106 rfl rfl (TbOk.cons s_sidesOf Try.func100 rfl rfl (TbOk.cons s_other Try.func107 rfl rfl (TbOk.cons s_far Try.func82 rfl rfl (TbOk.cons s_cellsGate Try.func108 rfl rfl (TbOk.nil : TbOk Try.prog tb0)))))))))
  refine SpecOK.of_goes [] Try.func53 rfl ?_
  have la : a.length = 2 := hA.2.2.1
  have lb : b.length = 2 := hA.2.2.2.2.1
  have hok := fun h => codeP_pair (p := p) (a := a) (b := b) h
  clear hA hM
  refine Goes.tree Γ_ok htb 1000 false false Try.func53 rfl ?_
  ((try simp only [decide_eq_true_eq, decide_eq_false_iff_not, Bool.not_eq_true', Bool.not_eq_false', Bool.not_true, Bool.not_false, Bool.and_eq_true, Bool.or_eq_true, bne_iff_ne, beq_iff_eq, ne_eq]); (try simp only [rng, lo, hi, mnI, mxI, Int.toNat_natCast, Sg.n, Nat.mul_one, Nat.zero_add, Nat.add_zero, Nat.reduceAdd, List.getD_cons_zero, List.getD_cons_succ, one_row, two_rows]))
  ((repeat' (first | (with_reducible apply And.intro) | intro _)); all_goals (first | exact trivial | (with_reducible assumption) | (show (_ : List Blk) = _; rfl) | (first | exact trivial | (with_reducible assumption) | omega | (split <;> omega) | (split <;> split <;> omega)) | skip); all_goals (try (refine ⟨rfl, (by first | exact Nat.le_refl _ | exact Nat.le_of_ble_eq_true rfl), rfl, rfl, ?_, (by repeat' (first | exact trivial | rfl | apply And.intro)), rfl, rfl⟩)))
  all_goals (try first | exact (hok (by assumption)).1 | exact (hok (by assumption)).2.1)
  · rename_i h
    refine sameA_t2 ?_ rfl
    rw [if_neg h]
  rename_i h
  rw [if_pos h, h]
  obtain ⟨hd, ha, hb⟩ := hok h
  have ca : cellP p a := ⟨ha, la⟩
  have cb : cellP p b := ⟨hb, lb⟩
  rw [gL_zero hd ca]
  clear hok h
  refine ⟨?_⟩
  refine Goes.loopR (fun k : Nat => 20 - k) (fun k => ∀ i, i < k → (gT p a i).getD (cx b) 0 = 0) (fun k => (.any :: .any :: .any :: .pw 0 .pas :: .pw 1 .spot :: .pw 2 .spot :: .any :: .any :: .any :: .fs .spot (gL p a k) :: .i .i64 (k : Int) :: .any :: .any :: .any :: .any :: .any :: .any :: .any :: .any :: .any :: .any :: .any :: .any :: .any :: .any :: .any :: .any :: .any :: .any :: .any :: .any :: .any :: .any :: .any :: .any :: .any :: .any :: .any :: .any :: .any :: .any :: .any :: .any :: .any :: .any :: .any :: .any :: .any :: .any :: .any :: .any :: .any :: .any :: .any :: .any :: .any :: []))
    (fun k => [.c .pas p, .c .spot a, .c .spot b]) 0 [0, 1, 2] (fun i hi => by omega) ⟨rfl, rfl, rfl, (by repeat' (first | exact trivial | rfl | apply And.intro)), (by repeat' (first | exact trivial | rfl | apply And.intro)), rfl, rfl, rfl⟩ fun k hk ihO => ?_
  have hk18 := g_bound hd ca cb hk
  have hh := hasL hd ca cb k
  by_cases hz : (gT p a k).getD (cx b) 0 = 0
  · have hh : hasR (gL p a k) b = false := by rw [hh, hz]; rfl
    have hL0 : 0 < (gL p a k).length := List.length_pos_of_mem ((mem_gL hd ca).2 ⟨ca, gS_ball hd ca k a ca (by unfold dist; omega)⟩)
    have hL1 := gL_len hd a k
    have hLc : ∀ s ∈ gL p a k, cellP p s := fun s hs => ((mem_gL hd ca).1 hs).1
    have hLp : ∀ s ∈ gL p a k, isP p s = true := fun s hs => (hLc s hs).1
    have hH := mem_sideH hd hLc
    have hHl := sideL_len p (gL p a k)
    have hbk := bK_len (gL p a k) (sideL p (gL p a k))
    have hbc : ∀ s ∈ bkL p a k, isP p s = true := fun s hs => ((mem_bkL hd ca).1 hs).1.1
    have hbl : (bkL p a k).length = (gL p a k).length + 2 * (sideL p (gL p a k)).length := hbk _
    have hbr := fun j => m1_rng (j := j) hd hbc
    have hgs := gL_succ hd ca k
    have hbe : bkL p a k = bK (gL p a k) (sideL p (gL p a k)) (sideL p (gL p a k)).length := rfl
    have ihO := ihO (k + 1) (fun i hi => by
      rcases Nat.lt_or_ge i k with h | h
      · exact hk i h
      · rw [show i = k by omega]; exact hz)
    rw [← hgs] at ihO
    clear hgs hLc hk
    generalize gL p a k = L at *
    generalize hHe : sideL p L = H at *
    refine Goes.tree Γ_ok htb 1000 false false Try.func53 rfl ?_
    ((try simp only [decide_eq_true_eq, decide_eq_false_iff_not, Bool.not_eq_true', Bool.not_eq_false', Bool.not_true, Bool.not_false, Bool.and_eq_true, Bool.or_eq_true, bne_iff_ne, beq_iff_eq, ne_eq]); (try simp only [rng, lo, hi, mnI, mxI, Int.toNat_natCast, Sg.n, Nat.mul_one, Nat.zero_add, Nat.add_zero, Nat.reduceAdd, List.getD_cons_zero, List.getD_cons_succ, hh, hHe]))
    ((repeat' (first | (with_reducible apply And.intro) | intro _)); all_goals (first | exact trivial | (with_reducible assumption) | (show (_ : List Blk) = _; rfl) | (first | exact trivial | (with_reducible assumption) | omega | (split <;> omega) | (split <;> split <;> omega)) | skip); all_goals (try (refine ⟨rfl, (by first | exact Nat.le_refl _ | exact Nat.le_of_ble_eq_true rfl), rfl, rfl, ?_, (by repeat' (first | exact trivial | rfl | apply And.intro)), rfl, rfl⟩)))
    all_goals (try first | contradiction | exact hLp _ (by assumption) | omega | exact hd)
    refine ⟨?_⟩
    refine Goes.loopR (fun i : Nat => H.length - i) (fun i => i ≤ H.length) (fun i => (.any :: .any :: .any :: .pw 0 .pas :: .pw 1 .spot :: .pw 2 .spot :: .any :: .any :: .any :: .fs .spot L :: .i .i64 (k : Int) :: .ow 3 (bK L H i).length .spot 37 :: .any :: .any :: .any :: .any :: .any :: .any :: .any :: .any :: .any :: .any :: .any :: .any :: .any :: .any :: .any :: .any :: .any :: .any :: .any :: .any :: .any :: .any :: .any :: .any :: .ow 4 H.length .hur 113 :: .i .i64 (H.length : Int) :: .i .i64 (i : Int) :: .any :: .any :: .any :: .any :: .any :: .any :: .any :: .any :: .any :: .any :: .any :: .any :: .any :: .any :: .any :: .any :: .any :: []))
      (fun i => [.c .pas p, .c .spot a, .c .spot b, .l .spot (bK L H i), .l .hur H]) 0 [0, 1, 2, 3, 4] (Nat.zero_le _) ⟨rfl, rfl, rfl, (by repeat' (first | exact trivial | rfl | apply And.intro)), (by repeat' (first | exact trivial | rfl | apply And.intro)), rfl, rfl, rfl⟩ fun i hib ih => ?_
    have hbi := hbk i
    by_cases hlt : i < H.length
    · have hni := hH _ (getD_mem (d := []) hlt)
      have ek : bK L H (i + 1) = bK L H i ++ [atH (H.getD i []), othH (H.getD i [])] := rfl
      have ih := ih (i + 1)
      rw [ek] at ih
      obtain ⟨hni, hl3⟩ := hni
      obtain ⟨x, y, z, e3⟩ := len3 hl3
      have eat : atH [x, y, z] = [x, y] := rfl
      have eot : othH [x, y, z] = ahead [x, y] (if z = 0 then 1 else 2) := rfl
      rw [e3, eat, eot] at ih
      rw [e3] at hni
      have htd : List.take 2 (List.drop 0 [x, y, z]) = [x, y] := rfl
      have hst : ∀ u v : List Int, ((List.replicate 2 (List.replicate 2 (0 : Int))).set 0 u).set 1 v = [u, v] := fun _ _ => rfl
      have hap : ∀ u v : List Int, (Cn.l Sg.spot (bK L H i ++ [u, v])).len = (bK L H i).length + 2 := fun u v => List.length_append
      refine Goes.tree Γ_ok htb 1000 false false Try.func53 rfl ?_
      ((try simp only [decide_eq_true_eq, decide_eq_false_iff_not, Bool.not_eq_true', Bool.not_eq_false', Bool.not_true, Bool.not_false, Bool.and_eq_true, Bool.or_eq_true, bne_iff_ne, beq_iff_eq, ne_eq]); (try simp only [rng, lo, hi, mnI, mxI, Int.toNat_natCast, Sg.n, Nat.mul_one, Nat.zero_add, Nat.add_zero, Nat.reduceAdd, List.getD_cons_zero, List.getD_cons_succ, e3, htd, hst, List.getD_cons_zero, List.getD_cons_succ]))
      ((repeat' (first | (with_reducible apply And.intro) | intro _)); all_goals (first | exact trivial | (with_reducible assumption) | (show (_ : List Blk) = _; rfl) | (first | exact trivial | (with_reducible assumption) | omega | (split <;> omega) | (split <;> split <;> omega)) | skip); all_goals (try (refine ⟨rfl, (by first | exact Nat.le_refl _ | exact Nat.le_of_ble_eq_true rfl), rfl, rfl, ?_, (by repeat' (first | exact trivial | rfl | apply And.intro)), rfl, rfl⟩)))
      all_goals (try first | contradiction | exact hni)
      · rw [hap]; omega
      · exact ⟨ih (by omega) (by omega) [0, 1, 2, 7, 4] _ _ ⟨rfl, rfl, rfl, (by repeat' (first | exact trivial | rfl | apply And.intro)), (by repeat' (first | exact trivial | rfl | apply And.intro)), rfl, rfl, rfl⟩⟩
    · obtain rfl : i = H.length := by omega
      clear ih
      rw [← hbe] at *
      refine Goes.tree Γ_ok htb 1000 false false Try.func53 rfl ?_
      ((try simp only [decide_eq_true_eq, decide_eq_false_iff_not, Bool.not_eq_true', Bool.not_eq_false', Bool.not_true, Bool.not_false, Bool.and_eq_true, Bool.or_eq_true, bne_iff_ne, beq_iff_eq, ne_eq]); (try simp only [rng, lo, hi, mnI, mxI, Int.toNat_natCast, Sg.n, Nat.mul_one, Nat.zero_add, Nat.add_zero, Nat.reduceAdd, List.getD_cons_zero, List.getD_cons_succ]))
      ((repeat' (first | (with_reducible apply And.intro) | intro _)); all_goals (first | exact trivial | (with_reducible assumption) | (show (_ : List Blk) = _; rfl) | (first | exact trivial | (with_reducible assumption) | omega | (split <;> omega) | (split <;> split <;> omega)) | skip); all_goals (try (refine ⟨rfl, (by first | exact Nat.le_refl _ | exact Nat.le_of_ble_eq_true rfl), rfl, rfl, ?_, (by repeat' (first | exact trivial | rfl | apply And.intro)), rfl, rfl⟩)))
      all_goals (try first | exact hbc _ (by assumption) | exact (hbr _).1 | exact (hbr _).2 | omega | contradiction | exact hd)
      exact ⟨ihO (by omega) [0, 1, 2] _ _ ⟨rfl, rfl, rfl, (by repeat' (first | exact trivial | rfl | apply And.intro)), (by repeat' (first | exact trivial | rfl | apply And.intro)), rfl, rfl, rfl⟩⟩
  · have hN := gN_eq hz (by omega) hk
    have hh : hasR (gL p a k) b = true := by rw [hh, decide_eq_true_eq]; exact hz
    clear ihO
    refine Goes.tree Γ_ok htb 1000 false false Try.func53 rfl ?_
    ((try simp only [decide_eq_true_eq, decide_eq_false_iff_not, Bool.not_eq_true', Bool.not_eq_false', Bool.not_true, Bool.not_false, Bool.and_eq_true, Bool.or_eq_true, bne_iff_ne, beq_iff_eq, ne_eq]); (try simp only [rng, lo, hi, mnI, mxI, Int.toNat_natCast, Sg.n, Nat.mul_one, Nat.zero_add, Nat.add_zero, Nat.reduceAdd, List.getD_cons_zero, List.getD_cons_succ, hh, hz]))
    ((repeat' (first | (with_reducible apply And.intro) | intro _)); all_goals (first | exact trivial | (with_reducible assumption) | (show (_ : List Blk) = _; rfl) | (first | exact trivial | (with_reducible assumption) | omega | (split <;> omega) | (split <;> split <;> omega)) | skip); all_goals (try (refine ⟨rfl, (by first | exact Nat.le_refl _ | exact Nat.le_of_ble_eq_true rfl), rfl, rfl, ?_, (by repeat' (first | exact trivial | rfl | apply And.intro)), rfl, rfl⟩)))
    all_goals (try first | omega | contradiction)
    rw [hN]; exact sameA_refl _
end Go.Proofs.Ytfelemoefhbphaa
