/- The hurdles that stand. -/
import Derived.Test.YtfelemoefhbphaaSide
import Derived.Test.YtfelemoefhbphaaLists
namespace Go.Proofs.Ytfelemoefhbphaa
open Go Go.Eng
set_option linter.unusedSimpArgs false
set_option linter.unusedVariables false
set_option maxRecDepth 100000
set_option maxHeartbeats 4000000

def addH (f : List Int → Bool) (acc : List (List Int)) (h : List Int) : List (List Int) := if f h = true then acc ++ [h] else acc
def h0 (s : List Int) : List Int := [s.getD 0 0, s.getD 1 0, 0]
def h1 (s : List Int) : List Int := [s.getD 0 0, s.getD 1 0, 1]
/-- Both sides of a cell, if they are chosen. -/
def addC (f : List Int → Bool) (acc : List (List Int)) (s : List Int) : List (List Int) := addH f (addH f acc (h0 s)) (h1 s)
/-- The chosen sides of the first i cells. -/
def sidK (f : List Int → Bool) (rows : List (List Int)) : Nat → List (List Int)
  | 0 => []
  | i + 1 => addC f (sidK f rows i) (rows.getD i [])
/-- Those of the first i that are so. -/
def selK (f : List Int → Bool) (L : List (List Int)) : Nat → List (List Int)
  | 0 => []
  | i + 1 => addH f (selK f L i) (L.getD i [])
def stF (p h : List Int) : Bool := hurP p h && standsP p h

theorem addH_len (f : List Int → Bool) (acc : List (List Int)) (h : List Int) : (addH f acc h).length ≤ acc.length + 1 := by
  unfold addH; split <;> (try simp only [List.length_append, List.length_cons, List.length_nil]) <;> omega
theorem sidK_len (f : List Int → Bool) (rows : List (List Int)) : ∀ i, (sidK f rows i).length ≤ 2 * i := by
  intro i
  induction i with
  | zero => exact Nat.le_refl _
  | succ i ih =>
    have a := addH_len f (sidK f rows i) (h0 (rows.getD i []))
    have b := addH_len f (addH f (sidK f rows i) (h0 (rows.getD i []))) (h1 (rows.getD i []))
    unfold sidK addC; omega
theorem selK_len (f : List Int → Bool) (L : List (List Int)) : ∀ i, (selK f L i).length ≤ i := by
  intro i
  induction i with
  | zero => exact Nat.le_refl _
  | succ i ih => have := addH_len f (selK f L i) (L.getD i []); unfold selK; omega
theorem sidK_app (f : List Int → Bool) (l r : List (List Int)) : ∀ i, i ≤ l.length → sidK f (l ++ r) i = sidK f l i := by
  intro i
  induction i with
  | zero => intro _; rfl
  | succ i ih =>
    intro h
    simp only [sidK]
    rw [ih (by omega), List.getD_eq_getElem?_getD, List.getElem?_append_left (by omega), ← List.getD_eq_getElem?_getD]
def sidL (f : List Int → Bool) (l : List (List Int)) : List (List Int) := sidK f l l.length
theorem sidL_row (f : List Int → Bool) (acc : List (List Int)) (y x : Nat) : sidL f (rowA acc y (x + 1)) = addC f (sidL f (rowA acc y x)) [(x : Int), (y : Int)] := by
  unfold sidL
  show sidK f (rowA acc y x ++ [[(x : Int), (y : Int)]]) (rowA acc y x ++ [[(x : Int), (y : Int)]]).length = _
  rw [List.length_append, List.length_cons, List.length_nil, Nat.zero_add, sidK, sidK_app _ _ _ _ (Nat.le_refl _)]
  congr 1
  rw [List.getD_eq_getElem?_getD, List.getElem?_append_right (Nat.le_refl _), Nat.sub_self]; rfl
theorem selK_app (f : List Int → Bool) (l r : List (List Int)) : ∀ i, i ≤ l.length → selK f (l ++ r) i = selK f l i := by
  intro i
  induction i with
  | zero => intro _; rfl
  | succ i ih =>
    intro h
    simp only [selK]
    rw [ih (by omega), List.getD_eq_getElem?_getD, List.getElem?_append_left (by omega), ← List.getD_eq_getElem?_getD]
theorem sel_addH (p : List Int) (A : List (List Int)) (h : List Int) : selK (standsP p) (addH (hurP p) A h) (addH (hurP p) A h).length = addH (stF p) (selK (standsP p) A A.length) h := by
  cases hh : hurP p h with
  | true =>
    have e : addH (hurP p) A h = A ++ [h] := if_pos hh
    rw [e, List.length_append, List.length_cons, List.length_nil, Nat.zero_add, selK, selK_app _ _ _ _ (Nat.le_refl _)]
    have e2 : (A ++ [h]).getD A.length [] = h := by rw [List.getD_eq_getElem?_getD, List.getElem?_append_right (Nat.le_refl _), Nat.sub_self]; rfl
    rw [e2]
    unfold addH stF
    rw [hh, Bool.true_and]
  | false =>
    have e : addH (hurP p) A h = A := if_neg (by rw [hh]; decide)
    have e2 : stF p h = false := by unfold stF; rw [hh]; rfl
    rw [e, addH, if_neg (by rw [e2]; decide)]
theorem sel_sid (p : List Int) (rows : List (List Int)) : ∀ i, selK (standsP p) (sidK (hurP p) rows i) (sidK (hurP p) rows i).length = sidK (stF p) rows i := by
  intro i
  induction i with
  | zero => rfl
  | succ i ih =>
    unfold sidK addC
    rw [sel_addH, sel_addH, ih]

def hurRows (p : List Int) : List (List Int) := sidL (stF p) (spots p)
theorem hurRows_len {p : List Int} (h : okD p) : (hurRows p).length ≤ 200 := by
  have h1 := sidK_len (stF p) (spots p) (spots p).length
  have h2 : (spots p).length = (p.getD 0 0).toNat * (p.getD 1 0).toNat := spotsY_len _ _
  unfold okD at h
  have h3 : (p.getD 0 0).toNat * (p.getD 1 0).toNat ≤ 10 * 10 := Nat.mul_le_mul (by omega) (by omega)
  unfold hurRows sidL; omega

/-- The sides that are there. -/
def allHS : Fun
  | [.pw 0 .pas], [.c .pas p] => some (.fs .hur (sidL (hurP p) (spots p)), [.c .pas p], [okD p])
  | _, _ => .none
set_option maxRecDepth 100000 in
theorem s_l03All : Sound Try.prog 143 allHS := by
  intro args M r M' vs h hvs
  unfold allHS at h
  split at h
  case h_2 => cases h
  rename_i p
  cases h
  refine SpecOK.assume fun hA hM => ?_
  have htb := (TbOk.cons s_l03Is Try.func158 rfl rfl (TbOk.nil : TbOk Try.prog tb0))
  refine SpecOK.of_goes [0] Try.func143 rfl ?_
  obtain ⟨hd, -⟩ := hvs
  have hd' := hd
  obtain ⟨hw1, hw2, hh1, hh2⟩ := hd'
  clear hA hM
  unfold spots
  have hb : ∀ y, y ≤ (p.getD 1 0).toNat → (p.getD 0 0).toNat * y ≤ 10 * 10 := fun y hy => Nat.mul_le_mul (by omega) (by omega)
  refine Goes.tree Γ_ok htb 1000 true false Try.func143 rfl ?_
  refine ⟨?_⟩
  refine Goes.loopR (fun y : Nat => (p.getD 1 0).toNat - y) (fun y => y ≤ (p.getD 1 0).toNat) (fun y => (.pw 0 .pas :: .any :: .any :: .ow 1 (sidL (hurP p) (spotsY (p.getD 0 0).toNat y)).length .hur 113 :: .i .i8 (y:Int) :: .any :: .any :: .any :: .any :: .any :: .any :: .any :: .any :: .any :: .any :: .any :: .any :: .any :: .any :: .any :: .any :: .any :: .any :: .any :: .any :: .any :: .any :: .any :: .any :: .any :: .any :: .any :: .any :: .any :: .any :: .any :: .any :: .any :: .any :: .any :: .any :: .any :: .any :: .any :: .any :: .any :: .any :: .any :: []))
    (fun y => [.c .pas p, .l .hur (sidL (hurP p) (spotsY (p.getD 0 0).toNat y))]) 0 [0, 1] (Nat.zero_le _) ⟨rfl, rfl, rfl, (by repeat' (first | exact trivial | rfl | apply And.intro)), (by repeat' (first | exact trivial | rfl | apply And.intro)), rfl, rfl, rfl⟩ fun y hy ihO => ?_
  by_cases hlt : (y : Int) < p.getD 1 0
  · refine Goes.tree Γ_ok htb 1000 true false Try.func143 rfl ?_
    ((try simp only [decide_eq_true_eq, decide_eq_false_iff_not, Bool.not_eq_true', Bool.not_eq_false', Bool.not_true, Bool.not_false, Bool.and_eq_true, Bool.or_eq_true, bne_iff_ne, beq_iff_eq, ne_eq]); (try simp only [rng, lo, hi, mnI, mxI, Int.toNat_natCast, Sg.n, Nat.mul_one, Nat.zero_add, Nat.add_zero, Nat.reduceAdd, List.getD_cons_zero, List.getD_cons_succ]))
    ((repeat' (first | (with_reducible apply And.intro) | intro _)); all_goals (first | exact trivial | (with_reducible assumption) | (show (_ : List Blk) = _; rfl) | (first | exact trivial | (with_reducible assumption) | omega | (split <;> omega) | (split <;> split <;> omega)) | skip); all_goals (try (refine ⟨rfl, (by first | exact Nat.le_refl _ | exact Nat.le_of_ble_eq_true rfl), rfl, rfl, ?_, (by repeat' (first | exact trivial | rfl | apply And.intro)), rfl, rfl⟩)))
    refine ⟨?_⟩
    refine Goes.loopR (fun x : Nat => (p.getD 0 0).toNat - x) (fun x => x ≤ (p.getD 0 0).toNat) (fun x => (.pw 0 .pas :: .any :: .any :: .ow 1 (sidL (hurP p) (rowA (spotsY (p.getD 0 0).toNat y) y x)).length .hur 113 :: .i .i8 (y:Int) :: .i .i8 (x:Int) :: .any :: .any :: .any :: .any :: .any :: .any :: .any :: .any :: .any :: .any :: .any :: .any :: .any :: .any :: .any :: .any :: .any :: .any :: .any :: .any :: .any :: .any :: .any :: .any :: .any :: .any :: .any :: .any :: .any :: .any :: .any :: .any :: .any :: .any :: .any :: .any :: .any :: .any :: .any :: .any :: .any :: .any :: []))
      (fun x => [.c .pas p, .l .hur (sidL (hurP p) (rowA (spotsY (p.getD 0 0).toNat y) y x))]) 0 [0, 1] (Nat.zero_le _) ⟨rfl, rfl, rfl, (by repeat' (first | exact trivial | rfl | apply And.intro)), (by repeat' (first | exact trivial | rfl | apply And.intro)), rfl, rfl, rfl⟩ fun x hx ih => ?_
    have hl := sidK_len (hurP p) (rowA (spotsY (p.getD 0 0).toNat y) y x) (rowA (spotsY (p.getD 0 0).toNat y) y x).length
    have hb1 := hb y (by omega)
    rw [rowA_len, spotsY_len] at hl
    have e1 := sidL_row (hurP p) (spotsY (p.getD 0 0).toNat y) y x
    have ih' := ih (x + 1)
    rw [e1] at ih'
    clear ih e1
    by_cases hxl : (x : Int) < p.getD 0 0
    · have hl' : (sidL (hurP p) (rowA (spotsY (p.getD 0 0).toNat y) y x)).length ≤ 1000 := by unfold sidL; rw [rowA_len, spotsY_len]; omega
      generalize sidL (hurP p) (rowA (spotsY (p.getD 0 0).toNat y) y x) = A at *
      have e00 : h0 [(x:Int), (y:Int)] = [(x:Int), (y:Int), 0] := rfl
      have e11 : h1 [(x:Int), (y:Int)] = [(x:Int), (y:Int), 1] := rfl
      unfold addC at ih'
      rw [e00, e11] at ih'
      have hs0 : putSeg (List.replicate 3 0) 0 2 [(x:Int), (y:Int)] = [(x:Int), (y:Int), 0] := rfl
      have hy : ∀ (B : List (List Int)) (h : List Int), hurP p h = true → addH (hurP p) B h = B ++ [h] := fun B h hh => if_pos hh
      have hn : ∀ (B : List (List Int)) (h : List Int), hurP p h = false → addH (hurP p) B h = B := fun B h hh => if_neg (by rw [hh]; decide)
      refine Goes.tree Γ_ok htb 1000 true false Try.func143 rfl ?_
      ((try simp only [decide_eq_true_eq, decide_eq_false_iff_not, Bool.not_eq_true', Bool.not_eq_false', Bool.not_true, Bool.not_false, Bool.and_eq_true, Bool.or_eq_true, bne_iff_ne, beq_iff_eq, ne_eq]); (try simp only [rng, lo, hi, mnI, mxI, Int.toNat_natCast, Sg.n, Nat.mul_one, Nat.zero_add, Nat.add_zero, Nat.reduceAdd, List.getD_cons_zero, List.getD_cons_succ, one_row, hs0, if_true, List.set_cons_succ, List.set_cons_zero]))
      (repeat' (first | (with_reducible apply And.intro) | intro _))
      all_goals (try first | exact trivial | exact hd | (show (_ : List Blk) = _; rfl) | omega | (show (_ ++ [_]).length ≤ _; simp only [List.length_append, List.length_cons, List.length_nil]; omega))
      · refine ⟨ih' (by omega) (by omega) [0, 7] _ _ ?_⟩
        rw [hy A _ (by assumption), hy _ _ (by assumption)]
        exact ⟨rfl, rfl, rfl, (by repeat' (first | exact trivial | rfl | apply And.intro)), (by repeat' (first | exact trivial | rfl | apply And.intro)), rfl, rfl, rfl⟩
      · refine ⟨ih' (by omega) (by omega) [0, 5] _ _ ?_⟩
        rw [hy A _ (by assumption), hn _ _ (by assumption)]
        exact ⟨rfl, rfl, rfl, (by repeat' (first | exact trivial | rfl | apply And.intro)), (by repeat' (first | exact trivial | rfl | apply And.intro)), rfl, rfl, rfl⟩
      · refine ⟨ih' (by omega) (by omega) [0, 5] _ _ ?_⟩
        rw [hn A _ (by assumption), hy _ _ (by assumption)]
        exact ⟨rfl, rfl, rfl, (by repeat' (first | exact trivial | rfl | apply And.intro)), (by repeat' (first | exact trivial | rfl | apply And.intro)), rfl, rfl, rfl⟩
      · refine ⟨ih' (by omega) (by omega) [0, 1] _ _ ?_⟩
        rw [hn A _ (by assumption), hn _ _ (by assumption)]
        exact ⟨rfl, rfl, rfl, (by repeat' (first | exact trivial | rfl | apply And.intro)), (by repeat' (first | exact trivial | rfl | apply And.intro)), rfl, rfl, rfl⟩
    · obtain rfl : x = (p.getD 0 0).toNat := by omega
      clear ih'
      refine Goes.tree Γ_ok htb 1000 true false Try.func143 rfl ?_
      ((try simp only [decide_eq_true_eq, decide_eq_false_iff_not, Bool.not_eq_true', Bool.not_eq_false', Bool.not_true, Bool.not_false, Bool.and_eq_true, Bool.or_eq_true, bne_iff_ne, beq_iff_eq, ne_eq]); (try simp only [rng, lo, hi, mnI, mxI, Int.toNat_natCast, Sg.n, Nat.mul_one, Nat.zero_add, Nat.add_zero, Nat.reduceAdd, List.getD_cons_zero, List.getD_cons_succ]))
      ((repeat' (first | (with_reducible apply And.intro) | intro _)); all_goals (first | exact trivial | (with_reducible assumption) | (show (_ : List Blk) = _; rfl) | (first | exact trivial | (with_reducible assumption) | omega | (split <;> omega) | (split <;> split <;> omega)) | skip); all_goals (try (refine ⟨rfl, (by first | exact Nat.le_refl _ | exact Nat.le_of_ble_eq_true rfl), rfl, rfl, ?_, (by repeat' (first | exact trivial | rfl | apply And.intro)), rfl, rfl⟩)))
      all_goals (try (first | contradiction | exact ⟨ihO (y + 1) (by omega) (by omega) [0, 1] _ _ ⟨rfl, rfl, rfl, (by repeat' (first | exact trivial | rfl | apply And.intro)), (by repeat' (first | exact trivial | rfl | apply And.intro)), rfl, rfl, rfl⟩⟩))
  · obtain rfl : y = (p.getD 1 0).toNat := by omega
    clear ihO
    refine Goes.tree Γ_ok htb 1000 true false Try.func143 rfl ?_
    ((try simp only [decide_eq_true_eq, decide_eq_false_iff_not, Bool.not_eq_true', Bool.not_eq_false', Bool.not_true, Bool.not_false, Bool.and_eq_true, Bool.or_eq_true, bne_iff_ne, beq_iff_eq, ne_eq]); (try simp only [rng, lo, hi, mnI, mxI, Int.toNat_natCast, Sg.n, Nat.mul_one, Nat.zero_add, Nat.add_zero, Nat.reduceAdd, List.getD_cons_zero, List.getD_cons_succ]))
    ((repeat' (first | (with_reducible apply And.intro) | intro _)); all_goals (first | exact trivial | (with_reducible assumption) | (show (_ : List Blk) = _; rfl) | (first | exact trivial | (with_reducible assumption) | omega | (split <;> omega) | (split <;> split <;> omega)) | skip); all_goals (try (refine ⟨rfl, (by first | exact Nat.le_refl _ | exact Nat.le_of_ble_eq_true rfl), rfl, rfl, ?_, (by repeat' (first | exact trivial | rfl | apply And.intro)), rfl, rfl⟩)))
    all_goals (first | contradiction | exact sameA_refl _ | trace_state)

/-- Of a side that is there: does a hurdle stand? -/
def standFS : Fun
  | [.pw 0 .pas, .ag .hur h], [.c .pas p] => some (.b (standsP p h), [.c .pas p], [okD p ∧ hurP p h = true ∧ (h.getD 2 0 = 0 ∨ h.getD 2 0 = 1)])
  | _, _ => .none
theorem hur_closed {p h : List Int} (hl : h.length = 3) (hh : hurP p h = true) (h2 : h.getD 2 0 = 0 ∨ h.getD 2 0 = 1) : (!canGo p [h.getD 0 0, h.getD 1 0] (if h.getD 2 0 = 0 then 1 else 2)) = standsP p h := by
  obtain ⟨a, b, c, rfl⟩ := len3 hl
  simp only [List.getD_cons_zero, List.getD_cons_succ] at h2 ⊢
  unfold hurP at hh
  simp only [List.getD_cons_zero, List.getD_cons_succ, Bool.and_eq_true] at hh
  rcases h2 with rfl | rfl
  · simp only [if_true] at hh ⊢
    unfold canGo
    rw [hh.2]
    simp [hurdleAt]
  · have h10 : ¬ (1 : Int) = 0 := by decide
    rw [if_neg h10] at hh ⊢
    unfold canGo
    rw [hh.2]
    simp [hurdleAt]
set_option maxRecDepth 100000 in
theorem s_l03Stands : Sound Try.prog 145 standFS := by
  intro args M r M' vs h hvs
  unfold standFS at h
  split at h
  case h_2 => cases h
  rename_i h p
  cases h
  refine SpecOK.assume fun hA hM => ?_
  have htb := (TbOk.cons s_l03Side Try.func144 rfl rfl (TbOk.cons s_l01Closed Try.func122 rfl rfl (TbOk.nil : TbOk Try.prog tb0)))
  refine SpecOK.of_goes [0] Try.func145 rfl ?_
  obtain ⟨⟨hd, hh, h2⟩, -⟩ := hvs
  have hl := hA.2.1
  have hc := hur_closed hl hh h2
  have hi : isP p [h.getD 0 0, h.getD 1 0] = true := by unfold hurP at hh; rw [Bool.and_eq_true] at hh; exact hh.1
  obtain ⟨a, b, c, rfl⟩ := len3 hl
  clear hA hM
  refine Goes.tree Γ_ok htb 1000 false false Try.func145 rfl ?_
  ((try simp only [decide_eq_true_eq, decide_eq_false_iff_not, Bool.not_eq_true', Bool.not_eq_false', Bool.not_true, Bool.not_false, Bool.and_eq_true, Bool.or_eq_true, bne_iff_ne, beq_iff_eq, ne_eq]); (try simp only [rng, lo, hi, mnI, mxI, Int.toNat_natCast, Sg.n, Nat.mul_one, Nat.zero_add, Nat.add_zero, Nat.reduceAdd, List.getD_cons_zero, List.getD_cons_succ]))
  ((repeat' (first | (with_reducible apply And.intro) | intro _)); all_goals (first | exact trivial | (with_reducible assumption) | (show (_ : List Blk) = _; rfl) | (first | exact trivial | (with_reducible assumption) | omega | (split <;> omega) | (split <;> split <;> omega)) | skip); all_goals (try (refine ⟨rfl, (by first | exact Nat.le_refl _ | exact Nat.le_of_ble_eq_true rfl), rfl, rfl, ?_, (by repeat' (first | exact trivial | rfl | apply And.intro)), rfl, rfl⟩)))
  · exact hi
  · exact sameA_b hc.symm

theorem addH_mem {f : List Int → Bool} {acc : List (List Int)} {h r : List Int} (hr : r ∈ addH f acc h) : r ∈ acc ∨ (r = h ∧ f h = true) := by
  unfold addH at hr
  split at hr
  · rcases List.mem_append.1 hr with hr | hr
    · exact .inl hr
    · exact .inr ⟨List.mem_singleton.1 hr, by assumption⟩
  · exact .inl hr
theorem sidK_mem {f : List Int → Bool} {rows : List (List Int)} : ∀ i, ∀ r ∈ sidK f rows i, f r = true ∧ (r.getD 2 0 = 0 ∨ r.getD 2 0 = 1) := by
  intro i
  induction i with
  | zero => intro r hr; cases hr
  | succ i ih =>
    intro r hr
    unfold sidK addC at hr
    rcases addH_mem hr with hr | ⟨rfl, hf⟩
    · rcases addH_mem hr with hr | ⟨rfl, hf⟩
      · exact ih r hr
      · exact ⟨hf, .inl rfl⟩
    · exact ⟨hf, .inr rfl⟩

def standingS : Fun
  | [.pw 0 .pas], [.c .pas p] => some (.fs .hur (hurRows p), [.c .pas p], [okD p])
  | _, _ => .none

/-- Behind the first k sides of a cell. -/
def inC (f : List Int → Bool) (acc : List (List Int)) (s : List Int) : Nat → List (List Int)
  | 0 => acc
  | 1 => addH f acc (h0 s)
  | _ => addC f acc s
theorem hurIn {p s : List Int} (hd : okD p) (z : Int) (h : hurP p [s.getD 0 0, s.getD 1 0, z] = true) : inG [s.getD 0 0, s.getD 1 0, z] := by
  unfold hurP at h
  rw [Bool.and_eq_true] at h
  have := inG_of' hd h.1
  simpa only [inG, List.getD_cons_zero, List.getD_cons_succ] using this
def sidesS : Fun
  | [.ag .pas p, .fb 146 .pas q], [] => some (.ow 0 (hurRows p).length .hur 113, [.l .hur (hurRows p)], [okD p ∧ q = p])
  | _, _ => .none
set_option maxRecDepth 100000 in
theorem s_sides : Sound Try.prog 153 sidesS := by
  intro args M r M' vs h hvs
  unfold sidesS at h
  split at h
  case h_2 => cases h
  rename_i p q
  cases h
  refine SpecOK.assume fun hA hM => ?_
  have htb := (TbOk.cons s_all Try.func118 rfl rfl (TbOk.cons s_isHurdle Try.func163 rfl rfl (TbOk.cons s_stands Try.func146 rfl rfl (TbOk.nil : TbOk Try.prog tb0))))
  refine SpecOK.of_goes [1] Try.func153 rfl ?_
  obtain ⟨⟨hd, rfl⟩, -⟩ := hvs
  clear hA hM
  obtain ⟨hsl, hsg⟩ := spots_ok hd
  have h100 : (spots q).length ≤ 100 := by
    have h2 : (spots q).length = (q.getD 0 0).toNat * (q.getD 1 0).toNat := spotsY_len _ _
    unfold okD at hd
    have h3 : (q.getD 0 0).toNat * (q.getD 1 0).toNat ≤ 10 * 10 := Nat.mul_le_mul (by omega) (by omega)
    omega
  have h2 : ∀ s ∈ spots q, s.length = 2 := fun s hs => by
    obtain ⟨j, i, -, -, rfl⟩ := mem_spotsY.1 hs
    rfl
  unfold hurRows sidL
  refine Goes.tree Γ_ok htb 1000 false false Try.func153 rfl ?_
  ((try simp only [decide_eq_true_eq, decide_eq_false_iff_not, Bool.not_eq_true', Bool.not_eq_false', Bool.not_true, Bool.not_false, Bool.and_eq_true, Bool.or_eq_true, bne_iff_ne, beq_iff_eq, ne_eq]); (try simp only [rng, lo, hi, mnI, mxI, Int.toNat_natCast, Sg.n, Nat.mul_one, Nat.zero_add, Nat.add_zero, Nat.reduceAdd, List.getD_cons_zero, List.getD_cons_succ]))
  ((repeat' (first | (with_reducible apply And.intro) | intro _)); all_goals (first | exact trivial | (with_reducible assumption) | (show (_ : List Blk) = _; rfl) | (first | exact trivial | (with_reducible assumption) | omega | (split <;> omega) | (split <;> split <;> omega)) | skip); all_goals (try (refine ⟨rfl, (by first | exact Nat.le_refl _ | exact Nat.le_of_ble_eq_true rfl), rfl, rfl, ?_, (by repeat' (first | exact trivial | rfl | apply And.intro)), rfl, rfl⟩)))
  generalize spots q = rows at *
  refine ⟨?_⟩
  refine Goes.loopR (fun i : Nat => rows.length - i) (fun i => i ≤ rows.length) (fun i => (.any :: .fb 146 .pas q :: .pw 0 .pas :: .any :: .any :: .ow 1 (sidK (stF q) rows i).length .hur 113 :: .any :: .any :: .any :: .any :: .any :: .any :: .any :: .fs .spot rows :: .i .i64 (rows.length:Int) :: .i .i64 (i:Int) :: .any :: .any :: .any :: .any :: .any :: .any :: .any :: .any :: .any :: .any :: .any :: .any :: .any :: .any :: .any :: .any :: .any :: .any :: .any :: .any :: .any :: .any :: .any :: .any :: .any :: .any :: .any :: []))
    (fun i => [.c .pas q, .l .hur (sidK (stF q) rows i)]) 0 [0, 1] (Nat.zero_le _) ⟨rfl, rfl, rfl, (by repeat' (first | exact trivial | rfl | apply And.intro)), (by repeat' (first | exact trivial | rfl | apply And.intro)), rfl, rfl, rfl⟩ fun i hle ih => ?_
  have hl := sidK_len (stF q) rows i
  by_cases hlt : i < rows.length
  · have hgi : inG (rows.getD i []) := hsg _ (by rw [List.getD_eq_getElem?_getD, List.getElem?_eq_getElem hlt]; exact List.getElem_mem _)
    have hgl : (rows.getD i []).length = 2 := h2 _ (by rw [List.getD_eq_getElem?_getD, List.getElem?_eq_getElem hlt]; exact List.getElem_mem _)
    have ih' := ih (i + 1)
    have e1 : sidK (stF q) rows (i + 1) = addC (stF q) (sidK (stF q) rows i) (rows.getD i []) := rfl
    rw [e1] at ih'
    clear ih e1
    generalize sidK (stF q) rows i = A at *
    refine Goes.tree Γ_ok htb 1000 false false Try.func153 rfl ?_
    ((try simp only [decide_eq_true_eq, decide_eq_false_iff_not, Bool.not_eq_true', Bool.not_eq_false', Bool.not_true, Bool.not_false, Bool.and_eq_true, Bool.or_eq_true, bne_iff_ne, beq_iff_eq, ne_eq]); (try simp only [rng, lo, hi, mnI, mxI, Int.toNat_natCast, Sg.n, Nat.mul_one, Nat.zero_add, Nat.add_zero, Nat.reduceAdd, List.getD_cons_zero, List.getD_cons_succ]))
    ((repeat' (first | (with_reducible apply And.intro) | intro _)); all_goals (first | exact trivial | (with_reducible assumption) | (show (_ : List Blk) = _; rfl) | (first | exact trivial | (with_reducible assumption) | omega | (split <;> omega) | (split <;> split <;> omega)) | skip); all_goals (try (refine ⟨rfl, (by first | exact Nat.le_refl _ | exact Nat.le_of_ble_eq_true rfl), rfl, rfl, ?_, (by repeat' (first | exact trivial | rfl | apply And.intro)), rfl, rfl⟩)))
    generalize rows.getD i [] = s at *
    have hAl : A.length ≤ 200 := by omega
    have hin := hurIn hd (s := s)
    refine ⟨?_⟩
    refine Goes.loopR (fun k : Nat => 2 - k) (fun k => k ≤ 2) (fun k => (.any :: .fb 146 .pas q :: .pw 0 .pas :: .any :: .any :: .ow 1 (inC (stF q) A s k).length .hur 113 :: .any :: .pw 2 .spot :: .any :: .any :: .any :: .any :: .any :: .fs .spot rows :: .i .i64 (rows.length:Int) :: .i .i64 (i:Int) :: .any :: .any :: .any :: .ow 3 2 .bool 4 :: .i .i64 2 :: .i .i64 (k:Int) :: .any :: .any :: .any :: .any :: .any :: .any :: .any :: .any :: .any :: .any :: .any :: .any :: .any :: .any :: .any :: .any :: .any :: .any :: .any :: .any :: .any :: []))
      (fun k => [.c .pas q, .l .hur (inC (stF q) A s k), .c .spot s, .l .bool [[0], [1]]]) 0 [0, 1, 2, 3] (Nat.zero_le _) ⟨rfl, rfl, rfl, (by repeat' (first | exact trivial | rfl | apply And.intro)), (by repeat' (first | exact trivial | rfl | apply And.intro)), rfl, rfl, rfl⟩ fun k hk ihk => ?_
    have ps : ∀ z, (putSeg (List.replicate 3 0) 0 2 s).set 2 z = [s.getD 0 0, s.getD 1 0, z] := fun z => pset hgl z
    have hy : ∀ (B : List (List Int)) (h : List Int), hurP q h = true → standsP q h = true → addH (stF q) B h = B ++ [h] := fun B h hh h' => if_pos (by unfold stF; rw [hh, h']; rfl)
    have hn : ∀ (B : List (List Int)) (h : List Int), hurP q h = false → addH (stF q) B h = B := fun B h hh => if_neg (by unfold stF; rw [hh, Bool.false_and]; decide)
    have hn' : ∀ (B : List (List Int)) (h : List Int), standsP q h = false → addH (stF q) B h = B := fun B h hh => if_neg (by unfold stF; rw [hh, Bool.and_false]; decide)
    by_cases hk0 : k = 0
    · subst hk0
      have ih1 := ihk 1
      have e1 : inC (stF q) A s 1 = addH (stF q) A [s.getD 0 0, s.getD 1 0, 0] := rfl
      have e0 : inC (stF q) A s 0 = A := rfl
      rw [e1] at ih1
      rw [e0]
      clear ihk e1 e0 ih'
      have b0 : ((0 : Int) != 0) = false := rfl
      have b1 : (if (false = true) then (1 : Int) else 0) = 0 := rfl
      refine Goes.tree Γ_ok htb 1000 false false Try.func153 rfl ?_
      ((try simp only [decide_eq_true_eq, decide_eq_false_iff_not, Bool.not_eq_true', Bool.not_eq_false', Bool.not_true, Bool.not_false, Bool.and_eq_true, Bool.or_eq_true, bne_iff_ne, beq_iff_eq, ne_eq]); (try simp only [rng, lo, hi, mnI, mxI, Int.toNat_natCast, Sg.n, Nat.mul_one, Nat.zero_add, Nat.add_zero, Nat.reduceAdd, List.getD_cons_zero, List.getD_cons_succ, one_row, b0, b1, ps, not_true_eq_false, not_false_eq_true, if_false, if_true]))
      (repeat' (first | (with_reducible apply And.intro) | intro _))
      all_goals (try first | exact trivial | exact hd | (show (_ : List Blk) = _; rfl) | omega | exact hin _ (by assumption) | (show (_ ++ [_]).length ≤ _; simp only [List.length_append, List.length_cons, List.length_nil]; omega))
      · refine ⟨ih1 (by omega) (by omega) [0, 6, 2, 3] _ _ ?_⟩
        rw [hy A _ (by assumption) (by assumption)]
        exact ⟨rfl, rfl, rfl, (by repeat' (first | exact trivial | rfl | apply And.intro)), (by repeat' (first | exact trivial | rfl | apply And.intro)), rfl, rfl, rfl⟩
      · refine ⟨ih1 (by omega) (by omega) [0, 1, 2, 3] _ _ ?_⟩
        rw [hn' A _ (by assumption)]
        exact ⟨rfl, rfl, rfl, (by repeat' (first | exact trivial | rfl | apply And.intro)), (by repeat' (first | exact trivial | rfl | apply And.intro)), rfl, rfl, rfl⟩
      · refine ⟨ih1 (by omega) (by omega) [0, 1, 2, 3] _ _ ?_⟩
        rw [hn A _ (by assumption)]
        exact ⟨rfl, rfl, rfl, (by repeat' (first | exact trivial | rfl | apply And.intro)), (by repeat' (first | exact trivial | rfl | apply And.intro)), rfl, rfl, rfl⟩
    by_cases hk1 : k = 1
    · subst hk1
      have ih2 := ihk 2
      have e1 : inC (stF q) A s 2 = addH (stF q) (addH (stF q) A (h0 s)) [s.getD 0 0, s.getD 1 0, 1] := rfl
      have e0 : inC (stF q) A s 1 = addH (stF q) A (h0 s) := rfl
      rw [e1] at ih2
      rw [e0]
      have hBl : (addH (stF q) A (h0 s)).length ≤ 201 := by have := addH_len (stF q) A (h0 s); omega
      clear ihk e1 e0 ih'
      generalize addH (stF q) A (h0 s) = B at *
      have b0 : ((1 : Int) != 0) = true := rfl
      have b1 : (if (true = true) then (1 : Int) else 0) = 1 := rfl
      refine Goes.tree Γ_ok htb 1000 false false Try.func153 rfl ?_
      ((try simp only [decide_eq_true_eq, decide_eq_false_iff_not, Bool.not_eq_true', Bool.not_eq_false', Bool.not_true, Bool.not_false, Bool.and_eq_true, Bool.or_eq_true, bne_iff_ne, beq_iff_eq, ne_eq]); (try simp only [rng, lo, hi, mnI, mxI, Int.toNat_natCast, Sg.n, Nat.mul_one, Nat.zero_add, Nat.add_zero, Nat.reduceAdd, List.getD_cons_zero, List.getD_cons_succ, one_row, b0, b1, ps, not_true_eq_false, not_false_eq_true, if_false, if_true]))
      (repeat' (first | (with_reducible apply And.intro) | intro _))
      all_goals (try first | exact trivial | exact hd | (show (_ : List Blk) = _; rfl) | omega | exact hin _ (by assumption) | (show (_ ++ [_]).length ≤ _; simp only [List.length_append, List.length_cons, List.length_nil]; omega))
      · refine ⟨ih2 (by omega) (by omega) [0, 6, 2, 3] _ _ ?_⟩
        rw [hy B _ (by assumption) (by assumption)]
        exact ⟨rfl, rfl, rfl, (by repeat' (first | exact trivial | rfl | apply And.intro)), (by repeat' (first | exact trivial | rfl | apply And.intro)), rfl, rfl, rfl⟩
      · refine ⟨ih2 (by omega) (by omega) [0, 1, 2, 3] _ _ ?_⟩
        rw [hn' B _ (by assumption)]
        exact ⟨rfl, rfl, rfl, (by repeat' (first | exact trivial | rfl | apply And.intro)), (by repeat' (first | exact trivial | rfl | apply And.intro)), rfl, rfl, rfl⟩
      · refine ⟨ih2 (by omega) (by omega) [0, 1, 2, 3] _ _ ?_⟩
        rw [hn B _ (by assumption)]
        exact ⟨rfl, rfl, rfl, (by repeat' (first | exact trivial | rfl | apply And.intro)), (by repeat' (first | exact trivial | rfl | apply And.intro)), rfl, rfl, rfl⟩
    obtain rfl : k = 2 := by omega
    clear ihk
    have e0 : inC (stF q) A s 2 = addC (stF q) A s := rfl
    rw [e0]
    refine Goes.tree Γ_ok htb 1000 false false Try.func153 rfl ?_
    ((try simp only [decide_eq_true_eq, decide_eq_false_iff_not, Bool.not_eq_true', Bool.not_eq_false', Bool.not_true, Bool.not_false, Bool.and_eq_true, Bool.or_eq_true, bne_iff_ne, beq_iff_eq, ne_eq]); (try simp only [rng, lo, hi, mnI, mxI, Int.toNat_natCast, Sg.n, Nat.mul_one, Nat.zero_add, Nat.add_zero, Nat.reduceAdd, List.getD_cons_zero, List.getD_cons_succ]))
    ((repeat' (first | (with_reducible apply And.intro) | intro _)); all_goals (first | exact trivial | (with_reducible assumption) | (show (_ : List Blk) = _; rfl) | (first | exact trivial | (with_reducible assumption) | omega | (split <;> omega) | (split <;> split <;> omega)) | skip); all_goals (try (refine ⟨rfl, (by first | exact Nat.le_refl _ | exact Nat.le_of_ble_eq_true rfl), rfl, rfl, ?_, (by repeat' (first | exact trivial | rfl | apply And.intro)), rfl, rfl⟩)))
    all_goals (try (first | contradiction | exact ⟨ih' (by omega) (by omega) [0, 1] _ _ ⟨rfl, rfl, rfl, (by repeat' (first | exact trivial | rfl | apply And.intro)), (by repeat' (first | exact trivial | rfl | apply And.intro)), rfl, rfl, rfl⟩⟩))
  · obtain rfl : i = rows.length := by omega
    clear ih
    refine Goes.tree Γ_ok htb 1000 false false Try.func153 rfl ?_
    ((try simp only [decide_eq_true_eq, decide_eq_false_iff_not, Bool.not_eq_true', Bool.not_eq_false', Bool.not_true, Bool.not_false, Bool.and_eq_true, Bool.or_eq_true, bne_iff_ne, beq_iff_eq, ne_eq]); (try simp only [rng, lo, hi, mnI, mxI, Int.toNat_natCast, Sg.n, Nat.mul_one, Nat.zero_add, Nat.add_zero, Nat.reduceAdd, List.getD_cons_zero, List.getD_cons_succ]))
    ((repeat' (first | (with_reducible apply And.intro) | intro _)); all_goals (first | exact trivial | (with_reducible assumption) | (show (_ : List Blk) = _; rfl) | (first | exact trivial | (with_reducible assumption) | omega | (split <;> omega) | (split <;> split <;> omega)) | skip); all_goals (try (refine ⟨rfl, (by first | exact Nat.le_refl _ | exact Nat.le_of_ble_eq_true rfl), rfl, rfl, ?_, (by repeat' (first | exact trivial | rfl | apply And.intro)), rfl, rfl⟩)))
    all_goals (first | contradiction | exact sameA_refl _ | trace_state)
end Go.Proofs.Ytfelemoefhbphaa
