/- All yards of a pasture: impl keeps a map of the cells seen, spec a table of numbers. -/
import Derived.Test.YtfelemoefhbphaaYard2
namespace Go.Proofs.Ytfelemoefhbphaa
open Go Go.Eng
set_option linter.unusedSimpArgs false
set_option linter.unusedVariables false
set_option maxRecDepth 100000
set_option maxHeartbeats 4000000

def putT (T : List Int) (v : Int) (rows : List (List Int)) : Nat → List Int
  | 0 => T
  | i + 1 => (putT T v rows i).set (cx (rows.getD i [])) v
def putM (es : List (List Int × Int)) (rows : List (List Int)) : Nat → List (List Int × Int)
  | 0 => es
  | i + 1 => upM (putM es rows i) (rows.getD i []) 1

abbrev YS := List Int × List (List (List Int)) × List (List Int × Int)
noncomputable def ySt (p : List Int) (S : YS) (c : List Int) : YS :=
  if 0 < S.1.getD (cx c) 0 then S else (putT S.1 ((S.2.1 ++ [yardR p c]).length : Int) (yardR p c) (yardR p c).length, S.2.1 ++ [yardR p c], putM S.2.2 (yardR p c) (yardR p c).length)
noncomputable def yF (p : List Int) (l : List (List Int)) : YS := l.foldl (ySt p) (List.replicate 100 0, [], [])
noncomputable def yT (p : List Int) (l : List (List Int)) : List Int := (yF p l).1
noncomputable def yL (p : List Int) (l : List (List Int)) : List (List (List Int)) := (yF p l).2.1
noncomputable def yM (p : List Int) (l : List (List Int)) : List (List Int × Int) := (yF p l).2.2

theorem yF_snoc (p : List Int) (l : List (List Int)) (c : List Int) : yF p (l ++ [c]) = ySt p (yF p l) c := by simp [yF, List.foldl_append]

theorem putT_len (T : List Int) (v : Int) (rows : List (List Int)) (i : Nat) : (putT T v rows i).length = T.length := by
  induction i with
  | zero => rfl
  | succ i ih => simp [putT, ih]
theorem getD_mem {α : Type} {l : List α} {i : Nat} {d : α} (h : i < l.length) : l.getD i d ∈ l := by
  rw [List.getD_eq_getElem?_getD, List.getElem?_eq_getElem h]; exact List.getElem_mem _
theorem putT_rng {T : List Int} {v : Int} {rows : List (List Int)} {b : Int} (h : ∀ j, 0 ≤ T.getD j 0 ∧ T.getD j 0 ≤ b) (h0 : 0 ≤ v) (h1 : v ≤ b) : ∀ i j, 0 ≤ (putT T v rows i).getD j 0 ∧ (putT T v rows i).getD j 0 ≤ b := by
  intro i
  induction i with
  | zero => exact h
  | succ i ih =>
    intro j
    unfold putT
    rw [set_get]
    split
    · exact ⟨h0, h1⟩
    · exact ih j
/-- The map and the table tell the same. -/
def sameTM (T : List Int) (es : List (List Int × Int)) : Prop := ∀ c, inG c → c.length = 2 → (lkM es c = 0 ∨ lkM es c = 1) ∧ (0 < T.getD (cx c) 0 ↔ lkM es c = 1)
theorem put_same {T : List Int} {es : List (List Int × Int)} (hT : T.length = 100) (h : sameTM T es) {v : Int} (hv : 0 < v) {rows : List (List Int)} (hr : cellsR rows) : ∀ i, i ≤ rows.length → sameTM (putT T v rows i) (putM es rows i) := by
  intro i
  induction i with
  | zero => intro _; exact h
  | succ i ih =>
    intro hi c hc lc
    have hm := hr _ (getD_mem (d := []) (show i < rows.length by omega))
    obtain ⟨h1, h2⟩ := ih (by omega) c hc lc
    have hlt := cx_lt hm.1
    unfold putT putM
    rw [set_get, lkM_upM, putT_len]
    by_cases e : cx (rows.getD i []) = cx c
    · have e2 := cx_inj hc hm.1 lc hm.2 e.symm
      rw [if_pos e2, if_pos ⟨e, by omega⟩]
      exact ⟨.inr rfl, fun _ => rfl, fun _ => hv⟩
    · rw [if_neg (fun e2 => e (by rw [← e2])), if_neg (fun h => e h.1)]
      exact ⟨h1, h2⟩

structure YOk (S : YS) (n : Nat) : Prop where
  len : S.1.length = 100
  ln : S.2.1.length ≤ n
  rg : ∀ j, 0 ≤ S.1.getD j 0 ∧ S.1.getD j 0 ≤ (S.2.1.length : Int)
  mp : sameTM S.1 S.2.2
theorem YOk.step {p : List Int} (hd : okD p) {S : YS} {n : Nat} (h : YOk S n) (c : List Int) : YOk (ySt p S c) (n + 1) := by
  unfold ySt
  split
  · exact ⟨h.len, Nat.le_succ_of_le h.ln, h.rg, h.mp⟩
  · refine ⟨by rw [putT_len]; exact h.len, by have := h.ln; simp; omega, ?_, ?_⟩
    · refine putT_rng (fun j => ⟨(h.rg j).1, ?_⟩) (by omega) (Int.le_refl _) _
      have := (h.rg j).2
      simp only [List.length_append, List.length_cons, List.length_nil]; omega
    · exact put_same h.len h.mp (by simp only [List.length_append, List.length_cons, List.length_nil]; omega) (yardR_cells hd) _ (Nat.le_refl _)
theorem yF_ok {p : List Int} (hd : okD p) (l : List (List Int)) : ∀ S n, YOk S n → YOk (l.foldl (ySt p) S) (n + l.length) := by
  induction l with
  | nil => intro S n h; exact h
  | cons c l ih =>
    intro S n h
    have := ih _ _ (h.step hd c)
    rw [List.foldl_cons, List.length_cons, show n + (l.length + 1) = n + 1 + l.length from by omega]
    exact this
theorem yOk {p : List Int} (hd : okD p) (l : List (List Int)) : YOk (yF p l) l.length := by
  have := yF_ok hd l (List.replicate 100 0, [], []) 0 ⟨by simp, by simp, fun j => ?_, fun c _ _ => ⟨.inl rfl, ?_⟩⟩
  · rw [Nat.zero_add] at this; exact this
  · have : (List.replicate 100 (0:Int)).getD j 0 = 0 := by
      rw [List.getD_eq_getElem?_getD, List.getElem?_replicate]; split <;> rfl
    simp only [this]; simp
  · have : (List.replicate 100 (0:Int)).getD (cx c) 0 = 0 := by
      rw [List.getD_eq_getElem?_getD, List.getElem?_replicate]; split <;> rfl
    simp only [this]; simp [lkM]
/-- Every yard is the yard of one of the cells. -/
theorem yL_mem {p : List Int} (l : List (List Int)) : ∀ S : YS, (∀ Y ∈ S.2.1, ∃ c, Y = yardR p c) → ∀ Y ∈ (l.foldl (ySt p) S).2.1, ∃ c, Y = yardR p c := by
  induction l with
  | nil => intro S h; exact h
  | cons c l ih =>
    intro S h
    refine ih _ ?_
    intro Y hY
    unfold ySt at hY
    split at hY
    · exact h Y hY
    · rcases List.mem_append.1 hY with hY | hY
      · exact h Y hY
      · exact ⟨c, List.mem_singleton.1 hY⟩
theorem yL_cells {p : List Int} (hd : okD p) {l : List (List Int)} {Y : List (List Int)} (h : Y ∈ yL p l) : cellsR Y ∧ Y.length ≤ 100 := by
  obtain ⟨c, rfl⟩ := yL_mem l (List.replicate 100 0, [], []) (fun Y h => by cases h) Y h
  exact ⟨yardR_cells hd, yardR_100 hd⟩

theorem y_yes {p : List Int} {l : List (List Int)} {c : List Int} (h : ¬ 0 < (yT p l).getD (cx c) 0) : yT p (l ++ [c]) = putT (yT p l) ((yL p l ++ [yardR p c]).length : Int) (yardR p c) (yardR p c).length ∧ yL p (l ++ [c]) = yL p l ++ [yardR p c] ∧ yM p (l ++ [c]) = putM (yM p l) (yardR p c) (yardR p c).length := by
  unfold yT yL yM at *
  rw [yF_snoc]
  unfold ySt
  rw [if_neg h]
  exact ⟨rfl, rfl, rfl⟩
theorem y_no {p : List Int} {l : List (List Int)} {c : List Int} (h : 0 < (yT p l).getD (cx c) 0) : yT p (l ++ [c]) = yT p l ∧ yL p (l ++ [c]) = yL p l ∧ yM p (l ++ [c]) = yM p l := by
  unfold yT yL yM at *
  rw [yF_snoc]
  unfold ySt
  rw [if_pos h]
  exact ⟨rfl, rfl, rfl⟩

theorem rowA_isP {acc : List (List Int)} {p : List Int} {y w : Nat} (hy : (y : Int) < p.getD 1 0) (hw : (w : Int) ≤ p.getD 0 0) (h : ∀ s ∈ acc, isP p s = true ∧ s.length = 2) : ∀ x, x ≤ w → ∀ s ∈ rowA acc y x, isP p s = true ∧ s.length = 2 := by
  intro x
  induction x with
  | zero => intro _; exact h
  | succ x ih =>
    intro hx s hs
    unfold rowA at hs
    rcases List.mem_append.1 hs with hs | hs
    · exact ih (by omega) s hs
    · rw [List.mem_singleton.1 hs]
      refine ⟨?_, rfl⟩
      unfold isP
      simp only [List.getD_cons_zero, List.getD_cons_succ, decide_eq_true_eq]; omega
theorem spotsY_isP {p : List Int} {w : Nat} (hw : (w : Int) ≤ p.getD 0 0) : ∀ y : Nat, (y : Int) ≤ p.getD 1 0 → ∀ s ∈ spotsY w y, isP p s = true ∧ s.length = 2 := by
  intro y
  induction y with
  | zero => intro _ s hs; cases hs
  | succ y ih => intro hy; exact rowA_isP (by omega) hw (ih (by omega)) w (Nat.le_refl _)
theorem spots_in {p : List Int} (h : okD p) : ∀ s ∈ spots p, isP p s = true ∧ s.length = 2 := by
  unfold okD at h
  exact spotsY_isP (by omega) _ (by omega)
theorem spots_100 {p : List Int} (h : okD p) : (spots p).length ≤ 100 := by
  unfold okD at h
  unfold spots
  rw [spotsY_len]
  have h2 : (p.getD 0 0).toNat * (p.getD 1 0).toNat ≤ 10 * 10 := Nat.mul_le_mul (by omega) (by omega)
  omega
theorem inG_isP {p s : List Int} (hd : okD p) (h : isP p s = true) : inG s := by
  unfold isP at h
  unfold okD at hd
  have := of_decide_eq_true h
  unfold inG; omega

theorem yL_100 {p : List Int} (h : okD p) : (yL p (spots p)).length ≤ 100 := by
  have h1 := (yOk h (spots p)).ln
  have h2 := spots_100 h
  unfold yL; omega

noncomputable def yardsZS : Fun
  | [.ag .pas p], [] => some (.fz .spot (yL p (spots p)), [], [okD p])
  | _, _ => .none
set_option maxRecDepth 100000 in
theorem s_yards : Sound Try.prog 64 yardsZS := by
  intro args M r M' vs h hvs
  unfold yardsZS at h
  split at h
  case h_2 => cases h
  rename_i p
  cases h
  refine SpecOK.assume fun hA hM => ?_
  have htb := (TbOk.cons s_all Try.func118 rfl rfl (TbOk.cons s_yardZ Try.func59 rfl rfl (TbOk.nil : TbOk Try.prog tb0)))
  refine SpecOK.of_goes [] Try.func64 rfl ?_
  obtain ⟨hd, -⟩ := hvs
  have h100 := spots_100 hd
  clear hA hM
  refine Goes.tree Γ_ok htb 1000 true false Try.func64 rfl ?_
  ((try simp only [decide_eq_true_eq, decide_eq_false_iff_not, Bool.not_eq_true', Bool.not_eq_false', Bool.not_true, Bool.not_false, Bool.and_eq_true, Bool.or_eq_true, bne_iff_ne, beq_iff_eq, ne_eq]); (try simp only [rng, lo, hi, mnI, mxI, Int.toNat_natCast, Sg.n, Nat.mul_one, Nat.zero_add, Nat.add_zero, Nat.reduceAdd, List.getD_cons_zero, List.getD_cons_succ]))
  ((repeat' (first | (with_reducible apply And.intro) | intro _)); all_goals (first | exact trivial | (with_reducible assumption) | (show (_ : List Blk) = _; rfl) | (first | exact trivial | (with_reducible assumption) | omega | (split <;> omega) | (split <;> split <;> omega)) | skip); all_goals (try (refine ⟨rfl, (by first | exact Nat.le_refl _ | exact Nat.le_of_ble_eq_true rfl), rfl, rfl, ?_, (by repeat' (first | exact trivial | rfl | apply And.intro)), rfl, rfl⟩)))
  refine ⟨?_⟩
  refine Goes.loopR (fun i : Nat => (spots p).length - i) (fun i => i ≤ (spots p).length) (fun i => (.any :: .pw 0 .pas :: .any :: .ow 1 (yL p ((spots p).take i)).length .ref 32 :: .mp 2 :: .any :: .any :: .any :: .any :: .any :: .any :: .any :: .any :: .fs .spot (spots p) :: .i .i64 ((spots p).length : Int) :: .i .i64 (i:Int) :: .any :: .any :: .any :: .any :: .any :: .any :: .any :: .any :: .any :: .any :: .any :: .any :: .any :: .any :: .any :: .any :: .any :: .any :: .any :: .any :: .any :: .any :: .any :: .any :: []))
    (fun i => [.c .pas p, .rf .spot (yL p ((spots p).take i)), .m .spot .bool (yM p ((spots p).take i))]) 0 [0, 1, 2] (by omega) ⟨rfl, rfl, rfl, (by repeat' (first | exact trivial | rfl | apply And.intro)), (by repeat' (first | exact trivial | rfl | apply And.intro)), rfl, rfl, rfl⟩ fun i hi' ihO => ?_
  by_cases hlt : i < (spots p).length
  · have htk : (spots p).take (i + 1) = (spots p).take i ++ [(spots p).getD i []] := by
      rw [List.take_add_one, List.getElem?_eq_getElem hlt, List.getD_eq_getElem?_getD, List.getElem?_eq_getElem hlt]; rfl
    obtain ⟨hcP, hc2⟩ := spots_in hd _ (getD_mem (d := []) hlt)
    have hcG := inG_isP hd hcP
    have hS := yOk hd ((spots p).take i)
    have hSm := hS.mp _ hcG hc2
    have hln : (yL p ((spots p).take i)).length ≤ i := by have := hS.ln; rw [List.length_take] at this; unfold yL; omega
    have hyes := fun h : lkM (yM p ((spots p).take i)) ((spots p).getD i []) = 0 => y_yes (p := p) (l := (spots p).take i) (c := (spots p).getD i []) (fun h' => by have := hSm.2.1 h'; unfold yM at h; omega)
    have hno := fun h : ¬ lkM (yM p ((spots p).take i)) ((spots p).getD i []) = 0 => y_no (p := p) (l := (spots p).take i) (c := (spots p).getD i []) (hSm.2.2 (by unfold yM at h; omega))
    rw [← htk] at hyes hno
    clear hSm hS
    refine Goes.tree Γ_ok htb 1000 true false Try.func64 rfl ?_
    ((try simp only [decide_eq_true_eq, decide_eq_false_iff_not, Bool.not_eq_true', Bool.not_eq_false', Bool.not_true, Bool.not_false, Bool.and_eq_true, Bool.or_eq_true, bne_iff_ne, beq_iff_eq, ne_eq]); (try simp only [rng, lo, hi, mnI, mxI, Int.toNat_natCast, Sg.n, Nat.mul_one, Nat.zero_add, Nat.add_zero, Nat.reduceAdd, List.getD_cons_zero, List.getD_cons_succ]))
    ((repeat' (first | (with_reducible apply And.intro) | intro _)); all_goals (first | exact trivial | (with_reducible assumption) | (show (_ : List Blk) = _; rfl) | (first | exact trivial | (with_reducible assumption) | omega | (split <;> omega) | (split <;> split <;> omega)) | skip); all_goals (try (refine ⟨rfl, (by first | exact Nat.le_refl _ | exact Nat.le_of_ble_eq_true rfl), rfl, rfl, ?_, (by repeat' (first | exact trivial | rfl | apply And.intro)), rfl, rfl⟩)))
    · rename_i h
      refine ⟨ihO (i + 1) (by omega) (by omega) [0, 1, 2] _ _ ?_⟩
      rw [(hno h).2.1, (hno h).2.2]
      exact ⟨rfl, rfl, rfl, (by repeat' (first | exact trivial | rfl | apply And.intro)), (by repeat' (first | exact trivial | rfl | apply And.intro)), rfl, rfl, rfl⟩
    · rename_i h
      have h0 : lkM (yM p ((spots p).take i)) ((spots p).getD i []) = 0 := by simpa using h
      have hyc := yardR_cells (s := (spots p).getD i []) hd
      have hy100 := yardR_100 (s := (spots p).getD i []) hd
      refine ⟨?_⟩
      refine Goes.loopR (fun j : Nat => (yardR p ((spots p).getD i [])).length - j) (fun j => j ≤ (yardR p ((spots p).getD i [])).length) (fun j => (.any :: .pw 0 .pas :: .any :: .ow 1 (yL p ((spots p).take i)).length .ref 32 :: .mp 2 :: .any :: .any :: .fs .spot (yardR p ((spots p).getD i [])) :: .any :: .any :: .any :: .any :: .any :: .fs .spot (spots p) :: .i .i64 ((spots p).length : Int) :: .i .i64 (i:Int) :: .any :: .any :: .any :: .any :: .any :: .any :: .any :: .any :: .any :: .fs .spot (yardR p ((spots p).getD i [])) :: .i .i64 ((yardR p ((spots p).getD i [])).length : Int) :: .i .i64 (j:Int) :: .any :: .any :: .any :: .any :: .any :: .any :: .any :: .any :: .any :: .any :: .any :: .any :: []))
        (fun j => [.c .pas p, .rf .spot (yL p ((spots p).take i)), .m .spot .bool (putM (yM p ((spots p).take i)) (yardR p ((spots p).getD i [])) j)]) 0 [0, 1, 2] (by omega) ⟨rfl, rfl, rfl, (by repeat' (first | exact trivial | rfl | apply And.intro)), (by repeat' (first | exact trivial | rfl | apply And.intro)), rfl, rfl, rfl⟩ fun j hj ih => ?_
      refine Goes.tree Γ_ok htb 1000 true false Try.func64 rfl ?_
      ((try simp only [decide_eq_true_eq, decide_eq_false_iff_not, Bool.not_eq_true', Bool.not_eq_false', Bool.not_true, Bool.not_false, Bool.and_eq_true, Bool.or_eq_true, bne_iff_ne, beq_iff_eq, ne_eq]); (try simp only [rng, lo, hi, mnI, mxI, Int.toNat_natCast, Sg.n, Nat.mul_one, Nat.zero_add, Nat.add_zero, Nat.reduceAdd, List.getD_cons_zero, List.getD_cons_succ]))
      ((repeat' (first | (with_reducible apply And.intro) | intro _)); all_goals (first | exact trivial | (with_reducible assumption) | (show (_ : List Blk) = _; rfl) | (first | exact trivial | (with_reducible assumption) | omega | (split <;> omega) | (split <;> split <;> omega)) | skip); all_goals (try (refine ⟨rfl, (by first | exact Nat.le_refl _ | exact Nat.le_of_ble_eq_true rfl), rfl, rfl, ?_, (by repeat' (first | exact trivial | rfl | apply And.intro)), rfl, rfl⟩)))
      · exact ⟨ih (j + 1) (by omega) (by omega) [0, 1, 2] _ _ ⟨rfl, rfl, rfl, (by repeat' (first | exact trivial | rfl | apply And.intro)), (by repeat' (first | exact trivial | rfl | apply And.intro)), rfl, rfl, rfl⟩⟩
      · show (yL p ((spots p).take i) ++ [yardR p ((spots p).getD i [])]).length ≤ _
        simp only [List.length_append, List.length_cons, List.length_nil]; omega
      · obtain rfl : j = (yardR p ((spots p).getD i [])).length := by omega
        refine ⟨ihO (i + 1) (by omega) (by omega) [0, 4, 2] _ _ ?_⟩
        rw [(hyes h0).2.1, (hyes h0).2.2]
        exact ⟨rfl, rfl, rfl, (by repeat' (first | exact trivial | rfl | apply And.intro)), (by repeat' (first | exact trivial | rfl | apply And.intro)), rfl, rfl, rfl⟩
  · obtain rfl : i = (spots p).length := by omega
    clear ihO
    refine Goes.tree Γ_ok htb 1000 true false Try.func64 rfl ?_
    ((try simp only [decide_eq_true_eq, decide_eq_false_iff_not, Bool.not_eq_true', Bool.not_eq_false', Bool.not_true, Bool.not_false, Bool.and_eq_true, Bool.or_eq_true, bne_iff_ne, beq_iff_eq, ne_eq]); (try simp only [rng, lo, hi, mnI, mxI, Int.toNat_natCast, Sg.n, Nat.mul_one, Nat.zero_add, Nat.add_zero, Nat.reduceAdd, List.getD_cons_zero, List.getD_cons_succ]))
    ((repeat' (first | (with_reducible apply And.intro) | intro _)); all_goals (first | exact trivial | (with_reducible assumption) | (show (_ : List Blk) = _; rfl) | (first | exact trivial | (with_reducible assumption) | omega | (split <;> omega) | (split <;> split <;> omega)) | skip); all_goals (try (refine ⟨rfl, (by first | exact Nat.le_refl _ | exact Nat.le_of_ble_eq_true rfl), rfl, rfl, ?_, (by repeat' (first | exact trivial | rfl | apply And.intro)), rfl, rfl⟩)))
    rw [List.take_length]
    exact sameA_refl _

noncomputable def numsS : Fun
  | [.pw 0 .pas], [.c .pas p] => some (.t2 (.ag .lgrid (yT p (spots p))) (.fz .spot (yL p (spots p))), [.c .pas p], [okD p])
  | _, _ => .none
set_option maxRecDepth 100000 in
theorem s_l01Numbers : Sound Try.prog 62 numsS := by
  intro args M r M' vs h hvs
  unfold numsS at h
  split at h
  case h_2 => cases h
  rename_i p
  cases h
  refine SpecOK.assume fun hA hM => ?_
  have htb := (TbOk.cons s_l01Yard Try.func55 rfl rfl (TbOk.nil : TbOk Try.prog tb0))
  refine SpecOK.of_goes [0] Try.func62 rfl ?_
  obtain ⟨hd, -⟩ := hvs
  obtain ⟨hw1, hw2, hh1, hh2⟩ := hd
  have hd : okD p := ⟨hw1, hw2, hh1, hh2⟩
  clear hA hM
  refine Goes.tree Γ_ok htb 1000 true false Try.func62 rfl ?_
  ((try simp only [decide_eq_true_eq, decide_eq_false_iff_not, Bool.not_eq_true', Bool.not_eq_false', Bool.not_true, Bool.not_false, Bool.and_eq_true, Bool.or_eq_true, bne_iff_ne, beq_iff_eq, ne_eq]); (try simp only [rng, lo, hi, mnI, mxI, Int.toNat_natCast, Sg.n, Nat.mul_one, Nat.zero_add, Nat.add_zero, Nat.reduceAdd, List.getD_cons_zero, List.getD_cons_succ]))
  ((repeat' (first | (with_reducible apply And.intro) | intro _)); all_goals (first | exact trivial | (with_reducible assumption) | (show (_ : List Blk) = _; rfl) | (first | exact trivial | (with_reducible assumption) | omega | (split <;> omega) | (split <;> split <;> omega)) | skip); all_goals (try (refine ⟨rfl, (by first | exact Nat.le_refl _ | exact Nat.le_of_ble_eq_true rfl), rfl, rfl, ?_, (by repeat' (first | exact trivial | rfl | apply And.intro)), rfl, rfl⟩)))
  refine ⟨?_⟩
  unfold spots
  have hb : ∀ y, y ≤ (p.getD 1 0).toNat → (p.getD 0 0).toNat * y ≤ 10 * 10 := fun y hy => Nat.mul_le_mul (by omega) (by omega)
  refine Goes.loopR (fun y : Nat => (p.getD 1 0).toNat - y) (fun y => y ≤ (p.getD 1 0).toNat) (fun y => (.pw 0 .pas :: .any :: .pw 1 .lgrid :: .any :: .pw 2 .lgrid :: .ow 3 (yL p (spotsY (p.getD 0 0).toNat y)).length .ref 32 :: .i .i8 (y:Int) :: .any :: .any :: .any :: .any :: .any :: .any :: .any :: .any :: .any :: .any :: .any :: .any :: .any :: .any :: .any :: .any :: .any :: .any :: .any :: .any :: .any :: .any :: .any :: .any :: .any :: .any :: .any :: .any :: .any :: .any :: .any :: .any :: .any :: .any :: .any :: .any :: .any :: .any :: .any :: .any :: .any :: .any :: .any :: .any :: .any :: .any :: .any :: .any :: .any :: .any :: .any :: .any :: .any :: .any :: .any :: .any :: .any :: .any :: []))
    (fun y => [.c .pas p, .c .lgrid (List.replicate 100 0), .c .lgrid (yT p (spotsY (p.getD 0 0).toNat y)), .rf .spot (yL p (spotsY (p.getD 0 0).toNat y))]) 0 [0, 1, 2, 3] (by omega) ⟨rfl, rfl, rfl, (by repeat' (first | exact trivial | rfl | apply And.intro)), (by repeat' (first | exact trivial | rfl | apply And.intro)), rfl, rfl, rfl⟩ fun y hy ihO => ?_
  have hb1 := hb y hy
  by_cases hlt : (y : Int) < p.getD 1 0
  · refine Goes.tree Γ_ok htb 1000 true false Try.func62 rfl ?_
    ((try simp only [decide_eq_true_eq, decide_eq_false_iff_not, Bool.not_eq_true', Bool.not_eq_false', Bool.not_true, Bool.not_false, Bool.and_eq_true, Bool.or_eq_true, bne_iff_ne, beq_iff_eq, ne_eq]); (try simp only [rng, lo, hi, mnI, mxI, Int.toNat_natCast, Sg.n, Nat.mul_one, Nat.zero_add, Nat.add_zero, Nat.reduceAdd, List.getD_cons_zero, List.getD_cons_succ]))
    ((repeat' (first | (with_reducible apply And.intro) | intro _)); all_goals (first | exact trivial | (with_reducible assumption) | (show (_ : List Blk) = _; rfl) | (first | exact trivial | (with_reducible assumption) | omega | (split <;> omega) | (split <;> split <;> omega)) | skip); all_goals (try (refine ⟨rfl, (by first | exact Nat.le_refl _ | exact Nat.le_of_ble_eq_true rfl), rfl, rfl, ?_, (by repeat' (first | exact trivial | rfl | apply And.intro)), rfl, rfl⟩)))
    refine ⟨?_⟩
    refine Goes.loopR (fun x : Nat => (p.getD 0 0).toNat - x) (fun x => x ≤ (p.getD 0 0).toNat) (fun x => (.pw 0 .pas :: .any :: .pw 1 .lgrid :: .any :: .pw 2 .lgrid :: .ow 3 (yL p (rowA (spotsY (p.getD 0 0).toNat y) y x)).length .ref 32 :: .i .i8 (y:Int) :: .i .i8 (x:Int) :: .any :: .any :: .any :: .any :: .any :: .any :: .any :: .any :: .any :: .any :: .any :: .any :: .any :: .any :: .any :: .any :: .any :: .any :: .any :: .any :: .any :: .any :: .any :: .any :: .any :: .any :: .any :: .any :: .any :: .any :: .any :: .any :: .any :: .any :: .any :: .any :: .any :: .any :: .any :: .any :: .any :: .any :: .any :: .any :: .any :: .any :: .any :: .any :: .any :: .any :: .any :: .any :: .any :: .any :: .any :: .any :: .any :: []))
      (fun x => [.c .pas p, .c .lgrid (List.replicate 100 0), .c .lgrid (yT p (rowA (spotsY (p.getD 0 0).toNat y) y x)), .rf .spot (yL p (rowA (spotsY (p.getD 0 0).toNat y) y x))]) 0 [0, 1, 2, 3] (by omega) ⟨rfl, rfl, rfl, (by repeat' (first | exact trivial | rfl | apply And.intro)), (by repeat' (first | exact trivial | rfl | apply And.intro)), rfl, rfl, rfl⟩ fun x hx ih => ?_
    have hS := yOk hd (rowA (spotsY (p.getD 0 0).toNat y) y x)
    have hln : (yL p (rowA (spotsY (p.getD 0 0).toNat y) y x)).length ≤ 200 := by
      have := hS.ln
      rw [rowA_len, spotsY_len] at this
      unfold yL; omega
    have hrg : 0 ≤ (yT p (rowA (spotsY (p.getD 0 0).toNat y) y x)).getD (y * 10 + x) 0 ∧ (yT p (rowA (spotsY (p.getD 0 0).toNat y) y x)).getD (y * 10 + x) 0 ≤ 200 := by
      have := hS.rg (y * 10 + x)
      unfold yT yL at *; omega
    have hcx : cx [(x : Int), (y : Int)] = y * 10 + x := by unfold cx; simp
    by_cases hlx : (x : Int) < p.getD 0 0
    · have hyes := fun h : ¬ 0 < (yT p (rowA (spotsY (p.getD 0 0).toNat y) y x)).getD (y * 10 + x) 0 => y_yes (p := p) (l := rowA (spotsY (p.getD 0 0).toNat y) y x) (c := [(x : Int), (y : Int)]) (by rw [hcx]; exact h)
      have hno := fun h : 0 < (yT p (rowA (spotsY (p.getD 0 0).toNat y) y x)).getD (y * 10 + x) 0 => y_no (p := p) (l := rowA (spotsY (p.getD 0 0).toNat y) y x) (c := [(x : Int), (y : Int)]) (by rw [hcx]; exact h)
      have e : rowA (spotsY (p.getD 0 0).toNat y) y x ++ [[(x : Int), (y : Int)]] = rowA (spotsY (p.getD 0 0).toNat y) y (x + 1) := rfl
      rw [e] at hyes hno
      have hP : isP p [(x : Int), (y : Int)] = true := by
        unfold isP
        simp only [List.getD_cons_zero, List.getD_cons_succ, decide_eq_true_eq]; omega
      clear hS
      refine Goes.tree Γ_ok htb 1000 true false Try.func62 rfl ?_
      ((try simp only [decide_eq_true_eq, decide_eq_false_iff_not, Bool.not_eq_true', Bool.not_eq_false', Bool.not_true, Bool.not_false, Bool.and_eq_true, Bool.or_eq_true, bne_iff_ne, beq_iff_eq, ne_eq]); (try simp only [rng, lo, hi, mnI, mxI, Int.toNat_natCast, Sg.n, Nat.mul_one, Nat.zero_add, Nat.add_zero, Nat.reduceAdd, List.getD_cons_zero, List.getD_cons_succ]))
      ((repeat' (first | (with_reducible apply And.intro) | intro _)); all_goals (first | exact trivial | (with_reducible assumption) | (show (_ : List Blk) = _; rfl) | (first | exact trivial | (with_reducible assumption) | omega | (split <;> omega) | (split <;> split <;> omega)) | skip); all_goals (try (refine ⟨rfl, (by first | exact Nat.le_refl _ | exact Nat.le_of_ble_eq_true rfl), rfl, rfl, ?_, (by repeat' (first | exact trivial | rfl | apply And.intro)), rfl, rfl⟩)))
      · rename_i h
        refine ⟨ih (x + 1) (by omega) (by omega) [0, 1, 2, 3] _ _ ?_⟩
        rw [(hno h).1, (hno h).2.1]
        exact ⟨rfl, rfl, rfl, (by repeat' (first | exact trivial | rfl | apply And.intro)), (by repeat' (first | exact trivial | rfl | apply And.intro)), rfl, rfl, rfl⟩
      · show (yL p (rowA (spotsY (p.getD 0 0).toNat y) y x) ++ [yardR p [(x : Int), (y : Int)]]).length ≤ _
        simp only [List.length_append, List.length_cons, List.length_nil]; omega
      · rename_i h
        have hyc := yardR_cells (s := [(x : Int), (y : Int)]) hd
        have hy100 := yardR_100 (s := [(x : Int), (y : Int)]) hd
        refine ⟨?_⟩
        refine Goes.loopR (fun j : Nat => (yardR p [(x : Int), (y : Int)]).length - j) (fun j => j ≤ (yardR p [(x : Int), (y : Int)]).length) (fun j => (.pw 0 .pas :: .any :: .pw 1 .lgrid :: .any :: .pw 2 .lgrid :: .ow 3 (yL p (rowA (spotsY (p.getD 0 0).toNat y) y x) ++ [yardR p [(x : Int), (y : Int)]]).length .ref 32 :: .i .i8 (y:Int) :: .i .i8 (x:Int) :: .fs .spot (yardR p [(x : Int), (y : Int)]) :: .i .i64 (j:Int) :: .any :: .any :: .any :: .any :: .any :: .any :: .any :: .any :: .any :: .any :: .any :: .any :: .any :: .any :: .any :: .any :: .any :: .any :: .any :: .any :: .any :: .any :: .any :: .any :: .any :: .any :: .any :: .any :: .any :: .any :: .any :: .any :: .any :: .any :: .any :: .any :: .any :: .any :: .any :: .any :: .any :: .any :: .any :: .any :: .any :: .any :: .any :: .any :: .any :: .any :: .any :: .any :: .any :: .any :: .any :: []))
          (fun j => [.c .pas p, .c .lgrid (List.replicate 100 0), .c .lgrid (putT (yT p (rowA (spotsY (p.getD 0 0).toNat y) y x)) ((yL p (rowA (spotsY (p.getD 0 0).toNat y) y x) ++ [yardR p [(x : Int), (y : Int)]]).length : Int) (yardR p [(x : Int), (y : Int)]) j), .rf .spot (yL p (rowA (spotsY (p.getD 0 0).toNat y) y x) ++ [yardR p [(x : Int), (y : Int)]])]) 0 [0, 1, 2, 5] (by omega) ⟨rfl, rfl, rfl, (by repeat' (first | exact trivial | rfl | apply And.intro)), (by repeat' (first | exact trivial | rfl | apply And.intro)), rfl, rfl, rfl⟩ fun j hj ihI => ?_
        by_cases hlj : j < (yardR p [(x : Int), (y : Int)]).length
        · have hg := (hyc _ (getD_mem (d := []) hlj)).1
          unfold inG at hg
          clear hyc
          refine Goes.tree Γ_ok htb 1000 true false Try.func62 rfl ?_
          ((try simp only [decide_eq_true_eq, decide_eq_false_iff_not, Bool.not_eq_true', Bool.not_eq_false', Bool.not_true, Bool.not_false, Bool.and_eq_true, Bool.or_eq_true, bne_iff_ne, beq_iff_eq, ne_eq]); (try simp only [rng, lo, hi, mnI, mxI, Int.toNat_natCast, Sg.n, Nat.mul_one, Nat.zero_add, Nat.add_zero, Nat.reduceAdd, List.getD_cons_zero, List.getD_cons_succ]))
          ((repeat' (first | (with_reducible apply And.intro) | intro _)); all_goals (first | exact trivial | (with_reducible assumption) | (show (_ : List Blk) = _; rfl) | (first | exact trivial | (with_reducible assumption) | omega | (split <;> omega) | (split <;> split <;> omega)) | skip); all_goals (try (refine ⟨rfl, (by first | exact Nat.le_refl _ | exact Nat.le_of_ble_eq_true rfl), rfl, rfl, ?_, (by repeat' (first | exact trivial | rfl | apply And.intro)), rfl, rfl⟩)))
          exact ⟨ihI (j + 1) (by omega) (by omega) [0, 1, 2, 3] _ _ ⟨rfl, rfl, rfl, (by repeat' (first | exact trivial | rfl | apply And.intro)), (by repeat' (first | exact trivial | rfl | apply And.intro)), rfl, rfl, rfl⟩⟩
        · obtain rfl : j = (yardR p [(x : Int), (y : Int)]).length := by omega
          clear ihI
          refine Goes.tree Γ_ok htb 1000 true false Try.func62 rfl ?_
          ((try simp only [decide_eq_true_eq, decide_eq_false_iff_not, Bool.not_eq_true', Bool.not_eq_false', Bool.not_true, Bool.not_false, Bool.and_eq_true, Bool.or_eq_true, bne_iff_ne, beq_iff_eq, ne_eq]); (try simp only [rng, lo, hi, mnI, mxI, Int.toNat_natCast, Sg.n, Nat.mul_one, Nat.zero_add, Nat.add_zero, Nat.reduceAdd, List.getD_cons_zero, List.getD_cons_succ]))
          ((repeat' (first | (with_reducible apply And.intro) | intro _)); all_goals (first | exact trivial | (with_reducible assumption) | (show (_ : List Blk) = _; rfl) | (first | exact trivial | (with_reducible assumption) | omega | (split <;> omega) | (split <;> split <;> omega)) | skip); all_goals (try (refine ⟨rfl, (by first | exact Nat.le_refl _ | exact Nat.le_of_ble_eq_true rfl), rfl, rfl, ?_, (by repeat' (first | exact trivial | rfl | apply And.intro)), rfl, rfl⟩)))
          refine ⟨ih (x + 1) (by omega) (by omega) [0, 1, 2, 3] _ _ ?_⟩
          rw [(hyes h).1, (hyes h).2.1]
          exact ⟨rfl, rfl, rfl, (by repeat' (first | exact trivial | rfl | apply And.intro)), (by repeat' (first | exact trivial | rfl | apply And.intro)), rfl, rfl, rfl⟩
    · obtain rfl : x = (p.getD 0 0).toNat := by omega
      clear ih
      refine Goes.tree Γ_ok htb 1000 true false Try.func62 rfl ?_
      ((try simp only [decide_eq_true_eq, decide_eq_false_iff_not, Bool.not_eq_true', Bool.not_eq_false', Bool.not_true, Bool.not_false, Bool.and_eq_true, Bool.or_eq_true, bne_iff_ne, beq_iff_eq, ne_eq]); (try simp only [rng, lo, hi, mnI, mxI, Int.toNat_natCast, Sg.n, Nat.mul_one, Nat.zero_add, Nat.add_zero, Nat.reduceAdd, List.getD_cons_zero, List.getD_cons_succ]))
      ((repeat' (first | (with_reducible apply And.intro) | intro _)); all_goals (first | exact trivial | (with_reducible assumption) | (show (_ : List Blk) = _; rfl) | (first | exact trivial | (with_reducible assumption) | omega | (split <;> omega) | (split <;> split <;> omega)) | skip); all_goals (try (refine ⟨rfl, (by first | exact Nat.le_refl _ | exact Nat.le_of_ble_eq_true rfl), rfl, rfl, ?_, (by repeat' (first | exact trivial | rfl | apply And.intro)), rfl, rfl⟩)))
      exact ⟨ihO (y + 1) (by omega) (by omega) [0, 1, 2, 3] _ _ ⟨rfl, rfl, rfl, (by repeat' (first | exact trivial | rfl | apply And.intro)), (by repeat' (first | exact trivial | rfl | apply And.intro)), rfl, rfl, rfl⟩⟩
  · obtain rfl : y = (p.getD 1 0).toNat := by omega
    clear ihO
    refine Goes.tree Γ_ok htb 1000 true false Try.func62 rfl ?_
    ((try simp only [decide_eq_true_eq, decide_eq_false_iff_not, Bool.not_eq_true', Bool.not_eq_false', Bool.not_true, Bool.not_false, Bool.and_eq_true, Bool.or_eq_true, bne_iff_ne, beq_iff_eq, ne_eq]); (try simp only [rng, lo, hi, mnI, mxI, Int.toNat_natCast, Sg.n, Nat.mul_one, Nat.zero_add, Nat.add_zero, Nat.reduceAdd, List.getD_cons_zero, List.getD_cons_succ]))
    ((repeat' (first | (with_reducible apply And.intro) | intro _)); all_goals (first | exact trivial | (with_reducible assumption) | (show (_ : List Blk) = _; rfl) | (first | exact trivial | (with_reducible assumption) | omega | (split <;> omega) | (split <;> split <;> omega)) | skip); all_goals (try (refine ⟨rfl, (by first | exact Nat.le_refl _ | exact Nat.le_of_ble_eq_true rfl), rfl, rfl, ?_, (by repeat' (first | exact trivial | rfl | apply And.intro)), rfl, rfl⟩)))
    all_goals (first | contradiction | exact sameA_refl _)
end Go.Proofs.Ytfelemoefhbphaa
