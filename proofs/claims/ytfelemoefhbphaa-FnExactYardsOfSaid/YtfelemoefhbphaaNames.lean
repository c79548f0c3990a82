/- The names of the cells and their numbers tell the same. -/
import Derived.Test.YtfelemoefhbphaaIdle
namespace Go.Proofs.Ytfelemoefhbphaa
open Go Go.Eng
set_option linter.unusedSimpArgs false
set_option linter.unusedVariables false
set_option maxRecDepth 100000
set_option maxHeartbeats 4000000

theorem meet_pos {now n : List Int} {st : List Int × List (List Int)} {j : Nat} (h : 0 < st.1.getD j 0) : 0 < (meet now st n).1.getD j 0 := by
  unfold meet
  split
  · rename_i hz
    dsimp only
    rw [set_get]
    split
    · rename_i hc; rw [hc.1] at hz; omega
    · exact h
  · exact h
theorem goS_pos {p now : List Int} {st : List Int × List (List Int)} {j : Nat} (h : 0 < st.1.getD j 0) : ∀ d, 0 < (goS p now st d).1.getD j 0 := by
  intro d
  induction d with
  | zero => exact h
  | succ d ih =>
    unfold goS
    split
    · exact meet_pos ih
    · exact ih
theorem stI_pos {p : List Int} {rows : List (List Int)} {j : Nat} (h : 0 < (srcD rows rows.length).getD j 0) : ∀ i, 0 < (stI p rows i).1.getD j 0 := by
  intro i
  induction i with
  | zero => exact h
  | succ i ih =>
    unfold stI
    split
    · exact goS_pos ih 4
    · exact ih
theorem bfs_self {p s : List Int} (hs : inG s) : 0 < (bfsD p [s]).getD (cx s) 0 := by
  rw [bfsD_eq]
  refine stI_pos ?_ _
  have hlt := cx_lt hs
  show 0 < ((List.replicate 100 (0:Int)).set (cx s) 1).getD (cx s) 0
  rw [set_get, if_pos ⟨rfl, by rw [List.length_replicate]; exact hlt⟩]
  decide

theorem rowF_mem {f : List Int → Bool} {acc : List (List Int)} {y x' : Nat} (hf : f [(x' : Int), (y : Int)] = true) : ∀ x, x' < x → [(x' : Int), (y : Int)] ∈ rowF f acc y x := by
  intro x
  induction x with
  | zero => intro h; omega
  | succ x ih =>
    intro h
    unfold rowF
    by_cases hx : x' = x
    · subst hx
      rw [if_pos hf]
      exact List.mem_append.2 (.inr (List.mem_singleton.2 rfl))
    · split
      · exact List.mem_append.2 (.inl (ih (by omega)))
      · exact ih (by omega)
theorem rowF_acc {f : List Int → Bool} {acc : List (List Int)} {y : Nat} {s : List Int} (h : s ∈ acc) : ∀ x, s ∈ rowF f acc y x := by
  intro x
  induction x with
  | zero => exact h
  | succ x ih =>
    unfold rowF
    split
    · exact List.mem_append.2 (.inl ih)
    · exact ih
theorem spotsF_mem {f : List Int → Bool} {w x' y' : Nat} (hf : f [(x' : Int), (y' : Int)] = true) (hx : x' < w) : ∀ y, y' < y → [(x' : Int), (y' : Int)] ∈ spotsF f w y := by
  intro y
  induction y with
  | zero => intro h; omega
  | succ y ih =>
    intro h
    unfold spotsF
    by_cases hy : y' = y
    · subst hy; exact rowF_mem hf w hx
    · exact rowF_acc (ih (by omega)) w
theorem spot_nat {p s : List Int} (hP : isP p s = true) (hl : s.length = 2) : ∃ x y : Nat, s = [(x : Int), (y : Int)] ∧ x < (p.getD 0 0).toNat ∧ y < (p.getD 1 0).toNat := by
  obtain ⟨a, b, rfl⟩ := len2 hl
  unfold isP at hP
  have := of_decide_eq_true hP
  simp only [List.getD_cons_zero, List.getD_cons_succ] at this
  refine ⟨a.toNat, b.toNat, ?_, by omega, by omega⟩
  rw [Int.toNat_of_nonneg this.1, Int.toNat_of_nonneg this.2.2.1]
theorem yard_self {p s : List Int} (hd : okD p) (hP : isP p s = true) (hl : s.length = 2) : s ∈ yardR p s := by
  have hb := bfs_self (p := p) (inG_isP hd hP)
  have hw := (bfsD_wf hd (one_isP hP)).1
  have hlt := cx_lt (inG_isP hd hP)
  have hf : inT (m1 (bfsD p [s])) s = true := by
    unfold inT
    rw [m1_get (by omega)]
    exact decide_eq_true (by omega)
  obtain ⟨x, y, rfl, hx, hy⟩ := spot_nat hP hl
  exact spotsF_mem hf hx _ hy

/-- Where there is a number, it is 1 more than the name. -/
def relTN (T : List Int) (es : List (List Int × Int)) : Prop := ∀ c, inG c → c.length = 2 → 0 < T.getD (cx c) 0 → T.getD (cx c) 0 = lkM es c + 1
theorem put_rel {T : List Int} {es : List (List Int × Int)} (hT : T.length = 100) (h : relTN T es) {n : Int} {rows : List (List Int)} (hr : cellsR rows) : ∀ i, i ≤ rows.length → relTN (putT T (n + 1) rows i) (putV es n rows i) := by
  intro i
  induction i with
  | zero => intro _; exact h
  | succ i ih =>
    intro hi c hc lc hp
    have hm := hr _ (getD_mem (d := []) (show i < rows.length by omega))
    have hlt := cx_lt hm.1
    have h1 := ih (by omega) c hc lc
    unfold putT at hp ⊢
    unfold putV
    rw [set_get, putT_len] at hp ⊢
    rw [lkM_upM]
    by_cases e : cx (rows.getD i []) = cx c
    · have e2 := cx_inj hc hm.1 lc hm.2 e.symm
      rw [if_pos e2, if_pos ⟨e, by omega⟩]
    · rw [if_neg (fun h => e h.1)] at hp ⊢
      rw [if_neg (fun e2 => e (by rw [← e2]))]
      exact h1 hp
theorem putT_pos {T : List Int} {v : Int} (hv : 0 < v) {rows : List (List Int)} {j : Nat} (h : 0 < T.getD j 0) : ∀ i, 0 < (putT T v rows i).getD j 0 := by
  intro i
  induction i with
  | zero => exact h
  | succ i ih =>
    unfold putT
    rw [set_get]
    split
    · exact hv
    · exact ih
theorem putT_hit {T : List Int} (hT : T.length = 100) {v : Int} (hv : 0 < v) {rows : List (List Int)} (hr : cellsR rows) {k : Nat} : ∀ i, k < i → i ≤ rows.length → 0 < (putT T v rows i).getD (cx (rows.getD k [])) 0 := by
  intro i
  induction i with
  | zero => intro h; omega
  | succ i ih =>
    intro h1 h2
    unfold putT
    rw [set_get, putT_len]
    split
    · exact hv
    · rename_i hc
      by_cases hk : k = i
      · subst hk
        have := cx_lt (hr _ (getD_mem (d := []) (show k < rows.length by omega))).1
        exact absurd ⟨rfl, by omega⟩ hc
      · exact ih (by omega) (by omega)
theorem nmK_app (Ys : List (List (List Int))) (Y : List (List Int)) : ∀ i, i ≤ Ys.length → nmK (Ys ++ [Y]) i = nmK Ys i := by
  intro i
  induction i with
  | zero => intro _; rfl
  | succ i ih =>
    intro h
    simp only [nmK]
    rw [ih (by omega), List.getD_eq_getElem?_getD, List.getElem?_append_left (by omega), ← List.getD_eq_getElem?_getD]
theorem nmK_snoc (Ys : List (List (List Int))) (Y : List (List Int)) : nmK (Ys ++ [Y]) (Ys ++ [Y]).length = putV (nmK Ys Ys.length) Ys.length Y Y.length := by
  rw [List.length_append, List.length_cons, List.length_nil, Nat.zero_add]
  simp only [nmK]
  rw [nmK_app _ _ _ (Nat.le_refl _)]
  have e : (Ys ++ [Y]).getD Ys.length [] = Y := by rw [List.getD_eq_getElem?_getD, List.getElem?_append_right (Nat.le_refl _), Nat.sub_self]; rfl
  rw [e]

def namS (S : YS) : Prop := S.1.length = 100 ∧ relTN S.1 (nmK S.2.1 S.2.1.length)
theorem namS_step {p : List Int} (hd : okD p) {S : YS} (h : namS S) (c : List Int) : namS (ySt p S c) := by
  unfold ySt
  split
  · exact h
  · refine ⟨by rw [putT_len]; exact h.1, ?_⟩
    dsimp only
    rw [nmK_snoc]
    have := put_rel h.1 h.2 (n := (S.2.1.length : Int)) (yardR_cells (s := c) hd) _ (Nat.le_refl _)
    have e : (((S.2.1 ++ [yardR p c]).length : Nat) : Int) = (S.2.1.length : Int) + 1 := by simp
    rw [e]
    exact this
theorem ySt_pos {p : List Int} {S : YS} {j : Nat} (h : 0 < S.1.getD j 0) (c : List Int) : 0 < (ySt p S c).1.getD j 0 := by
  unfold ySt
  split
  · exact h
  · exact putT_pos (by simp) h _
theorem ySt_hit {p : List Int} (hd : okD p) {S : YS} (hS : S.1.length = 100) {c : List Int} (hP : isP p c = true) (hl : c.length = 2) : 0 < (ySt p S c).1.getD (cx c) 0 := by
  unfold ySt
  split
  · assumption
  · obtain ⟨k, hk, e⟩ := List.mem_iff_getElem.1 (yard_self hd hP hl)
    have := putT_hit hS (v := (((S.2.1 ++ [yardR p c]).length : Nat) : Int)) (by simp) (yardR_cells (s := c) hd) _ hk (Nat.le_refl _)
    have e2 : (yardR p c).getD k [] = c := by rw [List.getD_eq_getElem?_getD, List.getElem?_eq_getElem hk]; exact e
    rw [e2] at this
    exact this
theorem yF_nam {p : List Int} (hd : okD p) (l : List (List Int)) : ∀ S, namS S → namS (l.foldl (ySt p) S) := by
  induction l with
  | nil => intro S h; exact h
  | cons c l ih => intro S h; exact ih _ (namS_step hd h c)
theorem yF_pos {p : List Int} {j : Nat} (l : List (List Int)) : ∀ S : YS, 0 < S.1.getD j 0 → 0 < (l.foldl (ySt p) S).1.getD j 0 := by
  induction l with
  | nil => intro S h; exact h
  | cons c l ih => intro S h; exact ih _ (ySt_pos h c)
theorem yF_hit {p : List Int} (hd : okD p) {c : List Int} (hP : isP p c = true) (hl : c.length = 2) (l : List (List Int)) : ∀ S : YS, namS S → c ∈ l → 0 < (l.foldl (ySt p) S).1.getD (cx c) 0 := by
  induction l with
  | nil => intro S _ h; cases h
  | cons s l ih =>
    intro S hS h
    rcases List.mem_cons.1 h with rfl | h
    · exact yF_pos l _ (ySt_hit hd hS.1 hP hl)
    · exact ih _ (namS_step hd hS s) h
theorem spots_mem {p c : List Int} (hP : isP p c = true) (hl : c.length = 2) : c ∈ spots p := by
  obtain ⟨x, y, rfl, hx, hy⟩ := spot_nat hP hl
  unfold spots
  exact mem_spotsY.2 ⟨y, x, hy, hx, rfl⟩
theorem name_num {p c : List Int} (hd : okD p) (hP : isP p c = true) (hl : c.length = 2) : (yT p (spots p)).getD (cx c) 0 = lkM (namesP p) c + 1 := by
  have h0 : namS (List.replicate 100 0, [], []) := ⟨by simp, fun c _ _ h => by
    have : (List.replicate 100 (0:Int)).getD (cx c) 0 = 0 := by
      rw [List.getD_eq_getElem?_getD, List.getElem?_replicate]; split <;> rfl
    dsimp only at h
    omega⟩
  exact (yF_nam hd (spots p) _ h0).2 c (inG_isP hd hP) hl (yF_hit hd hP hl (spots p) _ h0 (spots_mem hP hl))
end Go.Proofs.Ytfelemoefhbphaa
