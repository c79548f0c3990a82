/- Idle hurdles: those on whose two sides the same yard lies; taken out of a list. -/
import Derived.Test.YtjbgjgkogmlpfaaGreatHurOf
import Derived.Test.YtjbgjgkogmlpfaaGreatWay0
import Derived.Test.YtjbgjgkogmlpfaaGreatBeside
namespace Go.Proofs.YtjbgjgkogmlpfaaGreat
open Go Go.Eng
set_option linter.unusedSimpArgs false
set_option linter.unusedVariables false
set_option maxRecDepth 100000
set_option maxHeartbeats 4000000

/-- The cell beyond a hurdle. -/
def othC (h : List Int) : List Int := ahead [h.getD 0 0, h.getD 1 0] (if h.getD 2 0 = 0 then 1 else 2)
/-- Do the two cells of a hurdle bear different names? -/
def delH (es : List (List Int × Int)) (h : List Int) : Bool := !decide (lkM es [h.getD 0 0, h.getD 1 0] = lkM es (othC h))
def delS : Fun
  | [.ag .hur h, .pw 0 .ref], [.r [.mp 1], .m .spot (.int .i64) es] => some (.b (delH es h), [.r [.mp 1], .m .spot (.int .i64) es], [near h])
  | _, _ => .none


/-! What is left behind the deletion. -/
def leftH (es : List (List Int × Int)) (rows : List (List Int)) : List (List Int) := rows.filter fun h => !delH es h
def dK (es : List (List Int × Int)) (rows : List (List Int)) (i0 : Nat) : Nat → List (List Int) × Nat
  | 0 => (rows, i0)
  | k + 1 => if delH es ((dK es rows i0 k).1.getD (i0 + 1 + k) []) = true then dK es rows i0 k else ((dK es rows i0 k).1.set (dK es rows i0 k).2 ((dK es rows i0 k).1.getD (i0 + 1 + k) []), (dK es rows i0 k).2 + 1)

theorem filter_snoc (es : List (List Int × Int)) (l : List (List Int)) (h : List Int) : leftH es (l ++ [h]) = leftH es l ++ if delH es h = true then [] else [h] := by
  unfold leftH
  rw [List.filter_append]
  congr 1
  cases hh : delH es h <;> simp [hh]
theorem take_snoc {α : Type} (l : List α) (d : α) {i : Nat} (h : i < l.length) : l.take (i + 1) = l.take i ++ [l.getD i d] := by
  rw [List.take_add_one, List.getElem?_eq_getElem h, List.getD_eq_getElem?_getD, List.getElem?_eq_getElem h]; rfl

theorem dK_ok {es : List (List Int × Int)} {rows : List (List Int)} {i0 : Nat} (h0 : i0 < rows.length) (hd : delH es (rows.getD i0 []) = true) (hno : ∀ j, j < i0 → delH es (rows.getD j []) = false) : ∀ k, i0 + 1 + k ≤ rows.length →
    (dK es rows i0 k).1.length = rows.length ∧ (dK es rows i0 k).2 ≤ i0 + k ∧ (∀ m, i0 + 1 + k ≤ m → (dK es rows i0 k).1.getD m [] = rows.getD m []) ∧ (dK es rows i0 k).1.take (dK es rows i0 k).2 = leftH es (rows.take (i0 + 1 + k)) ∧ ∀ r ∈ (dK es rows i0 k).1, r ∈ rows := by
  intro k
  induction k with
  | zero =>
    intro hk
    refine ⟨rfl, Nat.le_refl _, fun _ _ => rfl, ?_, fun r hr => hr⟩
    show rows.take i0 = leftH es (rows.take (i0 + 1 + 0))
    rw [Nat.add_zero, take_snoc rows [] h0, filter_snoc, if_pos hd, List.append_nil]
    have : ∀ n, n ≤ i0 → leftH es (rows.take n) = rows.take n := by
      intro n
      induction n with
      | zero => intro _; rfl
      | succ n ih =>
        intro hn
        rw [take_snoc rows [] (by omega), filter_snoc, ih (by omega), if_neg (by rw [hno n (by omega)]; decide)]
    exact (this i0 (Nat.le_refl _)).symm
  | succ k ih =>
    intro hk
    obtain ⟨a1, a2, a3, a4, a5⟩ := ih (by omega)
    have e1 : (dK es rows i0 k).1.getD (i0 + 1 + k) [] = rows.getD (i0 + 1 + k) [] := a3 _ (Nat.le_refl _)
    have e2 : rows.take (i0 + 1 + (k + 1)) = rows.take (i0 + 1 + k) ++ [rows.getD (i0 + 1 + k) []] := take_snoc (i := i0 + 1 + k) rows [] (by omega)
    rw [e2, filter_snoc]
    unfold dK
    rw [e1]
    split
    · exact ⟨a1, by omega, fun m hm => a3 m (by omega), by rw [List.append_nil]; exact a4, a5⟩
    · refine ⟨by rw [List.length_set]; exact a1, by dsimp only; omega, fun m hm => ?_, ?_, fun r hr => ?_⟩
      · rw [List.getD_eq_getElem?_getD, List.getElem?_set, if_neg (by omega), ← List.getD_eq_getElem?_getD]
        exact a3 m (by omega)
      · dsimp only
        rw [← a4, take_snoc _ [] (by rw [List.length_set, a1]; omega), List.take_set_of_le (Nat.le_refl _)]
        congr 2
        rw [List.getD_eq_getElem?_getD, List.getElem?_set_self (by rw [a1]; omega)]; rfl
      · rcases List.mem_or_eq_of_mem_set hr with hr | rfl
        · exact a5 r hr
        · exact getD_mem (by omega)


end Go.Proofs.YtjbgjgkogmlpfaaGreat

namespace Go.Proofs.YtjbgjgkogmlpfaaGreat
open Go Go.Eng
set_option linter.unusedSimpArgs false
set_option linter.unusedVariables false
set_option maxRecDepth 100000
set_option maxHeartbeats 4000000

/-- The cells of a yard are named. -/
def putV (es : List (List Int × Int)) (v : Int) (rows : List (List Int)) : Nat → List (List Int × Int)
  | 0 => es
  | i + 1 => upM (putV es v rows i) (rows.getD i []) v
def nmK (Ys : List (List (List Int))) : Nat → List (List Int × Int)
  | 0 => []
  | i + 1 => putV (nmK Ys i) i (Ys.getD i []) (Ys.getD i []).length
noncomputable def namesP (p : List Int) : List (List Int × Int) := nmK (yL p (spots p)) (yL p (spots p)).length
noncomputable def idleL (p : List Int) : List (List Int) := leftH (namesP p) (hurRows p)

noncomputable def idleS : Fun
  | [.ag .pas p], [] => some (.fs .hur (idleL p), [], [okD p])
  | _, _ => .none
theorem hurRows_near {p : List Int} (hd : okD p) : ∀ r ∈ hurRows p, near r := by
  intro r hr
  have h1 := (sidK_mem _ r hr).1
  unfold stF hurP at h1
  simp only [Bool.and_eq_true] at h1
  have h2 := near_of hd h1.1.1
  unfold near at *
  simpa using h2

def sizeIHS : Fun
  | [.fs .hur rows], [] => some (.i .i64 rows.length, [], [])
  | _, _ => .none
noncomputable def idlS : Fun
  | [.ag .pas p], [] => some (.t2 (.i .i64 (if okP p then ((idleL p).length : Nat) else 0)) (.i .i64 (if okP p then 0 else 1)), [], [])
  | _, _ => .none
end Go.Proofs.YtjbgjgkogmlpfaaGreat

namespace Go.Proofs.YtjbgjgkogmlpfaaGreat
open Go Go.Eng
set_option linter.unusedSimpArgs false
set_option linter.unusedVariables false
set_option maxRecDepth 100000
set_option maxHeartbeats 4000000

theorem meet_pos {now n : List Int} {st : List Int × List (List Int)} {j : Nat} (h : 0 < st.1.getD j 0) : 0 < (meet now st n).1.getD j 0 := by
  unfold meet
  split
  · rename_i hz
    dsimp only
    rw [set_get]
    split
    · rename_i hc; rw [hc.1] at hz; omega
    · exact h
  · exact h
theorem goS_pos {p now : List Int} {st : List Int × List (List Int)} {j : Nat} (h : 0 < st.1.getD j 0) : ∀ d, 0 < (goS p now st d).1.getD j 0 := by
  intro d
  induction d with
  | zero => exact h
  | succ d ih =>
    unfold goS
    split
    · exact meet_pos ih
    · exact ih
theorem stI_pos {p : List Int} {rows : List (List Int)} {j : Nat} (h : 0 < (srcD rows rows.length).getD j 0) : ∀ i, 0 < (stI p rows i).1.getD j 0 := by
  intro i
  induction i with
  | zero => exact h
  | succ i ih =>
    unfold stI
    split
    · exact goS_pos ih 4
    · exact ih
theorem bfs_self {p s : List Int} (hs : inG s) : 0 < (bfsD p [s]).getD (cx s) 0 := by
  rw [bfsD_eq]
  refine stI_pos ?_ _
  have hlt := cx_lt hs
  show 0 < ((List.replicate 100 (0:Int)).set (cx s) 1).getD (cx s) 0
  rw [set_get, if_pos ⟨rfl, by rw [List.length_replicate]; exact hlt⟩]
  decide

theorem rowF_mem {f : List Int → Bool} {acc : List (List Int)} {y x' : Nat} (hf : f [(x' : Int), (y : Int)] = true) : ∀ x, x' < x → [(x' : Int), (y : Int)] ∈ rowF f acc y x := by
  intro x
  induction x with
  | zero => intro h; omega
  | succ x ih =>
    intro h
    unfold rowF
    by_cases hx : x' = x
    · subst hx
      rw [if_pos hf]
      exact List.mem_append.2 (.inr (List.mem_singleton.2 rfl))
    · split
      · exact List.mem_append.2 (.inl (ih (by omega)))
      · exact ih (by omega)
theorem rowF_acc {f : List Int → Bool} {acc : List (List Int)} {y : Nat} {s : List Int} (h : s ∈ acc) : ∀ x, s ∈ rowF f acc y x := by
  intro x
  induction x with
  | zero => exact h
  | succ x ih =>
    unfold rowF
    split
    · exact List.mem_append.2 (.inl ih)
    · exact ih
theorem spotsF_mem {f : List Int → Bool} {w x' y' : Nat} (hf : f [(x' : Int), (y' : Int)] = true) (hx : x' < w) : ∀ y, y' < y → [(x' : Int), (y' : Int)] ∈ spotsF f w y := by
  intro y
  induction y with
  | zero => intro h; omega
  | succ y ih =>
    intro h
    unfold spotsF
    by_cases hy : y' = y
    · subst hy; exact rowF_mem hf w hx
    · exact rowF_acc (ih (by omega)) w
theorem spot_nat {p s : List Int} (hP : isP p s = true) (hl : s.length = 2) : ∃ x y : Nat, s = [(x : Int), (y : Int)] ∧ x < (p.getD 0 0).toNat ∧ y < (p.getD 1 0).toNat := by
  obtain ⟨a, b, rfl⟩ := len2 hl
  unfold isP at hP
  have := of_decide_eq_true hP
  simp only [List.getD_cons_zero, List.getD_cons_succ] at this
  refine ⟨a.toNat, b.toNat, ?_, by omega, by omega⟩
  rw [Int.toNat_of_nonneg this.1, Int.toNat_of_nonneg this.2.2.1]
theorem yard_self {p s : List Int} (hd : okD p) (hP : isP p s = true) (hl : s.length = 2) : s ∈ yardR p s := by
  have hb := bfs_self (p := p) (inG_isP hd hP)
  have hw := (bfsD_wf hd (one_isP hP)).1
  have hlt := cx_lt (inG_isP hd hP)
  have hf : inT (m1 (bfsD p [s])) s = true := by
    unfold inT
    rw [m1_get (by omega)]
    exact decide_eq_true (by omega)
  obtain ⟨x, y, rfl, hx, hy⟩ := spot_nat hP hl
  exact spotsF_mem hf hx _ hy

/-- Where there is a number, it is 1 more than the name. -/
def relTN (T : List Int) (es : List (List Int × Int)) : Prop := ∀ c, inG c → c.length = 2 → 0 < T.getD (cx c) 0 → T.getD (cx c) 0 = lkM es c + 1
theorem put_rel {T : List Int} {es : List (List Int × Int)} (hT : T.length = 100) (h : relTN T es) {n : Int} {rows : List (List Int)} (hr : cellsR rows) : ∀ i, i ≤ rows.length → relTN (putT T (n + 1) rows i) (putV es n rows i) := by
  intro i
  induction i with
  | zero => intro _; exact h
  | succ i ih =>
    intro hi c hc lc hp
    have hm := hr _ (getD_mem (d := []) (show i < rows.length by omega))
    have hlt := cx_lt hm.1
    have h1 := ih (by omega) c hc lc
    unfold putT at hp ⊢
    unfold putV
    rw [set_get, putT_len] at hp ⊢
    rw [lkM_upM]
    by_cases e : cx (rows.getD i []) = cx c
    · have e2 := cx_inj hc hm.1 lc hm.2 e.symm
      rw [if_pos e2, if_pos ⟨e, by omega⟩]
    · rw [if_neg (fun h => e h.1)] at hp ⊢
      rw [if_neg (fun e2 => e (by rw [← e2]))]
      exact h1 hp
theorem putT_pos {T : List Int} {v : Int} (hv : 0 < v) {rows : List (List Int)} {j : Nat} (h : 0 < T.getD j 0) : ∀ i, 0 < (putT T v rows i).getD j 0 := by
  intro i
  induction i with
  | zero => exact h
  | succ i ih =>
    unfold putT
    rw [set_get]
    split
    · exact hv
    · exact ih
theorem putT_hit {T : List Int} (hT : T.length = 100) {v : Int} (hv : 0 < v) {rows : List (List Int)} (hr : cellsR rows) {k : Nat} : ∀ i, k < i → i ≤ rows.length → 0 < (putT T v rows i).getD (cx (rows.getD k [])) 0 := by
  intro i
  induction i with
  | zero => intro h; omega
  | succ i ih =>
    intro h1 h2
    unfold putT
    rw [set_get, putT_len]
    split
    · exact hv
    · rename_i hc
      by_cases hk : k = i
      · subst hk
        have := cx_lt (hr _ (getD_mem (d := []) (show k < rows.length by omega))).1
        exact absurd ⟨rfl, by omega⟩ hc
      · exact ih (by omega) (by omega)
theorem nmK_app (Ys : List (List (List Int))) (Y : List (List Int)) : ∀ i, i ≤ Ys.length → nmK (Ys ++ [Y]) i = nmK Ys i := by
  intro i
  induction i with
  | zero => intro _; rfl
  | succ i ih =>
    intro h
    simp only [nmK]
    rw [ih (by omega), List.getD_eq_getElem?_getD, List.getElem?_append_left (by omega), ← List.getD_eq_getElem?_getD]
theorem nmK_snoc (Ys : List (List (List Int))) (Y : List (List Int)) : nmK (Ys ++ [Y]) (Ys ++ [Y]).length = putV (nmK Ys Ys.length) Ys.length Y Y.length := by
  rw [List.length_append, List.length_cons, List.length_nil, Nat.zero_add]
  simp only [nmK]
  rw [nmK_app _ _ _ (Nat.le_refl _)]
  have e : (Ys ++ [Y]).getD Ys.length [] = Y := by rw [List.getD_eq_getElem?_getD, List.getElem?_append_right (Nat.le_refl _), Nat.sub_self]; rfl
  rw [e]

def namS (S : YS) : Prop := S.1.length = 100 ∧ relTN S.1 (nmK S.2.1 S.2.1.length)
theorem namS_step {p : List Int} (hd : okD p) {S : YS} (h : namS S) (c : List Int) : namS (ySt p S c) := by
  unfold ySt
  split
  · exact h
  · refine ⟨by rw [putT_len]; exact h.1, ?_⟩
    dsimp only
    rw [nmK_snoc]
    have := put_rel h.1 h.2 (n := (S.2.1.length : Int)) (yardR_cells (s := c) hd) _ (Nat.le_refl _)
    have e : (((S.2.1 ++ [yardR p c]).length : Nat) : Int) = (S.2.1.length : Int) + 1 := by simp
    rw [e]
    exact this
theorem ySt_pos {p : List Int} {S : YS} {j : Nat} (h : 0 < S.1.getD j 0) (c : List Int) : 0 < (ySt p S c).1.getD j 0 := by
  unfold ySt
  split
  · exact h
  · exact putT_pos (by simp) h _
theorem ySt_hit {p : List Int} (hd : okD p) {S : YS} (hS : S.1.length = 100) {c : List Int} (hP : isP p c = true) (hl : c.length = 2) : 0 < (ySt p S c).1.getD (cx c) 0 := by
  unfold ySt
  split
  · assumption
  · obtain ⟨k, hk, e⟩ := List.mem_iff_getElem.1 (yard_self hd hP hl)
    have := putT_hit hS (v := (((S.2.1 ++ [yardR p c]).length : Nat) : Int)) (by simp) (yardR_cells (s := c) hd) _ hk (Nat.le_refl _)
    have e2 : (yardR p c).getD k [] = c := by rw [List.getD_eq_getElem?_getD, List.getElem?_eq_getElem hk]; exact e
    rw [e2] at this
    exact this
theorem yF_nam {p : List Int} (hd : okD p) (l : List (List Int)) : ∀ S, namS S → namS (l.foldl (ySt p) S) := by
  induction l with
  | nil => intro S h; exact h
  | cons c l ih => intro S h; exact ih _ (namS_step hd h c)
theorem yF_pos {p : List Int} {j : Nat} (l : List (List Int)) : ∀ S : YS, 0 < S.1.getD j 0 → 0 < (l.foldl (ySt p) S).1.getD j 0 := by
  induction l with
  | nil => intro S h; exact h
  | cons c l ih => intro S h; exact ih _ (ySt_pos h c)
theorem yF_hit {p : List Int} (hd : okD p) {c : List Int} (hP : isP p c = true) (hl : c.length = 2) (l : List (List Int)) : ∀ S : YS, namS S → c ∈ l → 0 < (l.foldl (ySt p) S).1.getD (cx c) 0 := by
  induction l with
  | nil => intro S _ h; cases h
  | cons s l ih =>
    intro S hS h
    rcases List.mem_cons.1 h with rfl | h
    · exact yF_pos l _ (ySt_hit hd hS.1 hP hl)
    · exact ih _ (namS_step hd hS s) h
theorem spots_mem {p c : List Int} (hP : isP p c = true) (hl : c.length = 2) : c ∈ spots p := by
  obtain ⟨x, y, rfl, hx, hy⟩ := spot_nat hP hl
  unfold spots
  exact mem_spotsY.2 ⟨y, x, hy, hx, rfl⟩
theorem name_num {p c : List Int} (hd : okD p) (hP : isP p c = true) (hl : c.length = 2) : (yT p (spots p)).getD (cx c) 0 = lkM (namesP p) c + 1 := by
  have h0 : namS (List.replicate 100 0, [], []) := ⟨by simp, fun c _ _ h => by
    have : (List.replicate 100 (0:Int)).getD (cx c) 0 = 0 := by
      rw [List.getD_eq_getElem?_getD, List.getElem?_replicate]; split <;> rfl
    dsimp only at h
    omega⟩
  exact (yF_nam hd (spots p) _ h0).2 c (inG_isP hd hP) hl (yF_hit hd hP hl (spots p) _ h0 (spots_mem hP hl))
end Go.Proofs.YtjbgjgkogmlpfaaGreat

namespace Go.Proofs.YtjbgjgkogmlpfaaGreat
open Go Go.Eng
set_option linter.unusedSimpArgs false
set_option linter.unusedVariables false
set_option maxRecDepth 100000
set_option maxHeartbeats 4000000

theorem meet_pre (now : List Int) (st : List Int × List (List Int)) (n : List Int) : ∃ r, (meet now st n).2 = st.2 ++ r := by
  unfold meet
  split
  · exact ⟨_, rfl⟩
  · exact ⟨[], (List.append_nil _).symm⟩
theorem goS_pre (p now : List Int) (st : List Int × List (List Int)) : ∀ d, ∃ r, (goS p now st d).2 = st.2 ++ r := by
  intro d
  induction d with
  | zero => exact ⟨[], (List.append_nil _).symm⟩
  | succ d ih =>
    obtain ⟨r, e⟩ := ih
    unfold goS
    split
    · obtain ⟨r2, e2⟩ := meet_pre now (goS p now st d) (ahead now d)
      exact ⟨r ++ r2, by rw [e2, e, List.append_assoc]⟩
    · exact ⟨r, e⟩
theorem meet_hit {p now n : List Int} {k : Nat} {st : List Int × List (List Int)} (hd : okD p) (hw : WF p k st) (hn : isP p n = true) (hpos : 0 < st.1.getD (cx now) 0) : 0 < (meet now st n).1.getD (cx n) 0 := by
  have hlt := cx_lt (inG_of' hd hn)
  have hr := hw.rng (cx n)
  unfold meet
  split
  · dsimp only
    rw [set_get, if_pos ⟨rfl, by rw [hw.len]; exact hlt⟩]; omega
  · omega
theorem goS_hit {p now : List Int} {k : Nat} {st : List Int × List (List Int)} (hd : okD p) (hw : WF p k st) (hpos : 0 < st.1.getD (cx now) 0) : ∀ d, d ≤ 4 → WF p k (goS p now st d) ∧ 0 < (goS p now st d).1.getD (cx now) 0 ∧ ∀ e : Nat, e < d → canGo p now (e : Int) = true → 0 < (goS p now st d).1.getD (cx (ahead now (e : Int))) 0 := by
  intro d
  induction d with
  | zero => intro _; exact ⟨hw, hpos, fun e he => by omega⟩
  | succ d ih =>
    intro h4
    obtain ⟨i1, i2, i3⟩ := ih (by omega)
    unfold goS
    split
    · rename_i hg
      have hn : isP p (ahead now (d : Int)) = true := by unfold canGo at hg; rw [Bool.and_eq_true] at hg; exact hg.1
      refine ⟨i1.meet hd hn, meet_pos i2, fun e he hc => ?_⟩
      by_cases hed : e = d
      · subst hed; exact meet_hit hd i1 hn i2
      · exact meet_pos (i3 e (by omega) hc)
    · rename_i hg
      refine ⟨i1, i2, fun e he hc => ?_⟩
      by_cases hed : e = d
      · subst hed; exact absurd hc hg
      · exact i3 e (by omega) hc

/-- What was worked off has all its neighbours numbered; what is numbered stands in the queue. -/
def okQ (p : List Int) (i : Nat) (st : List Int × List (List Int)) : Prop := (∀ k, k < i → k < st.2.length → ∀ e : Nat, e < 4 → canGo p (st.2.getD k []) (e : Int) = true → 0 < st.1.getD (cx (ahead (st.2.getD k []) (e : Int))) 0)
def inQ (st : List Int × List (List Int)) : Prop := ∀ n, inG n → n.length = 2 → 0 < st.1.getD (cx n) 0 → n ∈ st.2
theorem meet_inQ {p now n : List Int} {st : List Int × List (List Int)} (hd : okD p) (h : inQ st) (hn : isP p n = true) (hl : n.length = 2) : inQ (meet now st n) := by
  intro m hm hml hmp
  unfold meet at hmp ⊢
  split
  · rename_i hz
    rw [if_pos hz] at hmp
    dsimp only at hmp ⊢
    by_cases e : cx n = cx m
    · rw [cx_inj hm (inG_of' hd hn) hml hl e.symm]
      exact List.mem_append.2 (.inr (List.mem_singleton.2 rfl))
    · rw [set_get, if_neg (fun h => e h.1)] at hmp
      exact List.mem_append.2 (.inl (h m hm hml hmp))
  · rename_i hz
    rw [if_neg hz] at hmp
    exact h m hm hml hmp
theorem goS_inQ {p now : List Int} {st : List Int × List (List Int)} (hd : okD p) (h : inQ st) : ∀ d, inQ (goS p now st d) := by
  intro d
  induction d with
  | zero => exact h
  | succ d ih =>
    unfold goS
    split
    · rename_i hg
      have hn : isP p (ahead now (d : Int)) = true := by unfold canGo at hg; rw [Bool.and_eq_true] at hg; exact hg.1
      exact meet_inQ hd ih hn (ahead_len _ _)
    · exact ih
theorem stI_all {p b : List Int} (hd : okD p) (hb : isP p b = true) (hbl : b.length = 2) : ∀ i, okQ p i (stI p [b] i) ∧ inQ (stI p [b] i) := by
  intro i
  induction i with
  | zero =>
    refine ⟨fun k hk => by omega, fun n hn hnl hnp => ?_⟩
    have h := (stI_okSt hd hb hbl 0).2 n hn hnl hnp
    have e : (stI p [b] 0).1 = (List.replicate 100 (0:Int)).set (cx b) 1 := rfl
    rw [e, set_get, List.length_replicate] at hnp
    split at hnp
    · rename_i hc
      rw [cx_inj hn (inG_of' hd hb) hnl hbl hc.1.symm]
      exact List.mem_singleton.2 rfl
    · rw [List.getD_eq_getElem?_getD, List.getElem?_replicate] at hnp
      split at hnp <;> (simp only [Option.getD_some, Option.getD_none] at hnp; omega)
  | succ i ih =>
    obtain ⟨h1, h2⟩ := ih
    have hw := WF.stI hd (one_isP hb) i
    unfold stI
    split
    · rename_i hi
      have hm : (stI p [b] i).2.getD i [] ∈ (stI p [b] i).2 := getD_mem hi
      obtain ⟨g1, g2, g3⟩ := goS_hit hd hw (hw.pos _ hm) 4 (Nat.le_refl _)
      obtain ⟨r, er⟩ := goS_pre p ((stI p [b] i).2.getD i []) (stI p [b] i) 4
      refine ⟨fun k hk hkl e he hc => ?_, goS_inQ hd h2 4⟩
      have eq : k < (stI p [b] i).2.length → (goS p ((stI p [b] i).2.getD i []) (stI p [b] i) 4).2.getD k [] = (stI p [b] i).2.getD k [] := fun h => by
        rw [er, List.getD_eq_getElem?_getD, List.getElem?_append_left h, ← List.getD_eq_getElem?_getD]
      by_cases hki : k = i
      · subst hki
        rw [eq hi] at hc ⊢
        exact g3 e he hc
      · have hkl' : k < (stI p [b] i).2.length := by omega
        rw [eq hkl'] at hc ⊢
        exact goS_pos (h1 k (by omega) hkl' e he hc) 4
    · rename_i hi
      refine ⟨fun k hk hkl e he hc => h1 k (by omega) hkl e he hc, h2⟩
theorem bfs_closed {p b n : List Int} (hd : okD p) (hb : isP p b = true) (hbl : b.length = 2) (hn : isP p n = true) (hl : n.length = 2) (hpos : 0 < (bfsD p [b]).getD (cx n) 0) {e : Nat} (he : e < 4) (hc : canGo p n (e : Int) = true) : 0 < (bfsD p [b]).getD (cx (ahead n (e : Int))) 0 := by
  obtain ⟨h1, h2⟩ := stI_all hd hb hbl ([b].length + 101)
  have hw := (WF.stI hd (one_isP hb) ([b].length + 101)).le
  rw [bfsD_eq] at hpos ⊢
  obtain ⟨k, hk, ek⟩ := List.mem_iff_getElem.1 (h2 n (inG_of' hd hn) hl hpos)
  have e2 : (stI p [b] ([b].length + 101)).2.getD k [] = n := by rw [List.getD_eq_getElem?_getD, List.getElem?_eq_getElem hk]; exact ek
  have := h1 k (by omega) hk e he (by rw [e2]; exact hc)
  rw [e2] at this
  exact this
theorem besN_go {p s c : List Int} : ∀ d, c ∈ besN p s d → ∃ e : Nat, e < d ∧ canGo p s (e : Int) = true ∧ c = ahead s (e : Int) := by
  intro d
  induction d with
  | zero => intro h; cases h
  | succ d ih =>
    intro h
    unfold besN at h
    split at h
    · rename_i hg
      rcases List.mem_append.1 h with h | h
      · obtain ⟨e, h1, h2, h3⟩ := ih h
        exact ⟨e, by omega, h2, h3⟩
      · exact ⟨d, by omega, hg, List.mem_singleton.1 h⟩
    · obtain ⟨e, h1, h2, h3⟩ := ih h
      exact ⟨e, by omega, h2, h3⟩
theorem bfs_sym {p a b : List Int} (hd : okD p) (ha : isP p a = true) (hal : a.length = 2) (hb : isP p b = true) (hbl : b.length = 2) (h : 0 < (bfsD p [a]).getD (cx b) 0) : 0 < (bfsD p [b]).getD (cx a) 0 := by
  have key : ∀ (k : Nat) (n : List Int), isP p n = true → n.length = 2 → 0 < (bfsD p [a]).getD (cx n) 0 → (bfsD p [a]).getD (cx n) 0 ≤ k → 0 < (bfsD p [b]).getD (cx n) 0 → 0 < (bfsD p [b]).getD (cx a) 0 := by
    intro k
    induction k with
    | zero => intro n _ _ h1 h2; omega
    | succ k ih =>
      intro n hn hl h1 h2 h3
      rcases bfs_prev hd ha hal hn hl h1 with ⟨rfl, -⟩ | ⟨c, hc, c1, c2, c3, c4⟩
      · exact h3
      · obtain ⟨e, e1, e2, e3⟩ := besN_go 4 hc
        subst e3
        exact ih _ c1 c2 c3 (by omega) (bfs_closed hd hb hbl hn hl h3 e1 e2)
  exact key ((bfsD p [a]).getD (cx b) 0).toNat b hb hbl h (by omega) (bfs_self (inG_isP hd hb))
end Go.Proofs.YtjbgjgkogmlpfaaGreat

namespace Go.Proofs.YtjbgjgkogmlpfaaGreat
open Go Go.Eng
set_option linter.unusedSimpArgs false
set_option linter.unusedVariables false
set_option maxRecDepth 100000
set_option maxHeartbeats 4000000

/-- Is a cell not one nearer than another? -/
def delW (T s c : List Int) : Bool := !decide (T.getD (cx c) 0 = T.getD (cx s) 0 - 1)
structure okT (T : List Int) : Prop where
  rg : ∀ j, -1 ≤ T.getD j 0 ∧ T.getD j 0 ≤ 100
def delWS : Fun
  | [.ag .spot c, .pw 0 .ref, .pw 1 .spot], [.r [.pw 2 .grid], .c .spot s, .c .grid T] => some (.b (delW T s c), [.r [.pw 2 .grid], .c .spot s, .c .grid T], [inG c ∧ inG s ∧ okT T])
  | _, _ => .none


/-! What is left behind the deletion. -/
def leftW (T s : List Int) (rows : List (List Int)) : List (List Int) := rows.filter fun h => !delW T s h
def dKW (T s : List Int) (rows : List (List Int)) (i0 : Nat) : Nat → List (List Int) × Nat
  | 0 => (rows, i0)
  | k + 1 => if delW T s ((dKW T s rows i0 k).1.getD (i0 + 1 + k) []) = true then dKW T s rows i0 k else ((dKW T s rows i0 k).1.set (dKW T s rows i0 k).2 ((dKW T s rows i0 k).1.getD (i0 + 1 + k) []), (dKW T s rows i0 k).2 + 1)

theorem filterW_snoc (T s : List Int) (l : List (List Int)) (h : List Int) : leftW T s (l ++ [h]) = leftW T s l ++ if delW T s h = true then [] else [h] := by
  unfold leftW
  rw [List.filter_append]
  congr 1
  cases hh : delW T s h <;> simp [hh]
theorem take_snocW {α : Type} (l : List α) (d : α) {i : Nat} (h : i < l.length) : l.take (i + 1) = l.take i ++ [l.getD i d] := by
  rw [List.take_add_one, List.getElem?_eq_getElem h, List.getD_eq_getElem?_getD, List.getElem?_eq_getElem h]; rfl

theorem dKW_ok {T s : List Int} {rows : List (List Int)} {i0 : Nat} (h0 : i0 < rows.length) (hd : delW T s (rows.getD i0 []) = true) (hno : ∀ j, j < i0 → delW T s (rows.getD j []) = false) : ∀ k, i0 + 1 + k ≤ rows.length →
    (dKW T s rows i0 k).1.length = rows.length ∧ (dKW T s rows i0 k).2 ≤ i0 + k ∧ (∀ m, i0 + 1 + k ≤ m → (dKW T s rows i0 k).1.getD m [] = rows.getD m []) ∧ (dKW T s rows i0 k).1.take (dKW T s rows i0 k).2 = leftW T s (rows.take (i0 + 1 + k)) ∧ ∀ r ∈ (dKW T s rows i0 k).1, r ∈ rows := by
  intro k
  induction k with
  | zero =>
    intro hk
    refine ⟨rfl, Nat.le_refl _, fun _ _ => rfl, ?_, fun r hr => hr⟩
    show rows.take i0 = leftW T s (rows.take (i0 + 1 + 0))
    rw [Nat.add_zero, take_snocW rows [] h0, filterW_snoc, if_pos hd, List.append_nil]
    have : ∀ n, n ≤ i0 → leftW T s (rows.take n) = rows.take n := by
      intro n
      induction n with
      | zero => intro _; rfl
      | succ n ih =>
        intro hn
        rw [take_snocW rows [] (by omega), filterW_snoc, ih (by omega), if_neg (by rw [hno n (by omega)]; decide)]
    exact (this i0 (Nat.le_refl _)).symm
  | succ k ih =>
    intro hk
    obtain ⟨a1, a2, a3, a4, a5⟩ := ih (by omega)
    have e1 : (dKW T s rows i0 k).1.getD (i0 + 1 + k) [] = rows.getD (i0 + 1 + k) [] := a3 _ (Nat.le_refl _)
    have e2 : rows.take (i0 + 1 + (k + 1)) = rows.take (i0 + 1 + k) ++ [rows.getD (i0 + 1 + k) []] := take_snocW (i := i0 + 1 + k) rows [] (by omega)
    rw [e2, filterW_snoc]
    unfold dKW
    rw [e1]
    split
    · exact ⟨a1, by omega, fun m hm => a3 m (by omega), by rw [List.append_nil]; exact a4, a5⟩
    · refine ⟨by rw [List.length_set]; exact a1, by dsimp only; omega, fun m hm => ?_, ?_, fun r hr => ?_⟩
      · rw [List.getD_eq_getElem?_getD, List.getElem?_set, if_neg (by omega), ← List.getD_eq_getElem?_getD]
        exact a3 m (by omega)
      · dsimp only
        rw [← a4, take_snocW _ [] (by rw [List.length_set, a1]; omega), List.take_set_of_le (Nat.le_refl _)]
        congr 2
        rw [List.getD_eq_getElem?_getD, List.getElem?_set_self (by rw [a1]; omega)]; rfl
      · rcases List.mem_or_eq_of_mem_set hr with hr | rfl
        · exact a5 r hr
        · exact getD_mem (by omega)


end Go.Proofs.YtjbgjgkogmlpfaaGreat

namespace Go.Proofs.YtjbgjgkogmlpfaaGreat
open Go Go.Eng
set_option linter.unusedSimpArgs false
set_option linter.unusedVariables false
set_option maxRecDepth 100000
set_option maxHeartbeats 4000000

def lessS (a b : List Int) : Bool := decide (a.getD 1 0 < b.getD 1 0 ∨ (a.getD 1 0 = b.getD 1 0 ∧ a.getD 0 0 < b.getD 0 0))
def cmpI (a b : List Int) : Int := if a.getD 1 0 ≠ b.getD 1 0 then a.getD 1 0 - b.getD 1 0 else a.getD 0 0 - b.getD 0 0
theorem cmp_less (a b : List Int) : cmpI a b < 0 ↔ lessS a b = true := by
  unfold cmpI lessS
  rw [decide_eq_true_eq]
  split <;> omega
/-- The least of the first i + 1. -/
def minK (rows : List (List Int)) : Nat → List Int
  | 0 => rows.getD 0 []
  | i + 1 => if cmpI (rows.getD (i + 1) []) (minK rows i) < 0 then rows.getD (i + 1) [] else minK rows i
def minW (rows : List (List Int)) : List Int := minK rows (rows.length - 1)
theorem minK_mem {rows : List (List Int)} : ∀ i, i < rows.length → minK rows i ∈ rows := by
  intro i
  induction i with
  | zero => intro h; exact getD_mem h
  | succ i ih =>
    intro h
    unfold minK
    split
    · exact getD_mem h
    · exact ih (by omega)
def cmpS : Fun
  | [.ag .spot a, .ag .spot b], [] => some (.i .i64 (cmpI a b), [], [])
  | _, _ => .none
set_option maxRecDepth 100000 in
theorem s_cmp : Sound Tryz.prog 67 cmpS := by
  intro args M r M' vs h hvs
  unfold cmpS at h
  split at h
  case h_2 => cases h
  rename_i a b
  cases h
  refine SpecOK.assume fun hA hM => ?_
  have htb := (TbOk.nil : TbOk Tryz.prog tb0)
  refine SpecOK.of_goes [] Tryz.func67 rfl ?_
  obtain ⟨a0, a1, rfl⟩ := len2 hA.1
  obtain ⟨b0, b1, rfl⟩ := len2 hA.2.2.1
  have h1 := hA.2.1
  have h2 := hA.2.2.2.1
  have hr : (-128 ≤ a0 ∧ a0 ≤ 127) ∧ (-128 ≤ a1 ∧ a1 ≤ 127) ∧ (-128 ≤ b0 ∧ b0 ≤ 127) ∧ (-128 ≤ b1 ∧ b1 ≤ 127) := by
    simp [cellsOk, Sg.flat, flats, CK.ok, rng, lo, hi] at h1 h2
    omega
  clear hA hM h1 h2
  refine Goes.tree Γ_ok htb 1000 false false Tryz.func67 rfl ?_
  ((try simp only [decide_eq_true_eq, decide_eq_false_iff_not, Bool.not_eq_true', Bool.not_eq_false', Bool.not_true, Bool.not_false, Bool.and_eq_true, Bool.or_eq_true, bne_iff_ne, beq_iff_eq, ne_eq]); (try simp only [rng, lo, hi, mnI, mxI, Int.toNat_natCast, Sg.n, Nat.mul_one, Nat.zero_add, Nat.add_zero, Nat.reduceAdd, List.getD_cons_zero, List.getD_cons_succ]))
  ((repeat' (first | (with_reducible apply And.intro) | intro _)); all_goals (first | exact trivial | (with_reducible assumption) | (show (_ : List Blk) = _; rfl) | (first | exact trivial | (with_reducible assumption) | omega | (split <;> omega) | (split <;> split <;> omega)) | skip); all_goals (try (refine ⟨rfl, (by first | exact Nat.le_refl _ | exact Nat.le_of_ble_eq_true rfl), rfl, rfl, ?_, (by repeat' (first | exact trivial | rfl | apply And.intro)), rfl, rfl⟩)))
  all_goals (try first | omega | (refine sameA_i ?_; unfold cmpI; simp [*]; done))
  all_goals trace_state

def minS : Fun
  | [.ow 0 n .spot 54, .fn 67 []], [.l .spot rows] => some (.ag .spot (minW rows), [.l .spot rows], [n = rows.length ∧ 0 < n ∧ n ≤ 1000000])
  | _, _ => .none

/-! The way. -/
def nxt (p D s : List Int) : List Int := minW (leftW D s (besN p s 4))
def wK (p D a : List Int) : Nat → List Int × List (List Int)
  | 0 => (a, [a])
  | k + 1 => (nxt p D (wK p D a k).1, (wK p D a k).2 ++ [nxt p D (wK p D a k).1])

theorem nxt_ok {p b s : List Int} (hd : okD p) (hb : isP p b = true) (hbl : b.length = 2) (hs : isP p s = true) (hl : s.length = 2) (h1 : 0 < (m1 (bfsD p [b])).getD (cx s) 0) :
    0 < (leftW (m1 (bfsD p [b])) s (besN p s 4)).length ∧ isP p (nxt p (m1 (bfsD p [b])) s) = true ∧ (nxt p (m1 (bfsD p [b])) s).length = 2 ∧ (m1 (bfsD p [b])).getD (cx (nxt p (m1 (bfsD p [b])) s)) 0 = (m1 (bfsD p [b])).getD (cx s) 0 - 1 := by
  have hD := (bfsD_wf hd (one_isP hb)).1
  have hg : ∀ c, isP p c = true → (m1 (bfsD p [b])).getD (cx c) 0 = (bfsD p [b]).getD (cx c) 0 - 1 := fun c hc => m1_get (by rw [hD]; exact cx_lt (inG_isP hd hc))
  rw [hg s hs] at h1
  have hmem : ∀ c ∈ besN p s 4, isP p c = true ∧ c.length = 2 := fun c hc => by
    obtain ⟨e, -, e2, rfl⟩ := besN_go 4 hc
    unfold canGo at e2
    rw [Bool.and_eq_true] at e2
    exact ⟨e2.1, ahead_len _ _⟩
  have hpos : 0 < (leftW (m1 (bfsD p [b])) s (besN p s 4)).length := by
    rcases bfs_prev hd hb hbl hs hl (by omega) with ⟨-, h⟩ | ⟨c, hc, c1, c2, c3, c4⟩
    · omega
    · refine List.length_pos_of_mem (a := c) (List.mem_filter.2 ⟨hc, ?_⟩)
      unfold delW
      rw [Bool.not_not, hg c c1, hg s hs]
      exact decide_eq_true (by omega)
  have hm := minK_mem ((leftW (m1 (bfsD p [b])) s (besN p s 4)).length - 1) (show _ < (leftW (m1 (bfsD p [b])) s (besN p s 4)).length by omega)
  obtain ⟨f1, f2⟩ := List.mem_filter.1 hm
  obtain ⟨g1, g2⟩ := hmem _ f1
  unfold delW at f2
  rw [Bool.not_not, decide_eq_true_eq] at f2
  exact ⟨hpos, g1, g2, f2⟩
theorem wK_ok {p a b : List Int} (hd : okD p) (hb : isP p b = true) (hbl : b.length = 2) (ha : isP p a = true) (hal : a.length = 2) (h0 : 0 ≤ (m1 (bfsD p [b])).getD (cx a) 0) : ∀ k : Nat, (k : Int) ≤ (m1 (bfsD p [b])).getD (cx a) 0 →
    isP p (wK p (m1 (bfsD p [b])) a k).1 = true ∧ (wK p (m1 (bfsD p [b])) a k).1.length = 2 ∧ (m1 (bfsD p [b])).getD (cx (wK p (m1 (bfsD p [b])) a k).1) 0 = (m1 (bfsD p [b])).getD (cx a) 0 - k ∧ (wK p (m1 (bfsD p [b])) a k).2.length = k + 1 := by
  intro k
  induction k with
  | zero => intro _; exact ⟨ha, hal, by show _ = _ - ((0 : Nat) : Int); simp [wK], rfl⟩
  | succ k ih =>
    intro hk
    obtain ⟨i1, i2, i3, i4⟩ := ih (by omega)
    obtain ⟨n1, n2, n3, n4⟩ := nxt_ok hd hb hbl i1 i2 (by omega)
    refine ⟨n2, n3, ?_, by simp [wK, i4]⟩
    show (m1 (bfsD p [b])).getD (cx (nxt p (m1 (bfsD p [b])) (wK p (m1 (bfsD p [b])) a k).1)) 0 = _
    rw [n4, i3]; omega
noncomputable def wayL (p a b : List Int) : List (List Int) := (wK p (m1 (bfsD p [b])) a ((m1 (bfsD p [b])).getD (cx a) 0).toNat).2
end Go.Proofs.YtjbgjgkogmlpfaaGreat
