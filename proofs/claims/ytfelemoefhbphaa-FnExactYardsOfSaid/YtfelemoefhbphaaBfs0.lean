/- The steps from a cell: the plain law. -/
import Derived.Test.YtfelemoefhbphaaBeside
namespace Go.Proofs.Ytfelemoefhbphaa
open Go Go.Eng
set_option linter.unusedSimpArgs false
set_option linter.unusedVariables false
set_option maxRecDepth 100000
set_option maxHeartbeats 4000000

/-- The place of a cell in a table. -/
def cx (s : List Int) : Nat := (s.getD 1 0).toNat * 10 + (s.getD 0 0).toNat

theorem cx_lt {s : List Int} (h : inG s) : cx s < 100 := by unfold inG at h; unfold cx; omega

/-- A cell is met: it is numbered and put behind, unless it has been met. -/
def meet (now : List Int) (st : List Int × List (List Int)) (n : List Int) : List Int × List (List Int) :=
  if st.1.getD (cx n) 0 = 0 then (st.1.set (cx n) (st.1.getD (cx now) 0 + 1), st.2 ++ [n]) else st

/-- The first k of a list are met. -/
def inK (now : List Int) (l : List (List Int)) (st : List Int × List (List Int)) : Nat → List Int × List (List Int)
  | 0 => st
  | k + 1 => meet now (inK now l st k) (l.getD k [])

/-- The cells over the first d sides are met. -/
def goS (p now : List Int) (st : List Int × List (List Int)) : Nat → List Int × List (List Int)
  | 0 => st
  | d + 1 => if canGo p now d = true then meet now (goS p now st d) (ahead now d) else goS p now st d

theorem inK_app (now : List Int) (l r : List (List Int)) (st : List Int × List (List Int)) : ∀ k, k ≤ l.length → inK now (l ++ r) st k = inK now l st k := by
  intro k
  induction k with
  | zero => intro _; rfl
  | succ k ih =>
    intro h
    simp only [inK]
    rw [ih (by omega), List.getD_eq_getElem?_getD, List.getElem?_append_left (by omega), ← List.getD_eq_getElem?_getD]

theorem inK_bes (p now : List Int) (st : List Int × List (List Int)) : ∀ d, inK now (besN p now d) st (besN p now d).length = goS p now st d := by
  intro d
  induction d with
  | zero => rfl
  | succ d ih =>
    unfold besN goS
    split
    · rw [List.length_append, List.length_cons, List.length_nil, Nat.zero_add, inK, inK_app _ _ _ _ _ (Nat.le_refl _), ih]
      congr 1
      rw [List.getD_eq_getElem?_getD, List.getElem?_append_right (Nat.le_refl _), Nat.sub_self]; rfl
    · exact ih

/-- The first i sources are numbered. -/
def srcD (rows : List (List Int)) : Nat → List Int
  | 0 => List.replicate 100 0
  | i + 1 => (srcD rows i).set (cx (rows.getD i [])) 1

/-- Behind i cells. -/
def stI (p : List Int) (rows : List (List Int)) : Nat → List Int × List (List Int)
  | 0 => (srcD rows rows.length, rows)
  | i + 1 => if i < (stI p rows i).2.length then goS p ((stI p rows i).2.getD i []) (stI p rows i) 4 else stI p rows i

/-! For each cell 1 more than how many steps it is away, 0 if there is no way. -/
theorem bfsD_ex (p : List Int) (rows : List (List Int)) : ∃ D : List Int, D = (stI p rows (rows.length + 101)).1 := ⟨_, rfl⟩
noncomputable def bfsD (p : List Int) (rows : List (List Int)) : List Int := Classical.choose (bfsD_ex p rows)
theorem bfsD_eq (p : List Int) (rows : List (List Int)) : bfsD p rows = (stI p rows (rows.length + 101)).1 := Classical.choose_spec (bfsD_ex p rows)

theorem stI_stop {p : List Int} {s : List (List Int)} {i : Nat} (h : ¬ i < (stI p s i).2.length) : ∀ k, stI p s (i + k) = stI p s i := by
  intro k
  induction k with
  | zero => rfl
  | succ k ih =>
    rw [← Nat.add_assoc, stI, ih, if_neg (by omega)]

def isZ (v : Int) : Bool := decide (v = 0)
def noZ (v : Int) : Bool := decide (v ≠ 0)
theorem z_all (l : List Int) : l.countP isZ + l.countP noZ = l.length := by
  induction l with
  | nil => rfl
  | cons a l ih =>
    rw [List.countP_cons, List.countP_cons, List.length_cons]
    have e : (if isZ a = true then 1 else 0) + (if noZ a = true then 1 else 0) = 1 := by
      unfold isZ noZ
      by_cases h : a = 0 <;> simp [h]
    omega

/-- What holds all along. -/
structure WF (p : List Int) (n : Nat) (st : List Int × List (List Int)) : Prop where
  len : st.1.length = 100
  cells : ∀ q ∈ st.2, isP p q = true
  cnt : st.2.length + st.1.countP isZ ≤ n + 100
  rng : ∀ j, 0 ≤ st.1.getD j 0 ∧ st.1.getD j 0 ≤ st.1.countP noZ
  pos : ∀ q ∈ st.2, 0 < st.1.getD (cx q) 0

theorem WF.le {p : List Int} {n : Nat} {st : List Int × List (List Int)} (h : WF p n st) : st.2.length ≤ n + 100 := by
  have := h.cnt; omega
theorem WF.le' {p : List Int} {n : Nat} {st : List Int × List (List Int)} (h : WF p n st) (j : Nat) : 0 ≤ st.1.getD j 0 ∧ st.1.getD j 0 ≤ 100 := by
  have h1 := h.rng j
  have h2 := z_all st.1
  rw [h.len] at h2
  omega

theorem set_get {l : List Int} {i j : Nat} {v : Int} : (l.set i v).getD j 0 = if i = j ∧ j < l.length then v else l.getD j 0 := by
  rw [List.getD_eq_getElem?_getD, List.getD_eq_getElem?_getD, List.getElem?_set]
  by_cases h : i = j
  · subst h
    by_cases hl : i < l.length
    · simp [hl]
    · simp [hl]
  · simp [h]

theorem set_z {l : List Int} {i : Nat} {v : Int} (hi : i < l.length) (hz : l.getD i 0 = 0) (hv : v ≠ 0) : (l.set i v).countP isZ + 1 = l.countP isZ ∧ (l.set i v).countP noZ = l.countP noZ + 1 := by
  have e : l[i] = 0 := by
    rw [List.getD_eq_getElem?_getD, List.getElem?_eq_getElem hi] at hz; exact hz
  have h1 : l.countP isZ ≠ 0 := by
    intro h
    have := List.countP_eq_zero.1 h l[i] (List.getElem_mem hi)
    rw [e] at this; exact this rfl
  rw [List.countP_set hi, List.countP_set hi, e]
  unfold isZ noZ at *
  simp [hv]
  omega

theorem WF.meet {p now n : List Int} {m : Nat} {st : List Int × List (List Int)} (hd : okD p) (h : WF p m st) (hn : isP p n = true) : WF p m (meet now st n) := by
  unfold Proofs.Ytfelemoefhbphaa.meet
  split
  · rename_i hz
    have hlt : cx n < st.1.length := by rw [h.len]; exact cx_lt (inG_of' hd hn)
    have hnow := h.rng (cx now)
    obtain ⟨z1, z2⟩ := set_z hlt hz (v := st.1.getD (cx now) 0 + 1) (by omega)
    refine ⟨?_, ?_, ?_, ?_, ?_⟩
    · simp only [List.length_set]; exact h.len
    · intro q hq
      rcases List.mem_append.1 hq with hq | hq
      · exact h.cells q hq
      · rw [List.mem_singleton.1 hq]; exact hn
    · have := h.cnt
      dsimp only
      rw [List.length_append, List.length_cons, List.length_nil]
      omega
    · intro j
      have := h.rng j
      dsimp only
      rw [set_get, z2]
      split <;> omega
    · intro q hq
      dsimp only
      rw [set_get]
      split
      · omega
      · rename_i hne
        rcases List.mem_append.1 hq with hq | hq
        · exact h.pos q hq
        · rw [List.mem_singleton.1 hq] at hne; exact absurd ⟨rfl, hlt⟩ hne
  · exact h

theorem canGo_isP {p s : List Int} {d : Int} (h : canGo p s d = true) : isP p (ahead s d) = true := by
  unfold canGo at h; rw [Bool.and_eq_true] at h; exact h.1

theorem WF.goS {p now : List Int} {m : Nat} {st : List Int × List (List Int)} (hd : okD p) (h : WF p m st) : ∀ d, WF p m (goS p now st d) := by
  intro d
  induction d with
  | zero => exact h
  | succ d ih =>
    unfold Proofs.Ytfelemoefhbphaa.goS
    split
    · exact ih.meet hd (canGo_isP (by assumption))
    · exact ih

theorem WF.inK {p now : List Int} {m : Nat} {l : List (List Int)} {st : List Int × List (List Int)} (hd : okD p) (h : WF p m st) (hl : ∀ q ∈ l, isP p q = true) : ∀ k, k ≤ l.length → WF p m (inK now l st k) := by
  intro k
  induction k with
  | zero => intro _; exact h
  | succ k ih =>
    intro hk
    unfold Proofs.Ytfelemoefhbphaa.inK
    refine (ih (by omega)).meet hd (hl _ ?_)
    rw [List.getD_eq_getElem?_getD, List.getElem?_eq_getElem (by omega)]; exact List.getElem_mem _

theorem besN_isP (p s : List Int) : ∀ d, ∀ q ∈ besN p s d, isP p q = true := by
  intro d
  induction d with
  | zero => intro q hq; cases hq
  | succ d ih =>
    intro q hq
    unfold besN at hq
    split at hq
    · rcases List.mem_append.1 hq with hq | hq
      · exact ih q hq
      · rw [List.mem_singleton.1 hq]; exact canGo_isP (by assumption)
    · exact ih q hq

theorem srcD_len (rows : List (List Int)) : ∀ i, (srcD rows i).length = 100
  | 0 => by simp [srcD]
  | i + 1 => by rw [srcD, List.length_set]; exact srcD_len rows i

theorem srcD_get {p : List Int} {rows : List (List Int)} (hd : okD p) (hs : ∀ s ∈ rows, isP p s = true) : ∀ i, i ≤ rows.length → ∀ j, ((srcD rows i).getD j 0 = 0 ∨ (srcD rows i).getD j 0 = 1) ∧ ((srcD rows i).getD j 0 = 1 ↔ ∃ k, k < i ∧ cx (rows.getD k []) = j) := by
  intro i
  induction i with
  | zero =>
    intro _ j
    have : (srcD rows 0).getD j 0 = 0 := by
      unfold srcD
      rw [List.getD_eq_getElem?_getD, List.getElem?_replicate]; split <;> rfl
    rw [this]
    simp
  | succ i ih =>
    intro h j
    have hm : isP p (rows.getD i []) = true := hs _ (by rw [List.getD_eq_getElem?_getD, List.getElem?_eq_getElem (by omega)]; exact List.getElem_mem _)
    have hlt := cx_lt (inG_of' hd hm)
    obtain ⟨h1, h2⟩ := ih (by omega) j
    unfold srcD
    rw [set_get, srcD_len]
    split
    · rename_i hc
      exact ⟨.inr rfl, fun _ => ⟨i, by omega, hc.1⟩, fun _ => rfl⟩
    · rename_i hc
      refine ⟨h1, h2.trans ⟨?_, ?_⟩⟩
      · rintro ⟨k, hk, e⟩; exact ⟨k, by omega, e⟩
      · rintro ⟨k, hk, e⟩
        by_cases hki : k = i
        · subst hki; exact absurd ⟨e, by omega⟩ hc
        · exact ⟨k, by omega, e⟩

theorem WF.start {p : List Int} {rows : List (List Int)} (hd : okD p) (hs : ∀ s ∈ rows, isP p s = true) : WF p rows.length (stI p rows 0) := by
  have hg := srcD_get hd hs rows.length (Nat.le_refl _)
  have hl := srcD_len rows rows.length
  refine ⟨hl, hs, ?_, ?_, ?_⟩
  · have h2 := z_all (srcD rows rows.length)
    rw [hl] at h2
    show rows.length + (srcD rows rows.length).countP isZ ≤ _
    omega
  · intro j
    show 0 ≤ (srcD rows rows.length).getD j 0 ∧ (srcD rows rows.length).getD j 0 ≤ (((srcD rows rows.length).countP noZ : Nat) : Int)
    rcases (hg j).1 with e | e
    · rw [e]; omega
    · refine ⟨by omega, ?_⟩
      have hj : j < (srcD rows rows.length).length := by
        rcases Nat.lt_or_ge j (srcD rows rows.length).length with h | h
        · exact h
        · rw [List.getD_eq_getElem?_getD, List.getElem?_eq_none h] at e; cases e
      have : 0 < (srcD rows rows.length).countP noZ := by
        rw [List.countP_pos_iff]
        refine ⟨_, List.getElem_mem hj, ?_⟩
        rw [List.getD_eq_getElem?_getD, List.getElem?_eq_getElem hj] at e
        simp only [Option.getD_some] at e
        rw [e]; rfl
      omega
  · intro q hq
    obtain ⟨k, hk, rfl⟩ := List.mem_iff_getElem.1 hq
    have hk' : k < rows.length := hk
    have := ((hg (cx (rows.getD k []))).2).2 ⟨k, hk', rfl⟩
    rw [show rows.getD k [] = rows[k] from by rw [List.getD_eq_getElem?_getD, List.getElem?_eq_getElem hk']; rfl] at this
    show 0 < (srcD rows rows.length).getD (cx rows[k]) 0
    rw [show (srcD rows rows.length).getD (cx rows[k]) 0 = 1 from this]
    omega

theorem WF.stI {p : List Int} {rows : List (List Int)} (hd : okD p) (hs : ∀ s ∈ rows, isP p s = true) : ∀ i, WF p rows.length (stI p rows i) := by
  intro i
  induction i with
  | zero => exact WF.start hd hs
  | succ i ih =>
    unfold Proofs.Ytfelemoefhbphaa.stI
    split
    · exact ih.goS hd 4
    · exact ih

theorem goS_mono (p now : List Int) (st : List Int × List (List Int)) : ∀ d, st.2.length ≤ (goS p now st d).2.length := by
  intro d
  induction d with
  | zero => exact Nat.le_refl _
  | succ d ih =>
    unfold goS
    split
    · unfold meet
      split
      · simp only [List.length_append]; omega
      · exact ih
    · exact ih

theorem bfsD_wf {p : List Int} {rows : List (List Int)} (hd : okD p) (hs : ∀ s ∈ rows, isP p s = true) : (bfsD p rows).length = 100 ∧ ∀ j, 0 ≤ (bfsD p rows).getD j 0 ∧ (bfsD p rows).getD j 0 ≤ 100 := by
  have h := WF.stI hd hs (rows.length + 101)
  rw [bfsD_eq]
  exact ⟨h.len, fun j => h.le' j⟩

theorem bfsD_of {p : List Int} {rows : List (List Int)} {i : Nat} (hi : i ≤ rows.length + 101) (h : ¬ i < (stI p rows i).2.length) : (stI p rows i).1 = bfsD p rows := by
  rw [bfsD_eq]
  rw [← stI_stop h (rows.length + 101 - i), show i + (rows.length + 101 - i) = rows.length + 101 from by omega]

theorem one_isP {p s : List Int} (h : isP p s = true) : ∀ q ∈ [s], isP p q = true := fun q hq => by rw [List.mem_singleton.1 hq]; exact h

/-- The table of the program: 1 less. -/
def m1 (l : List Int) : List Int := l.map (· - 1)
theorem m1_get {l : List Int} {j : Nat} (h : j < l.length) : (m1 l).getD j 0 = l.getD j 0 - 1 := by
  unfold m1
  rw [List.getD_eq_getElem?_getD, List.getElem?_map, List.getElem?_eq_getElem h, List.getD_eq_getElem?_getD, List.getElem?_eq_getElem h]; rfl
theorem m1_set (l : List Int) (j : Nat) (v : Int) : (m1 l).set j v = m1 (l.set j (v + 1)) := by
  unfold m1
  rw [List.map_set]
  congr 1
  omega
theorem rep_set (a b : Int) (n m : Nat) (h : 0 < m) : (List.replicate n a ++ List.replicate m b).set n a = List.replicate (n + 1) a ++ List.replicate (m - 1) b := by
  obtain ⟨m, rfl⟩ : ∃ k, m = k + 1 := ⟨m - 1, by omega⟩
  rw [List.set_append_right _ _ (by simp), List.length_replicate, Nat.sub_self, List.replicate_succ, List.set_cons_zero, List.replicate_succ', List.append_assoc]
  rfl
end Go.Proofs.Ytfelemoefhbphaa
