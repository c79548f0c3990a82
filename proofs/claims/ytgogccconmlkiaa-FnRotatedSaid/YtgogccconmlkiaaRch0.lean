/- Shortest ways: from every cell that is reached a step leads nearer. -/
import Derived.Test.YtgogccconmlkiaaBfs
import Derived.Test.YtgogccconmlkiaaHas
import Derived.Test.YtgogccconmlkiaaFilt
import Derived.Test.YtgogccconmlkiaaYards
import Derived.Test.YtgogccconmlkiaaFc
namespace Go.Proofs.Ytgogccconmlkiaa
open Go Go.Eng
set_option linter.unusedSimpArgs false
set_option linter.unusedVariables false
set_option maxRecDepth 100000
set_option maxHeartbeats 4000000

/-- Every numbered cell is the start, or was met from one that is one nearer. -/
def okSt (p b : List Int) (st : List Int × List (List Int)) : Prop := (∀ q ∈ st.2, q.length = 2) ∧
  ∀ n, inG n → n.length = 2 → 0 < st.1.getD (cx n) 0 → (n = b ∧ st.1.getD (cx n) 0 = 1) ∨ ∃ (m : List Int) (d : Nat), isP p m = true ∧ m.length = 2 ∧ d < 4 ∧ canGo p m (d : Int) = true ∧ n = ahead m (d : Int) ∧ 0 < st.1.getD (cx m) 0 ∧ st.1.getD (cx m) 0 + 1 = st.1.getD (cx n) 0

theorem meet_okSt {p b now : List Int} {k : Nat} {st : List Int × List (List Int)} (hd : okD p) (hw : WF p k st) (h : okSt p b st) (hp : isP p now = true) (hl : now.length = 2) (hpos : 0 < st.1.getD (cx now) 0) {d : Nat} (hdl : d < 4) (hg : canGo p now (d : Int) = true) : okSt p b (meet now st (ahead now (d : Int))) ∧ 0 < (meet now st (ahead now (d : Int))).1.getD (cx now) 0 := by
  have hn : isP p (ahead now (d : Int)) = true := by unfold canGo at hg; rw [Bool.and_eq_true] at hg; exact hg.1
  have hnG := inG_of' hd hn
  have hlt := cx_lt hnG
  unfold meet
  split
  · rename_i hz
    have hne : cx (ahead now (d : Int)) ≠ cx now := fun e => by rw [e] at hz; omega
    have keep : ∀ j, 0 < st.1.getD j 0 → (st.1.set (cx (ahead now (d : Int))) (st.1.getD (cx now) 0 + 1)).getD j 0 = st.1.getD j 0 := fun j hj => by
      rw [set_get, if_neg]
      rintro ⟨e, -⟩
      rw [e] at hz; omega
    have hit : (st.1.set (cx (ahead now (d : Int))) (st.1.getD (cx now) 0 + 1)).getD (cx (ahead now (d : Int))) 0 = st.1.getD (cx now) 0 + 1 := by
      rw [set_get, if_pos ⟨rfl, by rw [hw.len]; exact hlt⟩]
    refine ⟨⟨fun q hq => ?_, fun n hnn hnl hnp => ?_⟩, by dsimp only; rw [keep _ hpos]; exact hpos⟩
    · rcases List.mem_append.1 hq with hq | hq
      · exact h.1 q hq
      · rw [List.mem_singleton.1 hq]; exact ahead_len _ _
    · dsimp only at hnp ⊢
      by_cases e : cx n = cx (ahead now (d : Int))
      · have e2 := cx_inj hnn hnG hnl (ahead_len _ _) e
        subst e2
        refine .inr ⟨now, d, hp, hl, hdl, hg, rfl, ?_, ?_⟩
        · rw [keep _ hpos]; exact hpos
        · rw [keep _ hpos, hit]
      · have e3 : (st.1.set (cx (ahead now (d : Int))) (st.1.getD (cx now) 0 + 1)).getD (cx n) 0 = st.1.getD (cx n) 0 := by
          rw [set_get, if_neg (fun h => e h.1.symm)]
        rw [e3] at hnp ⊢
        rcases h.2 n hnn hnl hnp with h1 | ⟨m, d', g1, g2, g3, g4, g5, g6, g7⟩
        · exact .inl h1
        · exact .inr ⟨m, d', g1, g2, g3, g4, g5, by rw [keep _ g6]; exact g6, by rw [keep _ g6]; exact g7⟩
  · exact ⟨h, hpos⟩
theorem goS_okSt {p b now : List Int} {k : Nat} {st : List Int × List (List Int)} (hd : okD p) (hw : WF p k st) (h : okSt p b st) (hp : isP p now = true) (hl : now.length = 2) (hpos : 0 < st.1.getD (cx now) 0) : ∀ d, d ≤ 4 → WF p k (goS p now st d) ∧ okSt p b (goS p now st d) ∧ 0 < (goS p now st d).1.getD (cx now) 0 := by
  intro d
  induction d with
  | zero => intro _; exact ⟨hw, h, hpos⟩
  | succ d ih =>
    intro hd4
    obtain ⟨i1, i2, i3⟩ := ih (by omega)
    unfold goS
    split
    · rename_i hg
      have hn : isP p (ahead now (d : Int)) = true := by unfold canGo at hg; rw [Bool.and_eq_true] at hg; exact hg.1
      obtain ⟨j1, j2⟩ := meet_okSt hd i1 i2 hp hl i3 (by omega) hg
      exact ⟨i1.meet hd hn, j1, j2⟩
    · exact ⟨i1, i2, i3⟩
theorem stI_okSt {p b : List Int} (hd : okD p) (hb : isP p b = true) (hbl : b.length = 2) : ∀ i, okSt p b (stI p [b] i) := by
  intro i
  induction i with
  | zero =>
    refine ⟨fun q hq => by rw [List.mem_singleton.1 hq]; exact hbl, fun n hn hnl hnp => .inl ?_⟩
    have hbG := inG_of' hd hb
    have hg : ∀ j, ((List.replicate 100 (0:Int)).set (cx b) 1).getD j 0 = if cx b = j ∧ j < 100 then 1 else 0 := fun j => by
      rw [set_get, List.length_replicate]
      split
      · rfl
      · rw [List.getD_eq_getElem?_getD, List.getElem?_replicate]; split <;> rfl
    have e : (stI p [b] 0).1 = (List.replicate 100 (0:Int)).set (cx b) 1 := rfl
    rw [e, hg] at hnp ⊢
    split at hnp
    · rename_i hc
      exact ⟨cx_inj hn hbG hnl hbl hc.1.symm, if_pos hc⟩
    · omega
  | succ i ih =>
    have hw := WF.stI hd (one_isP hb) i
    unfold stI
    split
    · rename_i hi
      have hm : (stI p [b] i).2.getD i [] ∈ (stI p [b] i).2 := by rw [List.getD_eq_getElem?_getD, List.getElem?_eq_getElem hi]; exact List.getElem_mem _
      exact (goS_okSt hd hw ih (hw.cells _ hm) (ih.1 _ hm) (hw.pos _ hm) 4 (Nat.le_refl _)).2.1
    · exact ih

theorem go_back {p m : List Int} {d : Nat} (hm : isP p m = true) (hl : m.length = 2) (hd : d < 4) (h : canGo p m (d : Int) = true) : ∃ d' : Nat, d' < 4 ∧ canGo p (ahead m (d : Int)) (d' : Int) = true ∧ ahead (ahead m (d : Int)) (d' : Int) = m := by
  obtain ⟨a, b, rfl⟩ := len2 hl
  have key : ∀ d' : Nat, d' < 4 → ahead (ahead [a, b] (d : Int)) (d' : Int) = [a, b] → hurdleAt (ahead [a, b] (d : Int)) (d' : Int) = hurdleAt [a, b] (d : Int) → ∃ d' : Nat, d' < 4 ∧ canGo p (ahead [a, b] (d : Int)) (d' : Int) = true ∧ ahead (ahead [a, b] (d : Int)) (d' : Int) = [a, b] := fun d' h1 h2 h3 => by
    refine ⟨d', h1, ?_, h2⟩
    unfold canGo at h ⊢
    rw [Bool.and_eq_true] at h
    rw [h2, h3, hm, h.2]; rfl
  have hcase : d = 0 ∨ d = 1 ∨ d = 2 ∨ d = 3 := by omega
  rcases hcase with rfl | rfl | rfl | rfl
  · refine key 2 (by omega) ?_ ?_ <;> simp [ahead, hurdleAt]
  · refine key 3 (by omega) ?_ ?_ <;> simp [ahead, hurdleAt]
  · refine key 0 (by omega) ?_ ?_ <;> simp [ahead, hurdleAt]
  · refine key 1 (by omega) ?_ ?_ <;> simp [ahead, hurdleAt]

theorem besN_mem {p s : List Int} {d' : Nat} (h : canGo p s (d' : Int) = true) : ∀ d, d' < d → ahead s (d' : Int) ∈ besN p s d := by
  intro d
  induction d with
  | zero => intro h; omega
  | succ d ih =>
    intro hd
    unfold besN
    by_cases e : d' = d
    · subst e
      rw [if_pos h]
      exact List.mem_append.2 (.inr (List.mem_singleton.2 rfl))
    · split
      · exact List.mem_append.2 (.inl (ih (by omega)))
      · exact ih (by omega)

/-- From a cell that is reached, not the start, a step leads one nearer. -/
theorem bfs_prev {p b s : List Int} (hd : okD p) (hb : isP p b = true) (hbl : b.length = 2) (hs : isP p s = true) (hl : s.length = 2) (hpos : 0 < (bfsD p [b]).getD (cx s) 0) :
    (s = b ∧ (bfsD p [b]).getD (cx s) 0 = 1) ∨ ∃ c ∈ besN p s 4, isP p c = true ∧ c.length = 2 ∧ 0 < (bfsD p [b]).getD (cx c) 0 ∧ (bfsD p [b]).getD (cx c) 0 = (bfsD p [b]).getD (cx s) 0 - 1 := by
  have h := stI_okSt hd hb hbl ([b].length + 101)
  rw [bfsD_eq] at hpos ⊢
  rcases h.2 s (inG_of' hd hs) hl hpos with h1 | ⟨m, d, g1, g2, g3, g4, g5, g6, g7⟩
  · exact .inl h1
  · obtain ⟨d', k1, k2, k3⟩ := go_back g1 g2 g3 g4
    rw [← g5] at k2 k3
    refine .inr ⟨m, ?_, g1, g2, g6, by omega⟩
    have := besN_mem k2 4 k1
    rw [k3] at this
    exact this
end Go.Proofs.Ytgogccconmlkiaa

namespace Go.Proofs.Ytgogccconmlkiaa
open Go Go.Eng
set_option linter.unusedSimpArgs false
set_option linter.unusedVariables false
set_option maxRecDepth 100000
set_option maxHeartbeats 4000000

theorem meet_pos {now n : List Int} {st : List Int × List (List Int)} {j : Nat} (h : 0 < st.1.getD j 0) : 0 < (meet now st n).1.getD j 0 := by
  unfold meet
  split
  · rename_i hz
    dsimp only
    rw [set_get]
    split
    · rename_i hc; rw [hc.1] at hz; omega
    · exact h
  · exact h
theorem goS_pos {p now : List Int} {st : List Int × List (List Int)} {j : Nat} (h : 0 < st.1.getD j 0) : ∀ d, 0 < (goS p now st d).1.getD j 0 := by
  intro d
  induction d with
  | zero => exact h
  | succ d ih =>
    unfold goS
    split
    · exact meet_pos ih
    · exact ih
theorem stI_pos {p : List Int} {rows : List (List Int)} {j : Nat} (h : 0 < (srcD rows rows.length).getD j 0) : ∀ i, 0 < (stI p rows i).1.getD j 0 := by
  intro i
  induction i with
  | zero => exact h
  | succ i ih =>
    unfold stI
    split
    · exact goS_pos ih 4
    · exact ih
theorem bfs_self {p s : List Int} (hs : inG s) : 0 < (bfsD p [s]).getD (cx s) 0 := by
  rw [bfsD_eq]
  refine stI_pos ?_ _
  have hlt := cx_lt hs
  show 0 < ((List.replicate 100 (0:Int)).set (cx s) 1).getD (cx s) 0
  rw [set_get, if_pos ⟨rfl, by rw [List.length_replicate]; exact hlt⟩]
  decide

theorem meet_pre (now : List Int) (st : List Int × List (List Int)) (n : List Int) : ∃ r, (meet now st n).2 = st.2 ++ r := by
  unfold meet
  split
  · exact ⟨_, rfl⟩
  · exact ⟨[], (List.append_nil _).symm⟩
theorem goS_pre (p now : List Int) (st : List Int × List (List Int)) : ∀ d, ∃ r, (goS p now st d).2 = st.2 ++ r := by
  intro d
  induction d with
  | zero => exact ⟨[], (List.append_nil _).symm⟩
  | succ d ih =>
    obtain ⟨r, e⟩ := ih
    unfold goS
    split
    · obtain ⟨r2, e2⟩ := meet_pre now (goS p now st d) (ahead now d)
      exact ⟨r ++ r2, by rw [e2, e, List.append_assoc]⟩
    · exact ⟨r, e⟩
theorem meet_hit {p now n : List Int} {k : Nat} {st : List Int × List (List Int)} (hd : okD p) (hw : WF p k st) (hn : isP p n = true) (hpos : 0 < st.1.getD (cx now) 0) : 0 < (meet now st n).1.getD (cx n) 0 := by
  have hlt := cx_lt (inG_of' hd hn)
  have hr := hw.rng (cx n)
  unfold meet
  split
  · dsimp only
    rw [set_get, if_pos ⟨rfl, by rw [hw.len]; exact hlt⟩]; omega
  · omega
theorem goS_hit {p now : List Int} {k : Nat} {st : List Int × List (List Int)} (hd : okD p) (hw : WF p k st) (hpos : 0 < st.1.getD (cx now) 0) : ∀ d, d ≤ 4 → WF p k (goS p now st d) ∧ 0 < (goS p now st d).1.getD (cx now) 0 ∧ ∀ e : Nat, e < d → canGo p now (e : Int) = true → 0 < (goS p now st d).1.getD (cx (ahead now (e : Int))) 0 := by
  intro d
  induction d with
  | zero => intro _; exact ⟨hw, hpos, fun e he => by omega⟩
  | succ d ih =>
    intro h4
    obtain ⟨i1, i2, i3⟩ := ih (by omega)
    unfold goS
    split
    · rename_i hg
      have hn : isP p (ahead now (d : Int)) = true := by unfold canGo at hg; rw [Bool.and_eq_true] at hg; exact hg.1
      refine ⟨i1.meet hd hn, meet_pos i2, fun e he hc => ?_⟩
      by_cases hed : e = d
      · subst hed; exact meet_hit hd i1 hn i2
      · exact meet_pos (i3 e (by omega) hc)
    · rename_i hg
      refine ⟨i1, i2, fun e he hc => ?_⟩
      by_cases hed : e = d
      · subst hed; exact absurd hc hg
      · exact i3 e (by omega) hc

/-- What was worked off has all its neighbours numbered; what is numbered stands in the queue. -/
def okQ (p : List Int) (i : Nat) (st : List Int × List (List Int)) : Prop := (∀ k, k < i → k < st.2.length → ∀ e : Nat, e < 4 → canGo p (st.2.getD k []) (e : Int) = true → 0 < st.1.getD (cx (ahead (st.2.getD k []) (e : Int))) 0)
def inQ (st : List Int × List (List Int)) : Prop := ∀ n, inG n → n.length = 2 → 0 < st.1.getD (cx n) 0 → n ∈ st.2
theorem meet_inQ {p now n : List Int} {st : List Int × List (List Int)} (hd : okD p) (h : inQ st) (hn : isP p n = true) (hl : n.length = 2) : inQ (meet now st n) := by
  intro m hm hml hmp
  unfold meet at hmp ⊢
  split
  · rename_i hz
    rw [if_pos hz] at hmp
    dsimp only at hmp ⊢
    by_cases e : cx n = cx m
    · rw [cx_inj hm (inG_of' hd hn) hml hl e.symm]
      exact List.mem_append.2 (.inr (List.mem_singleton.2 rfl))
    · rw [set_get, if_neg (fun h => e h.1)] at hmp
      exact List.mem_append.2 (.inl (h m hm hml hmp))
  · rename_i hz
    rw [if_neg hz] at hmp
    exact h m hm hml hmp
theorem goS_inQ {p now : List Int} {st : List Int × List (List Int)} (hd : okD p) (h : inQ st) : ∀ d, inQ (goS p now st d) := by
  intro d
  induction d with
  | zero => exact h
  | succ d ih =>
    unfold goS
    split
    · rename_i hg
      have hn : isP p (ahead now (d : Int)) = true := by unfold canGo at hg; rw [Bool.and_eq_true] at hg; exact hg.1
      exact meet_inQ hd ih hn (ahead_len _ _)
    · exact ih
theorem stI_all {p b : List Int} (hd : okD p) (hb : isP p b = true) (hbl : b.length = 2) : ∀ i, okQ p i (stI p [b] i) ∧ inQ (stI p [b] i) := by
  intro i
  induction i with
  | zero =>
    refine ⟨fun k hk => by omega, fun n hn hnl hnp => ?_⟩
    have h := (stI_okSt hd hb hbl 0).2 n hn hnl hnp
    have e : (stI p [b] 0).1 = (List.replicate 100 (0:Int)).set (cx b) 1 := rfl
    rw [e, set_get, List.length_replicate] at hnp
    split at hnp
    · rename_i hc
      rw [cx_inj hn (inG_of' hd hb) hnl hbl hc.1.symm]
      exact List.mem_singleton.2 rfl
    · rw [List.getD_eq_getElem?_getD, List.getElem?_replicate] at hnp
      split at hnp <;> (simp only [Option.getD_some, Option.getD_none] at hnp; omega)
  | succ i ih =>
    obtain ⟨h1, h2⟩ := ih
    have hw := WF.stI hd (one_isP hb) i
    unfold stI
    split
    · rename_i hi
      have hm : (stI p [b] i).2.getD i [] ∈ (stI p [b] i).2 := getD_mem hi
      obtain ⟨g1, g2, g3⟩ := goS_hit hd hw (hw.pos _ hm) 4 (Nat.le_refl _)
      obtain ⟨r, er⟩ := goS_pre p ((stI p [b] i).2.getD i []) (stI p [b] i) 4
      refine ⟨fun k hk hkl e he hc => ?_, goS_inQ hd h2 4⟩
      have eq : k < (stI p [b] i).2.length → (goS p ((stI p [b] i).2.getD i []) (stI p [b] i) 4).2.getD k [] = (stI p [b] i).2.getD k [] := fun h => by
        rw [er, List.getD_eq_getElem?_getD, List.getElem?_append_left h, ← List.getD_eq_getElem?_getD]
      by_cases hki : k = i
      · subst hki
        rw [eq hi] at hc ⊢
        exact g3 e he hc
      · have hkl' : k < (stI p [b] i).2.length := by omega
        rw [eq hkl'] at hc ⊢
        exact goS_pos (h1 k (by omega) hkl' e he hc) 4
    · rename_i hi
      refine ⟨fun k hk hkl e he hc => h1 k (by omega) hkl e he hc, h2⟩
theorem bfs_closed {p b n : List Int} (hd : okD p) (hb : isP p b = true) (hbl : b.length = 2) (hn : isP p n = true) (hl : n.length = 2) (hpos : 0 < (bfsD p [b]).getD (cx n) 0) {e : Nat} (he : e < 4) (hc : canGo p n (e : Int) = true) : 0 < (bfsD p [b]).getD (cx (ahead n (e : Int))) 0 := by
  obtain ⟨h1, h2⟩ := stI_all hd hb hbl ([b].length + 101)
  have hw := (WF.stI hd (one_isP hb) ([b].length + 101)).le
  rw [bfsD_eq] at hpos ⊢
  obtain ⟨k, hk, ek⟩ := List.mem_iff_getElem.1 (h2 n (inG_of' hd hn) hl hpos)
  have e2 : (stI p [b] ([b].length + 101)).2.getD k [] = n := by rw [List.getD_eq_getElem?_getD, List.getElem?_eq_getElem hk]; exact ek
  have := h1 k (by omega) hk e he (by rw [e2]; exact hc)
  rw [e2] at this
  exact this
theorem besN_go {p s c : List Int} : ∀ d, c ∈ besN p s d → ∃ e : Nat, e < d ∧ canGo p s (e : Int) = true ∧ c = ahead s (e : Int) := by
  intro d
  induction d with
  | zero => intro h; cases h
  | succ d ih =>
    intro h
    unfold besN at h
    split at h
    · rename_i hg
      rcases List.mem_append.1 h with h | h
      · obtain ⟨e, h1, h2, h3⟩ := ih h
        exact ⟨e, by omega, h2, h3⟩
      · exact ⟨d, by omega, hg, List.mem_singleton.1 h⟩
    · obtain ⟨e, h1, h2, h3⟩ := ih h
      exact ⟨e, by omega, h2, h3⟩
theorem bfs_sym {p a b : List Int} (hd : okD p) (ha : isP p a = true) (hal : a.length = 2) (hb : isP p b = true) (hbl : b.length = 2) (h : 0 < (bfsD p [a]).getD (cx b) 0) : 0 < (bfsD p [b]).getD (cx a) 0 := by
  have key : ∀ (k : Nat) (n : List Int), isP p n = true → n.length = 2 → 0 < (bfsD p [a]).getD (cx n) 0 → (bfsD p [a]).getD (cx n) 0 ≤ k → 0 < (bfsD p [b]).getD (cx n) 0 → 0 < (bfsD p [b]).getD (cx a) 0 := by
    intro k
    induction k with
    | zero => intro n _ _ h1 h2; omega
    | succ k ih =>
      intro n hn hl h1 h2 h3
      rcases bfs_prev hd ha hal hn hl h1 with ⟨rfl, -⟩ | ⟨c, hc, c1, c2, c3, c4⟩
      · exact h3
      · obtain ⟨e, e1, e2, e3⟩ := besN_go 4 hc
        subst e3
        exact ih _ c1 c2 c3 (by omega) (bfs_closed hd hb hbl hn hl h3 e1 e2)
  exact key ((bfsD p [a]).getD (cx b) 0).toNat b hb hbl h (by omega) (bfs_self (inG_isP hd hb))
def cellP (p s : List Int) : Prop := isP p s = true ∧ s.length = 2
abbrev Rch (p : List Int) (rows : List (List Int)) (c : List Int) : Prop := 0 < (bfsD p rows).getD (cx c) 0
theorem goS_mem {p now q : List Int} {st : List Int × List (List Int)} : ∀ d : Nat, q ∈ (goS p now st d).2 → q ∈ st.2 ∨ ∃ e : Nat, e < d ∧ canGo p now (e : Int) = true ∧ q = ahead now (e : Int) := by
  intro d
  induction d with
  | zero => exact .inl
  | succ d ih =>
    intro h
    unfold goS at h
    split at h
    · rename_i hg
      unfold meet at h
      split at h
      · rcases List.mem_append.1 h with h | h
        · rcases ih h with h | ⟨e, h1, h2⟩
          · exact .inl h
          · exact .inr ⟨e, by omega, h2⟩
        · exact .inr ⟨d, by omega, hg, List.mem_singleton.1 h⟩
      · rcases ih h with h | ⟨e, h1, h2⟩
        · exact .inl h
        · exact .inr ⟨e, by omega, h2⟩
    · rcases ih h with h | ⟨e, h1, h2⟩
      · exact .inl h
      · exact .inr ⟨e, by omega, h2⟩
theorem inQ_start {p : List Int} {rows : List (List Int)} (hd : okD p) (hs : ∀ s ∈ rows, cellP p s) : inQ (stI p rows 0) := by
  intro n hn hl hp
  have hg := srcD_get hd (fun s h => (hs s h).1) rows.length (Nat.le_refl _) (cx n)
  have e : (stI p rows 0).1 = srcD rows rows.length := rfl
  rw [e] at hp
  have h1 : (srcD rows rows.length).getD (cx n) 0 = 1 := by rcases hg.1 with h | h <;> omega
  obtain ⟨k, hk, ek⟩ := hg.2.1 h1
  have hm : rows.getD k [] ∈ rows := getD_mem hk
  have := hs _ hm
  rw [cx_inj hn (inG_of' hd this.1) hl this.2 ek.symm]
  exact hm
theorem stI_allR {p : List Int} {rows : List (List Int)} (hd : okD p) (hs : ∀ s ∈ rows, cellP p s) : ∀ i, okQ p i (stI p rows i) ∧ inQ (stI p rows i) := by
  have hs1 : ∀ s ∈ rows, isP p s = true := fun s h => (hs s h).1
  intro i
  induction i with
  | zero => exact ⟨fun k hk => by omega, inQ_start hd hs⟩
  | succ i ih =>
    obtain ⟨h1, h2⟩ := ih
    have hw := WF.stI hd hs1 i
    unfold stI
    split
    · rename_i hi
      have hm : (stI p rows i).2.getD i [] ∈ (stI p rows i).2 := getD_mem hi
      obtain ⟨g1, g2, g3⟩ := goS_hit hd hw (hw.pos _ hm) 4 (Nat.le_refl _)
      obtain ⟨r, er⟩ := goS_pre p ((stI p rows i).2.getD i []) (stI p rows i) 4
      refine ⟨fun k hk hkl e he hc => ?_, goS_inQ hd h2 4⟩
      have eq : k < (stI p rows i).2.length → (goS p ((stI p rows i).2.getD i []) (stI p rows i) 4).2.getD k [] = (stI p rows i).2.getD k [] := fun h => by
        rw [er, List.getD_eq_getElem?_getD, List.getElem?_append_left h, ← List.getD_eq_getElem?_getD]
      by_cases hki : k = i
      · subst hki
        rw [eq hi] at hc ⊢
        exact g3 e he hc
      · have hkl' : k < (stI p rows i).2.length := by omega
        rw [eq hkl'] at hc ⊢
        exact goS_pos (h1 k (by omega) hkl' e he hc) 4
    · rename_i hi
      exact ⟨fun k hk hkl e he hc => h1 k (by omega) hkl e he hc, h2⟩
theorem reach_closed {p n : List Int} {rows : List (List Int)} (hd : okD p) (hs : ∀ s ∈ rows, cellP p s) (hn : cellP p n) (hpos : Rch p rows n) {e : Nat} (he : e < 4) (hc : canGo p n (e : Int) = true) : Rch p rows (ahead n (e : Int)) := by
  obtain ⟨h1, h2⟩ := stI_allR hd hs (rows.length + 101)
  have hw := (WF.stI hd (fun s h => (hs s h).1) (rows.length + 101)).le
  unfold Rch at hpos ⊢
  rw [bfsD_eq] at hpos ⊢
  obtain ⟨k, hk, ek⟩ := List.mem_iff_getElem.1 (h2 n (inG_of' hd hn.1) hn.2 hpos)
  have e2 : (stI p rows (rows.length + 101)).2.getD k [] = n := by rw [List.getD_eq_getElem?_getD, List.getElem?_eq_getElem hk]; exact ek
  have := h1 k (by omega) hk e he (by rw [e2]; exact hc)
  rw [e2] at this
  exact this
theorem reach_src {p : List Int} {rows : List (List Int)} (hd : okD p) (hs : ∀ s ∈ rows, cellP p s) {s : List Int} (h : s ∈ rows) : Rch p rows s := by
  unfold Rch
  rw [bfsD_eq]
  refine stI_pos ?_ _
  obtain ⟨k, hk, e⟩ := List.mem_iff_getElem.1 h
  have := ((srcD_get hd (fun s h => (hs s h).1) rows.length (Nat.le_refl _) (cx s)).2).2 ⟨k, hk, by rw [List.getD_eq_getElem?_getD, List.getElem?_eq_getElem hk]; exact congrArg cx e⟩
  omega
theorem canGo_cell {p n : List Int} {e : Int} (h : canGo p n e = true) : cellP p (ahead n e) := by
  unfold canGo at h
  rw [Bool.and_eq_true] at h
  exact ⟨h.1, ahead_len _ _⟩
/-- What is closed and holds the sources holds all that is reached. -/
theorem reach_min {p : List Int} {rows : List (List Int)} (hd : okD p) (hs : ∀ s ∈ rows, cellP p s) {S : List Int → Prop} (h0 : ∀ s ∈ rows, S s) (hcl : ∀ n, cellP p n → S n → ∀ e : Nat, e < 4 → canGo p n (e : Int) = true → S (ahead n (e : Int)))
    {c : List Int} (hc : cellP p c) (h : Rch p rows c) : S c := by
  have key : ∀ i, ∀ q ∈ (stI p rows i).2, S q ∧ cellP p q := by
    intro i
    induction i with
    | zero => exact fun q hq => ⟨h0 q hq, hs q hq⟩
    | succ i ih =>
      intro q hq
      unfold stI at hq
      split at hq
      · rename_i hi
        obtain ⟨g1, g2⟩ := ih _ (getD_mem (d := []) hi)
        rcases goS_mem 4 hq with h | ⟨e, he, hg, rfl⟩
        · exact ih q h
        · exact ⟨hcl _ g2 g1 e he hg, canGo_cell hg⟩
      · exact ih q hq
  unfold Rch at h
  rw [bfsD_eq] at h
  exact (key _ c ((stI_allR hd hs _).2 c (inG_of' hd hc.1) hc.2 h)).1
theorem one_cell {p s : List Int} (h : cellP p s) : ∀ q ∈ [s], cellP p q := fun q hq => by rw [List.mem_singleton.1 hq]; exact h
theorem reach_refl {p s : List Int} (hd : okD p) (h : cellP p s) : Rch p [s] s := reach_src hd (one_cell h) (List.mem_singleton.2 rfl)
theorem reach_iff {p : List Int} {rows : List (List Int)} (hd : okD p) (hs : ∀ s ∈ rows, cellP p s) {c : List Int} (hc : cellP p c) : Rch p rows c ↔ ∃ s ∈ rows, Rch p [s] c := by
  constructor
  · exact reach_min hd hs (S := fun n => ∃ s ∈ rows, Rch p [s] n) (fun s h => ⟨s, h, reach_refl hd (hs s h)⟩) (fun n hn ⟨s, h1, h2⟩ e he hg => ⟨s, h1, reach_closed hd (one_cell (hs s h1)) hn h2 he hg⟩) hc
  · rintro ⟨s, h1, h2⟩
    exact reach_min hd (one_cell (hs s h1)) (S := fun n => Rch p rows n) (fun q hq => by rw [List.mem_singleton.1 hq]; exact reach_src hd hs h1) (fun n hn h e he hg => reach_closed hd hs hn h he hg) hc h2
theorem reach_trans {p a b c : List Int} (hd : okD p) (ha : cellP p a) (hb : cellP p b) (hc : cellP p c) (h1 : Rch p [a] b) (h2 : Rch p [b] c) : Rch p [a] c :=
  reach_min hd (one_cell hb) (S := fun n => Rch p [a] n) (fun q hq => by rw [List.mem_singleton.1 hq]; exact h1) (fun n hn h e he hg => reach_closed hd (one_cell ha) hn h he hg) hc h2
theorem reach_sym {p a b : List Int} (hd : okD p) (ha : cellP p a) (hb : cellP p b) (h : Rch p [a] b) : Rch p [b] a := bfs_sym hd ha.1 ha.2 hb.1 hb.2 h

/-! Yards. -/
theorem cell_in {p c : List Int} (h : cellP p c) : ∃ x y : Nat, c = [(x : Int), (y : Int)] ∧ x < (p.getD 0 0).toNat ∧ y < (p.getD 1 0).toNat := by
  obtain ⟨h1, h2⟩ := h
  obtain ⟨a, b, rfl⟩ := len2 h2
  unfold isP at h1
  simp only [List.getD_cons_zero, List.getD_cons_succ, decide_eq_true_eq] at h1
  refine ⟨a.toNat, b.toNat, ?_, by omega, by omega⟩
  rw [Int.toNat_of_nonneg (by omega), Int.toNat_of_nonneg (by omega)]
theorem rowF_congr {f g : List Int → Bool} {acc : List (List Int)} {y : Nat} : ∀ x : Nat, (∀ i, i < x → f [(i : Int), (y : Int)] = g [(i : Int), (y : Int)]) → rowF f acc y x = rowF g acc y x := by
  intro x
  induction x with
  | zero => intro _; rfl
  | succ x ih =>
    intro h
    unfold rowF
    rw [ih (fun i hi => h i (by omega)), h x (by omega)]
theorem spotsF_congr {f g : List Int → Bool} {w : Nat} : ∀ y : Nat, (∀ i j, i < w → j < y → f [(i : Int), (j : Int)] = g [(i : Int), (j : Int)]) → spotsF f w y = spotsF g w y := by
  intro y
  induction y with
  | zero => intro _; rfl
  | succ y ih =>
    intro h
    unfold spotsF
    rw [ih (fun i j hi hj => h i j hi (by omega))]
    exact rowF_congr w fun i hi => h i y hi (by omega)
theorem inT_rch {p s c : List Int} (hd : okD p) (hs : cellP p s) (hc : cellP p c) : inT (m1 (bfsD p [s])) c = decide (Rch p [s] c) := by
  have hlen := (bfsD_wf hd (one_isP hs.1)).1
  have hg : (m1 (bfsD p [s])).getD (cx c) 0 = (bfsD p [s]).getD (cx c) 0 - 1 := m1_get (by rw [hlen]; exact cx_lt (inG_of' hd hc.1))
  unfold inT Rch
  rw [decide_eq_decide, hg]
  omega
/-- Cells that reach each other have the same yard. -/
theorem yard_eq {p s c : List Int} (hd : okD p) (hs : cellP p s) (hc : cellP p c) (h : Rch p [s] c) : yardR p c = yardR p s := by
  unfold yardR
  refine spotsF_congr _ fun i j hi hj => ?_
  have hq : cellP p [(i : Int), (j : Int)] := by
    refine ⟨?_, rfl⟩
    unfold isP
    simp only [List.getD_cons_zero, List.getD_cons_succ, decide_eq_true_eq]; omega
  rw [inT_rch hd hc hq, inT_rch hd hs hq, decide_eq_decide]
  exact ⟨fun g => reach_trans hd hs hc hq h g, fun g => reach_trans hd hc hs hq (reach_sym hd hs hc h) g⟩
end Go.Proofs.Ytgogccconmlkiaa
