/- Reached one from the other, reached the other from the one. -/
import Derived.Test.YtfelemoefhbphaaWay0
import Derived.Test.YtfelemoefhbphaaNames
namespace Go.Proofs.Ytfelemoefhbphaa
open Go Go.Eng
set_option linter.unusedSimpArgs false
set_option linter.unusedVariables false
set_option maxRecDepth 100000
set_option maxHeartbeats 4000000

theorem meet_pre (now : List Int) (st : List Int × List (List Int)) (n : List Int) : ∃ r, (meet now st n).2 = st.2 ++ r := by
  unfold meet
  split
  · exact ⟨_, rfl⟩
  · exact ⟨[], (List.append_nil _).symm⟩
theorem goS_pre (p now : List Int) (st : List Int × List (List Int)) : ∀ d, ∃ r, (goS p now st d).2 = st.2 ++ r := by
  intro d
  induction d with
  | zero => exact ⟨[], (List.append_nil _).symm⟩
  | succ d ih =>
    obtain ⟨r, e⟩ := ih
    unfold goS
    split
    · obtain ⟨r2, e2⟩ := meet_pre now (goS p now st d) (ahead now d)
      exact ⟨r ++ r2, by rw [e2, e, List.append_assoc]⟩
    · exact ⟨r, e⟩
theorem meet_hit {p now n : List Int} {k : Nat} {st : List Int × List (List Int)} (hd : okD p) (hw : WF p k st) (hn : isP p n = true) (hpos : 0 < st.1.getD (cx now) 0) : 0 < (meet now st n).1.getD (cx n) 0 := by
  have hlt := cx_lt (inG_of' hd hn)
  have hr := hw.rng (cx n)
  unfold meet
  split
  · dsimp only
    rw [set_get, if_pos ⟨rfl, by rw [hw.len]; exact hlt⟩]; omega
  · omega
theorem goS_hit {p now : List Int} {k : Nat} {st : List Int × List (List Int)} (hd : okD p) (hw : WF p k st) (hpos : 0 < st.1.getD (cx now) 0) : ∀ d, d ≤ 4 → WF p k (goS p now st d) ∧ 0 < (goS p now st d).1.getD (cx now) 0 ∧ ∀ e : Nat, e < d → canGo p now (e : Int) = true → 0 < (goS p now st d).1.getD (cx (ahead now (e : Int))) 0 := by
  intro d
  induction d with
  | zero => intro _; exact ⟨hw, hpos, fun e he => by omega⟩
  | succ d ih =>
    intro h4
    obtain ⟨i1, i2, i3⟩ := ih (by omega)
    unfold goS
    split
    · rename_i hg
      have hn : isP p (ahead now (d : Int)) = true := by unfold canGo at hg; rw [Bool.and_eq_true] at hg; exact hg.1
      refine ⟨i1.meet hd hn, meet_pos i2, fun e he hc => ?_⟩
      by_cases hed : e = d
      · subst hed; exact meet_hit hd i1 hn i2
      · exact meet_pos (i3 e (by omega) hc)
    · rename_i hg
      refine ⟨i1, i2, fun e he hc => ?_⟩
      by_cases hed : e = d
      · subst hed; exact absurd hc hg
      · exact i3 e (by omega) hc

/-- What was worked off has all its neighbours numbered; what is numbered stands in the queue. -/
def okQ (p : List Int) (i : Nat) (st : List Int × List (List Int)) : Prop := (∀ k, k < i → k < st.2.length → ∀ e : Nat, e < 4 → canGo p (st.2.getD k []) (e : Int) = true → 0 < st.1.getD (cx (ahead (st.2.getD k []) (e : Int))) 0)
def inQ (st : List Int × List (List Int)) : Prop := ∀ n, inG n → n.length = 2 → 0 < st.1.getD (cx n) 0 → n ∈ st.2
theorem meet_inQ {p now n : List Int} {st : List Int × List (List Int)} (hd : okD p) (h : inQ st) (hn : isP p n = true) (hl : n.length = 2) : inQ (meet now st n) := by
  intro m hm hml hmp
  unfold meet at hmp ⊢
  split
  · rename_i hz
    rw [if_pos hz] at hmp
    dsimp only at hmp ⊢
    by_cases e : cx n = cx m
    · rw [cx_inj hm (inG_of' hd hn) hml hl e.symm]
      exact List.mem_append.2 (.inr (List.mem_singleton.2 rfl))
    · rw [set_get, if_neg (fun h => e h.1)] at hmp
      exact List.mem_append.2 (.inl (h m hm hml hmp))
  · rename_i hz
    rw [if_neg hz] at hmp
    exact h m hm hml hmp
theorem goS_inQ {p now : List Int} {st : List Int × List (List Int)} (hd : okD p) (h : inQ st) : ∀ d, inQ (goS p now st d) := by
  intro d
  induction d with
  | zero => exact h
  | succ d ih =>
    unfold goS
    split
    · rename_i hg
      have hn : isP p (ahead now (d : Int)) = true := by unfold canGo at hg; rw [Bool.and_eq_true] at hg; exact hg.1
      exact meet_inQ hd ih hn (ahead_len _ _)
    · exact ih
theorem stI_all {p b : List Int} (hd : okD p) (hb : isP p b = true) (hbl : b.length = 2) : ∀ i, okQ p i (stI p [b] i) ∧ inQ (stI p [b] i) := by
  intro i
  induction i with
  | zero =>
    refine ⟨fun k hk => by omega, fun n hn hnl hnp => ?_⟩
    have h := (stI_okSt hd hb hbl 0).2 n hn hnl hnp
    have e : (stI p [b] 0).1 = (List.replicate 100 (0:Int)).set (cx b) 1 := rfl
    rw [e, set_get, List.length_replicate] at hnp
    split at hnp
    · rename_i hc
      rw [cx_inj hn (inG_of' hd hb) hnl hbl hc.1.symm]
      exact List.mem_singleton.2 rfl
    · rw [List.getD_eq_getElem?_getD, List.getElem?_replicate] at hnp
      split at hnp <;> (simp only [Option.getD_some, Option.getD_none] at hnp; omega)
  | succ i ih =>
    obtain ⟨h1, h2⟩ := ih
    have hw := WF.stI hd (one_isP hb) i
    unfold stI
    split
    · rename_i hi
      have hm : (stI p [b] i).2.getD i [] ∈ (stI p [b] i).2 := getD_mem hi
      obtain ⟨g1, g2, g3⟩ := goS_hit hd hw (hw.pos _ hm) 4 (Nat.le_refl _)
      obtain ⟨r, er⟩ := goS_pre p ((stI p [b] i).2.getD i []) (stI p [b] i) 4
      refine ⟨fun k hk hkl e he hc => ?_, goS_inQ hd h2 4⟩
      have eq : k < (stI p [b] i).2.length → (goS p ((stI p [b] i).2.getD i []) (stI p [b] i) 4).2.getD k [] = (stI p [b] i).2.getD k [] := fun h => by
        rw [er, List.getD_eq_getElem?_getD, List.getElem?_append_left h, ← List.getD_eq_getElem?_getD]
      by_cases hki : k = i
      · subst hki
        rw [eq hi] at hc ⊢
        exact g3 e he hc
      · have hkl' : k < (stI p [b] i).2.length := by omega
        rw [eq hkl'] at hc ⊢
        exact goS_pos (h1 k (by omega) hkl' e he hc) 4
    · rename_i hi
      refine ⟨fun k hk hkl e he hc => h1 k (by omega) hkl e he hc, h2⟩
theorem bfs_closed {p b n : List Int} (hd : okD p) (hb : isP p b = true) (hbl : b.length = 2) (hn : isP p n = true) (hl : n.length = 2) (hpos : 0 < (bfsD p [b]).getD (cx n) 0) {e : Nat} (he : e < 4) (hc : canGo p n (e : Int) = true) : 0 < (bfsD p [b]).getD (cx (ahead n (e : Int))) 0 := by
  obtain ⟨h1, h2⟩ := stI_all hd hb hbl ([b].length + 101)
  have hw := (WF.stI hd (one_isP hb) ([b].length + 101)).le
  rw [bfsD_eq] at hpos ⊢
  obtain ⟨k, hk, ek⟩ := List.mem_iff_getElem.1 (h2 n (inG_of' hd hn) hl hpos)
  have e2 : (stI p [b] ([b].length + 101)).2.getD k [] = n := by rw [List.getD_eq_getElem?_getD, List.getElem?_eq_getElem hk]; exact ek
  have := h1 k (by omega) hk e he (by rw [e2]; exact hc)
  rw [e2] at this
  exact this
theorem besN_go {p s c : List Int} : ∀ d, c ∈ besN p s d → ∃ e : Nat, e < d ∧ canGo p s (e : Int) = true ∧ c = ahead s (e : Int) := by
  intro d
  induction d with
  | zero => intro h; cases h
  | succ d ih =>
    intro h
    unfold besN at h
    split at h
    · rename_i hg
      rcases List.mem_append.1 h with h | h
      · obtain ⟨e, h1, h2, h3⟩ := ih h
        exact ⟨e, by omega, h2, h3⟩
      · exact ⟨d, by omega, hg, List.mem_singleton.1 h⟩
    · obtain ⟨e, h1, h2, h3⟩ := ih h
      exact ⟨e, by omega, h2, h3⟩
theorem bfs_sym {p a b : List Int} (hd : okD p) (ha : isP p a = true) (hal : a.length = 2) (hb : isP p b = true) (hbl : b.length = 2) (h : 0 < (bfsD p [a]).getD (cx b) 0) : 0 < (bfsD p [b]).getD (cx a) 0 := by
  have key : ∀ (k : Nat) (n : List Int), isP p n = true → n.length = 2 → 0 < (bfsD p [a]).getD (cx n) 0 → (bfsD p [a]).getD (cx n) 0 ≤ k → 0 < (bfsD p [b]).getD (cx n) 0 → 0 < (bfsD p [b]).getD (cx a) 0 := by
    intro k
    induction k with
    | zero => intro n _ _ h1 h2; omega
    | succ k ih =>
      intro n hn hl h1 h2 h3
      rcases bfs_prev hd ha hal hn hl h1 with ⟨rfl, -⟩ | ⟨c, hc, c1, c2, c3, c4⟩
      · exact h3
      · obtain ⟨e, e1, e2, e3⟩ := besN_go 4 hc
        subst e3
        exact ih _ c1 c2 c3 (by omega) (bfs_closed hd hb hbl hn hl h3 e1 e2)
  exact key ((bfsD p [a]).getD (cx b) 0).toNat b hb hbl h (by omega) (bfs_self (inG_isP hd hb))
end Go.Proofs.Ytfelemoefhbphaa
