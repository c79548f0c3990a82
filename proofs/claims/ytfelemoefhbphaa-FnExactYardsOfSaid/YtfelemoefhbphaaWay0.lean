/- Shortest ways: from every cell that is reached a step leads nearer. -/
import Derived.Test.YtfelemoefhbphaaBfs
import Derived.Test.YtfelemoefhbphaaHas
namespace Go.Proofs.Ytfelemoefhbphaa
open Go Go.Eng
set_option linter.unusedSimpArgs false
set_option linter.unusedVariables false
set_option maxRecDepth 100000
set_option maxHeartbeats 4000000

/-- Every numbered cell is the start, or was met from one that is one nearer. -/
def okSt (p b : List Int) (st : List Int × List (List Int)) : Prop := (∀ q ∈ st.2, q.length = 2) ∧
  ∀ n, inG n → n.length = 2 → 0 < st.1.getD (cx n) 0 → (n = b ∧ st.1.getD (cx n) 0 = 1) ∨ ∃ (m : List Int) (d : Nat), isP p m = true ∧ m.length = 2 ∧ d < 4 ∧ canGo p m (d : Int) = true ∧ n = ahead m (d : Int) ∧ 0 < st.1.getD (cx m) 0 ∧ st.1.getD (cx m) 0 + 1 = st.1.getD (cx n) 0

theorem meet_okSt {p b now : List Int} {k : Nat} {st : List Int × List (List Int)} (hd : okD p) (hw : WF p k st) (h : okSt p b st) (hp : isP p now = true) (hl : now.length = 2) (hpos : 0 < st.1.getD (cx now) 0) {d : Nat} (hdl : d < 4) (hg : canGo p now (d : Int) = true) : okSt p b (meet now st (ahead now (d : Int))) ∧ 0 < (meet now st (ahead now (d : Int))).1.getD (cx now) 0 := by
  have hn : isP p (ahead now (d : Int)) = true := by unfold canGo at hg; rw [Bool.and_eq_true] at hg; exact hg.1
  have hnG := inG_of' hd hn
  have hlt := cx_lt hnG
  unfold meet
  split
  · rename_i hz
    have hne : cx (ahead now (d : Int)) ≠ cx now := fun e => by rw [e] at hz; omega
    have keep : ∀ j, 0 < st.1.getD j 0 → (st.1.set (cx (ahead now (d : Int))) (st.1.getD (cx now) 0 + 1)).getD j 0 = st.1.getD j 0 := fun j hj => by
      rw [set_get, if_neg]
      rintro ⟨e, -⟩
      rw [e] at hz; omega
    have hit : (st.1.set (cx (ahead now (d : Int))) (st.1.getD (cx now) 0 + 1)).getD (cx (ahead now (d : Int))) 0 = st.1.getD (cx now) 0 + 1 := by
      rw [set_get, if_pos ⟨rfl, by rw [hw.len]; exact hlt⟩]
    refine ⟨⟨fun q hq => ?_, fun n hnn hnl hnp => ?_⟩, by dsimp only; rw [keep _ hpos]; exact hpos⟩
    · rcases List.mem_append.1 hq with hq | hq
      · exact h.1 q hq
      · rw [List.mem_singleton.1 hq]; exact ahead_len _ _
    · dsimp only at hnp ⊢
      by_cases e : cx n = cx (ahead now (d : Int))
      · have e2 := cx_inj hnn hnG hnl (ahead_len _ _) e
        subst e2
        refine .inr ⟨now, d, hp, hl, hdl, hg, rfl, ?_, ?_⟩
        · rw [keep _ hpos]; exact hpos
        · rw [keep _ hpos, hit]
      · have e3 : (st.1.set (cx (ahead now (d : Int))) (st.1.getD (cx now) 0 + 1)).getD (cx n) 0 = st.1.getD (cx n) 0 := by
          rw [set_get, if_neg (fun h => e h.1.symm)]
        rw [e3] at hnp ⊢
        rcases h.2 n hnn hnl hnp with h1 | ⟨m, d', g1, g2, g3, g4, g5, g6, g7⟩
        · exact .inl h1
        · exact .inr ⟨m, d', g1, g2, g3, g4, g5, by rw [keep _ g6]; exact g6, by rw [keep _ g6]; exact g7⟩
  · exact ⟨h, hpos⟩
theorem goS_okSt {p b now : List Int} {k : Nat} {st : List Int × List (List Int)} (hd : okD p) (hw : WF p k st) (h : okSt p b st) (hp : isP p now = true) (hl : now.length = 2) (hpos : 0 < st.1.getD (cx now) 0) : ∀ d, d ≤ 4 → WF p k (goS p now st d) ∧ okSt p b (goS p now st d) ∧ 0 < (goS p now st d).1.getD (cx now) 0 := by
  intro d
  induction d with
  | zero => intro _; exact ⟨hw, h, hpos⟩
  | succ d ih =>
    intro hd4
    obtain ⟨i1, i2, i3⟩ := ih (by omega)
    unfold goS
    split
    · rename_i hg
      have hn : isP p (ahead now (d : Int)) = true := by unfold canGo at hg; rw [Bool.and_eq_true] at hg; exact hg.1
      obtain ⟨j1, j2⟩ := meet_okSt hd i1 i2 hp hl i3 (by omega) hg
      exact ⟨i1.meet hd hn, j1, j2⟩
    · exact ⟨i1, i2, i3⟩
theorem stI_okSt {p b : List Int} (hd : okD p) (hb : isP p b = true) (hbl : b.length = 2) : ∀ i, okSt p b (stI p [b] i) := by
  intro i
  induction i with
  | zero =>
    refine ⟨fun q hq => by rw [List.mem_singleton.1 hq]; exact hbl, fun n hn hnl hnp => .inl ?_⟩
    have hbG := inG_of' hd hb
    have hg : ∀ j, ((List.replicate 100 (0:Int)).set (cx b) 1).getD j 0 = if cx b = j ∧ j < 100 then 1 else 0 := fun j => by
      rw [set_get, List.length_replicate]
      split
      · rfl
      · rw [List.getD_eq_getElem?_getD, List.getElem?_replicate]; split <;> rfl
    have e : (stI p [b] 0).1 = (List.replicate 100 (0:Int)).set (cx b) 1 := rfl
    rw [e, hg] at hnp ⊢
    split at hnp
    · rename_i hc
      exact ⟨cx_inj hn hbG hnl hbl hc.1.symm, if_pos hc⟩
    · omega
  | succ i ih =>
    have hw := WF.stI hd (one_isP hb) i
    unfold stI
    split
    · rename_i hi
      have hm : (stI p [b] i).2.getD i [] ∈ (stI p [b] i).2 := by rw [List.getD_eq_getElem?_getD, List.getElem?_eq_getElem hi]; exact List.getElem_mem _
      exact (goS_okSt hd hw ih (hw.cells _ hm) (ih.1 _ hm) (hw.pos _ hm) 4 (Nat.le_refl _)).2.1
    · exact ih

theorem go_back {p m : List Int} {d : Nat} (hm : isP p m = true) (hl : m.length = 2) (hd : d < 4) (h : canGo p m (d : Int) = true) : ∃ d' : Nat, d' < 4 ∧ canGo p (ahead m (d : Int)) (d' : Int) = true ∧ ahead (ahead m (d : Int)) (d' : Int) = m := by
  obtain ⟨a, b, rfl⟩ := len2 hl
  have key : ∀ d' : Nat, d' < 4 → ahead (ahead [a, b] (d : Int)) (d' : Int) = [a, b] → hurdleAt (ahead [a, b] (d : Int)) (d' : Int) = hurdleAt [a, b] (d : Int) → ∃ d' : Nat, d' < 4 ∧ canGo p (ahead [a, b] (d : Int)) (d' : Int) = true ∧ ahead (ahead [a, b] (d : Int)) (d' : Int) = [a, b] := fun d' h1 h2 h3 => by
    refine ⟨d', h1, ?_, h2⟩
    unfold canGo at h ⊢
    rw [Bool.and_eq_true] at h
    rw [h2, h3, hm, h.2]; rfl
  have hcase : d = 0 ∨ d = 1 ∨ d = 2 ∨ d = 3 := by omega
  rcases hcase with rfl | rfl | rfl | rfl
  · refine key 2 (by omega) ?_ ?_ <;> simp [ahead, hurdleAt]
  · refine key 3 (by omega) ?_ ?_ <;> simp [ahead, hurdleAt]
  · refine key 0 (by omega) ?_ ?_ <;> simp [ahead, hurdleAt]
  · refine key 1 (by omega) ?_ ?_ <;> simp [ahead, hurdleAt]

theorem besN_mem {p s : List Int} {d' : Nat} (h : canGo p s (d' : Int) = true) : ∀ d, d' < d → ahead s (d' : Int) ∈ besN p s d := by
  intro d
  induction d with
  | zero => intro h; omega
  | succ d ih =>
    intro hd
    unfold besN
    by_cases e : d' = d
    · subst e
      rw [if_pos h]
      exact List.mem_append.2 (.inr (List.mem_singleton.2 rfl))
    · split
      · exact List.mem_append.2 (.inl (ih (by omega)))
      · exact ih (by omega)

/-- From a cell that is reached, not the start, a step leads one nearer. -/
theorem bfs_prev {p b s : List Int} (hd : okD p) (hb : isP p b = true) (hbl : b.length = 2) (hs : isP p s = true) (hl : s.length = 2) (hpos : 0 < (bfsD p [b]).getD (cx s) 0) :
    (s = b ∧ (bfsD p [b]).getD (cx s) 0 = 1) ∨ ∃ c ∈ besN p s 4, isP p c = true ∧ c.length = 2 ∧ 0 < (bfsD p [b]).getD (cx c) 0 ∧ (bfsD p [b]).getD (cx c) 0 = (bfsD p [b]).getD (cx s) 0 - 1 := by
  have h := stI_okSt hd hb hbl ([b].length + 101)
  rw [bfsD_eq] at hpos ⊢
  rcases h.2 s (inG_of' hd hs) hl hpos with h1 | ⟨m, d, g1, g2, g3, g4, g5, g6, g7⟩
  · exact .inl h1
  · obtain ⟨d', k1, k2, k3⟩ := go_back g1 g2 g3 g4
    rw [← g5] at k2 k3
    refine .inr ⟨m, ?_, g1, g2, g6, by omega⟩
    have := besN_mem k2 4 k1
    rw [k3] at this
    exact this
end Go.Proofs.Ytfelemoefhbphaa
