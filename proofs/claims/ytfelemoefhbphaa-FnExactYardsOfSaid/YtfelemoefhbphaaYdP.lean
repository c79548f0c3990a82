/- The yards of a pasture share no cell. -/
import Derived.Test.YtfelemoefhbphaaWay1
import Derived.Test.YtfelemoefhbphaaFilt
import Derived.Test.YtfelemoefhbphaaYards
namespace Go.Proofs.Ytfelemoefhbphaa
open Go Go.Eng
set_option linter.unusedSimpArgs false
set_option linter.unusedVariables false
set_option maxRecDepth 100000
set_option maxHeartbeats 4000000

theorem take_snocY {α : Type} (l : List α) (d : α) {i : Nat} (h : i < l.length) : l.take (i + 1) = l.take i ++ [l.getD i d] := by
  rw [List.take_add_one, List.getElem?_eq_getElem h, List.getD_eq_getElem?_getD, List.getElem?_eq_getElem h]; rfl
theorem mem_rowF {f : List Int → Bool} {acc : List (List Int)} {y : Nat} {s : List Int} : ∀ {x : Nat}, s ∈ rowF f acc y x ↔ s ∈ acc ∨ ∃ k, k < x ∧ s = [(k : Int), (y : Int)] ∧ f s = true := by
  intro x
  induction x with
  | zero => simp [rowF]
  | succ x ih =>
    unfold rowF
    split
    · rename_i hf
      rw [List.mem_append, List.mem_singleton, ih]
      constructor
      · rintro ((h | ⟨k, h1, h2, h3⟩) | rfl)
        · exact .inl h
        · exact .inr ⟨k, by omega, h2, h3⟩
        · exact .inr ⟨x, by omega, rfl, hf⟩
      · rintro (h | ⟨k, h1, h2, h3⟩)
        · exact .inl (.inl h)
        · rcases Nat.lt_or_ge k x with h | h
          · exact .inl (.inr ⟨k, h, h2, h3⟩)
          · have : k = x := by omega
            subst this; exact .inr h2
    · rename_i hf
      rw [ih]
      constructor
      · rintro (h | ⟨k, h1, h2, h3⟩)
        · exact .inl h
        · exact .inr ⟨k, by omega, h2, h3⟩
      · rintro (h | ⟨k, h1, h2, h3⟩)
        · exact .inl h
        · rcases Nat.lt_or_ge k x with h | h
          · exact .inr ⟨k, h, h2, h3⟩
          · have : k = x := by omega
            subst this; subst h2; exact absurd h3 hf
theorem mem_spotsF {f : List Int → Bool} {w : Nat} {s : List Int} : ∀ {y : Nat}, s ∈ spotsF f w y ↔ ∃ j k : Nat, j < y ∧ k < w ∧ s = [(k : Int), (j : Int)] ∧ f s = true := by
  intro y
  induction y with
  | zero => simp [spotsF]
  | succ y ih =>
    show s ∈ rowF f (spotsF f w y) y w ↔ _
    rw [mem_rowF, ih]
    constructor
    · rintro (⟨j, k, h1, h2, h3⟩ | ⟨k, h1, h2, h3⟩)
      · exact ⟨j, k, by omega, h2, h3⟩
      · exact ⟨y, k, by omega, h1, h2, h3⟩
    · rintro ⟨j, k, h1, h2, h3⟩
      rcases Nat.lt_or_ge j y with h | h
      · exact .inl ⟨j, k, h, h2, h3⟩
      · have : j = y := by omega
        subst this; exact .inr ⟨k, h2, h3⟩

def cellP (p s : List Int) : Prop := isP p s = true ∧ s.length = 2
def Rch (p : List Int) (rows : List (List Int)) (c : List Int) : Prop := 0 < (bfsD p rows).getD (cx c) 0
theorem goS_mem {p now q : List Int} {st : List Int × List (List Int)} : ∀ d : Nat, q ∈ (goS p now st d).2 → q ∈ st.2 ∨ ∃ e : Nat, e < d ∧ canGo p now (e : Int) = true ∧ q = ahead now (e : Int) := by
  intro d
  induction d with
  | zero => exact .inl
  | succ d ih =>
    intro h
    unfold goS at h
    split at h
    · rename_i hg
      unfold meet at h
      split at h
      · rcases List.mem_append.1 h with h | h
        · rcases ih h with h | ⟨e, h1, h2⟩
          · exact .inl h
          · exact .inr ⟨e, by omega, h2⟩
        · exact .inr ⟨d, by omega, hg, List.mem_singleton.1 h⟩
      · rcases ih h with h | ⟨e, h1, h2⟩
        · exact .inl h
        · exact .inr ⟨e, by omega, h2⟩
    · rcases ih h with h | ⟨e, h1, h2⟩
      · exact .inl h
      · exact .inr ⟨e, by omega, h2⟩
theorem inQ_start {p : List Int} {rows : List (List Int)} (hd : okD p) (hs : ∀ s ∈ rows, cellP p s) : inQ (stI p rows 0) := by
  intro n hn hl hp
  have hg := srcD_get hd (fun s h => (hs s h).1) rows.length (Nat.le_refl _) (cx n)
  have e : (stI p rows 0).1 = srcD rows rows.length := rfl
  rw [e] at hp
  have h1 : (srcD rows rows.length).getD (cx n) 0 = 1 := by rcases hg.1 with h | h <;> omega
  obtain ⟨k, hk, ek⟩ := hg.2.1 h1
  have hm : rows.getD k [] ∈ rows := getD_mem hk
  have := hs _ hm
  rw [cx_inj hn (inG_of' hd this.1) hl this.2 ek.symm]
  exact hm
theorem stI_allR {p : List Int} {rows : List (List Int)} (hd : okD p) (hs : ∀ s ∈ rows, cellP p s) : ∀ i, okQ p i (stI p rows i) ∧ inQ (stI p rows i) := by
  have hs1 : ∀ s ∈ rows, isP p s = true := fun s h => (hs s h).1
  intro i
  induction i with
  | zero => exact ⟨fun k hk => by omega, inQ_start hd hs⟩
  | succ i ih =>
    obtain ⟨h1, h2⟩ := ih
    have hw := WF.stI hd hs1 i
    unfold stI
    split
    · rename_i hi
      have hm : (stI p rows i).2.getD i [] ∈ (stI p rows i).2 := getD_mem hi
      obtain ⟨g1, g2, g3⟩ := goS_hit hd hw (hw.pos _ hm) 4 (Nat.le_refl _)
      obtain ⟨r, er⟩ := goS_pre p ((stI p rows i).2.getD i []) (stI p rows i) 4
      refine ⟨fun k hk hkl e he hc => ?_, goS_inQ hd h2 4⟩
      have eq : k < (stI p rows i).2.length → (goS p ((stI p rows i).2.getD i []) (stI p rows i) 4).2.getD k [] = (stI p rows i).2.getD k [] := fun h => by
        rw [er, List.getD_eq_getElem?_getD, List.getElem?_append_left h, ← List.getD_eq_getElem?_getD]
      by_cases hki : k = i
      · subst hki
        rw [eq hi] at hc ⊢
        exact g3 e he hc
      · have hkl' : k < (stI p rows i).2.length := by omega
        rw [eq hkl'] at hc ⊢
        exact goS_pos (h1 k (by omega) hkl' e he hc) 4
    · rename_i hi
      exact ⟨fun k hk hkl e he hc => h1 k (by omega) hkl e he hc, h2⟩
theorem reach_closed {p n : List Int} {rows : List (List Int)} (hd : okD p) (hs : ∀ s ∈ rows, cellP p s) (hn : cellP p n) (hpos : Rch p rows n) {e : Nat} (he : e < 4) (hc : canGo p n (e : Int) = true) : Rch p rows (ahead n (e : Int)) := by
  obtain ⟨h1, h2⟩ := stI_allR hd hs (rows.length + 101)
  have hw := (WF.stI hd (fun s h => (hs s h).1) (rows.length + 101)).le
  unfold Rch at hpos ⊢
  rw [bfsD_eq] at hpos ⊢
  obtain ⟨k, hk, ek⟩ := List.mem_iff_getElem.1 (h2 n (inG_of' hd hn.1) hn.2 hpos)
  have e2 : (stI p rows (rows.length + 101)).2.getD k [] = n := by rw [List.getD_eq_getElem?_getD, List.getElem?_eq_getElem hk]; exact ek
  have := h1 k (by omega) hk e he (by rw [e2]; exact hc)
  rw [e2] at this
  exact this
theorem reach_src {p : List Int} {rows : List (List Int)} (hd : okD p) (hs : ∀ s ∈ rows, cellP p s) {s : List Int} (h : s ∈ rows) : Rch p rows s := by
  unfold Rch
  rw [bfsD_eq]
  refine stI_pos ?_ _
  obtain ⟨k, hk, e⟩ := List.mem_iff_getElem.1 h
  have := ((srcD_get hd (fun s h => (hs s h).1) rows.length (Nat.le_refl _) (cx s)).2).2 ⟨k, hk, by rw [List.getD_eq_getElem?_getD, List.getElem?_eq_getElem hk]; exact congrArg cx e⟩
  omega
theorem canGo_cell {p n : List Int} {e : Int} (h : canGo p n e = true) : cellP p (ahead n e) := by
  unfold canGo at h
  rw [Bool.and_eq_true] at h
  exact ⟨h.1, ahead_len _ _⟩
/-- What is closed and holds the sources holds all that is reached. -/
theorem reach_min {p : List Int} {rows : List (List Int)} (hd : okD p) (hs : ∀ s ∈ rows, cellP p s) {S : List Int → Prop} (h0 : ∀ s ∈ rows, S s) (hcl : ∀ n, cellP p n → S n → ∀ e : Nat, e < 4 → canGo p n (e : Int) = true → S (ahead n (e : Int)))
    {c : List Int} (hc : cellP p c) (h : Rch p rows c) : S c := by
  have key : ∀ i, ∀ q ∈ (stI p rows i).2, S q ∧ cellP p q := by
    intro i
    induction i with
    | zero => exact fun q hq => ⟨h0 q hq, hs q hq⟩
    | succ i ih =>
      intro q hq
      unfold stI at hq
      split at hq
      · rename_i hi
        obtain ⟨g1, g2⟩ := ih _ (getD_mem (d := []) hi)
        rcases goS_mem 4 hq with h | ⟨e, he, hg, rfl⟩
        · exact ih q h
        · exact ⟨hcl _ g2 g1 e he hg, canGo_cell hg⟩
      · exact ih q hq
  unfold Rch at h
  rw [bfsD_eq] at h
  exact (key _ c ((stI_allR hd hs _).2 c (inG_of' hd hc.1) hc.2 h)).1
theorem one_cell {p s : List Int} (h : cellP p s) : ∀ q ∈ [s], cellP p q := fun q hq => by rw [List.mem_singleton.1 hq]; exact h
theorem reach_refl {p s : List Int} (hd : okD p) (h : cellP p s) : Rch p [s] s := reach_src hd (one_cell h) (List.mem_singleton.2 rfl)
theorem reach_iff {p : List Int} {rows : List (List Int)} (hd : okD p) (hs : ∀ s ∈ rows, cellP p s) {c : List Int} (hc : cellP p c) : Rch p rows c ↔ ∃ s ∈ rows, Rch p [s] c := by
  constructor
  · exact reach_min hd hs (S := fun n => ∃ s ∈ rows, Rch p [s] n) (fun s h => ⟨s, h, reach_refl hd (hs s h)⟩) (fun n hn ⟨s, h1, h2⟩ e he hg => ⟨s, h1, reach_closed hd (one_cell (hs s h1)) hn h2 he hg⟩) hc
  · rintro ⟨s, h1, h2⟩
    exact reach_min hd (one_cell (hs s h1)) (S := fun n => Rch p rows n) (fun q hq => by rw [List.mem_singleton.1 hq]; exact reach_src hd hs h1) (fun n hn h e he hg => reach_closed hd hs hn h he hg) hc h2
theorem reach_trans {p a b c : List Int} (hd : okD p) (ha : cellP p a) (hb : cellP p b) (hc : cellP p c) (h1 : Rch p [a] b) (h2 : Rch p [b] c) : Rch p [a] c :=
  reach_min hd (one_cell hb) (S := fun n => Rch p [a] n) (fun q hq => by rw [List.mem_singleton.1 hq]; exact h1) (fun n hn h e he hg => reach_closed hd (one_cell ha) hn h he hg) hc h2
theorem reach_sym {p a b : List Int} (hd : okD p) (ha : cellP p a) (hb : cellP p b) (h : Rch p [a] b) : Rch p [b] a := bfs_sym hd ha.1 ha.2 hb.1 hb.2 h

/-! Yards. -/
theorem spot_of {p s : List Int} (h : cellP p s) : ∃ x y : Nat, s = [(x : Int), (y : Int)] ∧ x < (p.getD 0 0).toNat ∧ y < (p.getD 1 0).toNat := spot_nat h.1 h.2
theorem mem_yard {p s c : List Int} (hd : okD p) (hs : cellP p s) (hc : cellP p c) : c ∈ yardR p s ↔ Rch p [s] c := by
  have hlen := (bfsD_wf hd (one_isP hs.1)).1
  have hg : (m1 (bfsD p [s])).getD (cx c) 0 = (bfsD p [s]).getD (cx c) 0 - 1 := m1_get (by rw [hlen]; exact cx_lt (inG_of' hd hc.1))
  obtain ⟨x, y, e, hx, hy⟩ := spot_of hc
  unfold yardR
  rw [mem_spotsF]
  unfold inT Rch
  rw [decide_eq_true_eq, hg]
  constructor
  · rintro ⟨-, -, -, -, -, h⟩; omega
  · intro h; exact ⟨y, x, hy, hx, e, by omega⟩
theorem yard_cells {p s : List Int} (hd : okD p) : ∀ c ∈ yardR p s, cellP p c := by
  intro c hc
  obtain ⟨j, k, hj, hk, rfl, -⟩ := mem_spotsF.1 hc
  refine ⟨?_, rfl⟩
  unfold isP
  rw [decide_eq_true_eq]
  simp only [List.getD_cons_zero, List.getD_cons_succ]
  omega
theorem putT_get {p : List Int} {T : List Int} (hd : okD p) (hT : T.length = 100) {v : Int} {rows : List (List Int)} (hr : ∀ s ∈ rows, cellP p s) {c : List Int} (hc : cellP p c) : ∀ i, i ≤ rows.length → (putT T v rows i).getD (cx c) 0 = if c ∈ rows.take i then v else T.getD (cx c) 0 := by
  intro i
  induction i with
  | zero => intro _; simp [putT]
  | succ i ih =>
    intro hi
    have hm := hr _ (getD_mem (d := []) (show i < rows.length by omega))
    unfold putT
    rw [set_get, putT_len, hT, ih (by omega), take_snocY rows [] (by omega)]
    by_cases e : cx (rows.getD i []) = cx c
    · have e2 := cx_inj (inG_of' hd hm.1) (inG_of' hd hc.1) hm.2 hc.2 e
      rw [if_pos ⟨e, cx_lt (inG_of' hd hc.1)⟩, if_pos (List.mem_append_right _ (List.mem_singleton.2 e2.symm))]
    · rw [if_neg (fun h => e h.1)]
      by_cases h : c ∈ rows.take i
      · rw [if_pos h, if_pos (List.mem_append_left _ h)]
      · rw [if_neg h, if_neg (fun g => by
          rcases List.mem_append.1 g with g | g
          · exact h g
          · rw [List.mem_singleton] at g; exact e (by rw [g]))]

structure DisY (p : List Int) (S : YS) : Prop where
  len : S.1.length = 100
  rng : ∀ c, cellP p c → 0 ≤ S.1.getD (cx c) 0
  yd : ∀ Y ∈ S.2.1, ∃ c, cellP p c ∧ Y = yardR p c
  pos : ∀ Y ∈ S.2.1, ∀ s ∈ Y, 0 < S.1.getD (cx s) 0
  dis : S.2.1.Pairwise fun Y Z => ∀ s, s ∈ Y → s ∉ Z
theorem yard_same {p a s : List Int} (hd : okD p) (ha : cellP p a) (hs : cellP p s) (h : s ∈ yardR p a) {c : List Int} (hc : cellP p c) : c ∈ yardR p a ↔ c ∈ yardR p s := by
  have h1 := (mem_yard hd ha hs).1 h
  rw [mem_yard hd ha hc, mem_yard hd hs hc]
  exact ⟨fun g => reach_trans hd hs ha hc (reach_sym hd ha hs h1) g, fun g => reach_trans hd ha hs hc h1 g⟩
theorem DisY.step {p : List Int} (hd : okD p) {S : YS} (h : DisY p S) {s : List Int} (hs : cellP p s) : DisY p (ySt p S s) := by
  unfold ySt
  split
  · exact h
  rename_i hz
  have hyc := yard_cells (p := p) (s := s) hd
  have hg : ∀ c, cellP p c → (putT S.1 ((S.2.1 ++ [yardR p s]).length : Int) (yardR p s) (yardR p s).length).getD (cx c) 0 = if c ∈ yardR p s then ((S.2.1 ++ [yardR p s]).length : Int) else S.1.getD (cx c) 0 := fun c hc => by
    have := putT_get (v := ((S.2.1 ++ [yardR p s]).length : Int)) hd h.len hyc hc _ (Nat.le_refl _)
    rwa [List.take_length] at this
  have hl : ((S.2.1 ++ [yardR p s]).length : Int) = S.2.1.length + 1 := by simp
  have hcell : ∀ Y ∈ S.2.1, ∀ c ∈ Y, cellP p c := fun Y hY c hc => by
    obtain ⟨a, ha, rfl⟩ := h.yd Y hY
    exact yard_cells hd c hc
  refine ⟨by rw [putT_len]; exact h.len, fun c hc => ?_, fun Y hY => ?_, fun Y hY c hc => ?_, ?_⟩
  · dsimp only
    rw [hg c hc]
    have := h.rng c hc
    split <;> omega
  · rcases List.mem_append.1 hY with hY | hY
    · exact h.yd Y hY
    · exact ⟨s, hs, List.mem_singleton.1 hY⟩
  · dsimp only
    rcases List.mem_append.1 hY with hY | hY
    · rw [hg c (hcell Y hY c hc)]
      have := h.pos Y hY c hc
      split <;> omega
    · rw [List.mem_singleton] at hY
      subst hY
      rw [hg c (hyc c hc), if_pos hc]; omega
  · refine List.pairwise_append.2 ⟨h.dis, List.pairwise_singleton _ _, fun Y hY Z hZ c hc hc' => ?_⟩
    rw [List.mem_singleton] at hZ
    subst hZ
    have hcc := hyc c hc'
    obtain ⟨a, ha, rfl⟩ := h.yd Y hY
    have e1 := yard_same hd ha hcc hc hs
    have e2 := yard_same hd hs hcc hc' hs
    have hss : s ∈ yardR p s := (mem_yard hd hs hs).2 (reach_refl hd hs)
    have := h.pos _ hY s (e1.2 (e2.1 hss))
    exact hz this
theorem DisY.fold {p : List Int} (hd : okD p) : ∀ (l : List (List Int)) (S : YS), (∀ s ∈ l, cellP p s) → DisY p S → DisY p (l.foldl (ySt p) S) := by
  intro l
  induction l with
  | nil => intro S _ h; exact h
  | cons a l ih => intro S hl h; exact ih _ (fun s hs => hl s (List.mem_cons_of_mem _ hs)) (h.step hd (hl a List.mem_cons_self))
theorem DisY.start (p : List Int) : DisY p (List.replicate 100 0, [], []) := by
  have z : ∀ j, (List.replicate 100 (0 : Int)).getD j 0 = 0 := fun j => by
    rw [List.getD_eq_getElem?_getD, List.getElem?_replicate]; split <;> rfl
  exact ⟨List.length_replicate, fun c _ => (by dsimp only; rw [z]; exact Int.le_refl _), fun Y h => (by cases h), fun Y h => (by cases h), List.Pairwise.nil⟩
/-- The yards: none is empty, and no two share a cell. -/
theorem yards_dis {p : List Int} (hd : okD p) : (∀ Y ∈ yL p (spots p), Y ≠ []) ∧ (yL p (spots p)).Pairwise fun Y Z => ∀ s, s ∈ Y → s ∉ Z := by
  have h := DisY.fold hd (spots p) _ (fun s hs => spots_in hd s hs) (DisY.start p)
  refine ⟨fun Y hY e => ?_, h.dis⟩
  obtain ⟨c, hc, rfl⟩ := h.yd Y hY
  have := (mem_yard hd hc hc).2 (reach_refl hd hc)
  rw [e] at this; cases this
end Go.Proofs.Ytfelemoefhbphaa
