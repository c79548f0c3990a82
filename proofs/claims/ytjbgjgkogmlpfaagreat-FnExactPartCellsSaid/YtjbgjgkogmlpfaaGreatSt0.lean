/- The start of the spec's search: the cells of a table, in order. -/
import Derived.Test.YtjbgjgkogmlpfaaGreatFlP
namespace Go.Proofs.YtjbgjgkogmlpfaaGreat
open Go Go.Eng
set_option linter.unusedSimpArgs false
set_option linter.unusedVariables false
open Go.Proofs.YtjbgjgkogmlpfaaGreat.Fl (cl isC GoOk BS BOk ix)
set_option maxRecDepth 100000
set_option maxHeartbeats 4000000

def fil1 (a : List Int) (y : Nat) (st : BS) : Nat → BS
  | 0 => st
  | x + 1 => if a.getD (y * 10 + x) 0 ≠ 0 then ((fil1 a y st x).1.set (y * 10 + x) 1, (fil1 a y st x).2.1.set (y * 10 + x) (-1), (fil1 a y st x).2.2 ++ [[(x : Int), (y : Int)]]) else fil1 a y st x
def filY (w : Nat) (a : List Int) : Nat → BS
  | 0 => (List.replicate 100 0, List.replicate 100 0, [])
  | y + 1 => fil1 a y (filY w a y) w
/-- What is kept: all cells before k are there. -/
structure FOk (a : List Int) (w : Nat) (k : Nat) (st : BS) : Prop where
  l1 : st.1.length = 100
  l2 : st.2.1.length = 100
  bit : ∀ j, j < 100 → st.1.getD j 0 = 0 ∨ st.1.getD j 0 = 1
  seen : ∀ j, j < 100 → (st.1.getD j 0 ≠ 0 ↔ cl j ∈ st.2.2)
  mem : ∀ s, s ∈ st.2.2 → isC s ∧ a.getD (ix s) 0 ≠ 0 ∧ st.2.1.getD (ix s) 0 = -1 ∧ ix s < k
  nd : st.2.2.Nodup
  all : ∀ j, j < k → j < 100 → j % 10 < w → a.getD j 0 ≠ 0 → cl j ∈ st.2.2
theorem cl_xy {x y : Nat} (hx : x < 10) : [(x : Int), (y : Int)] = cl (y * 10 + x) := by
  unfold cl
  have e1 : (y * 10 + x) % 10 = x := by omega
  have e2 : (y * 10 + x) / 10 = y := by omega
  rw [e1, e2]
theorem rep_get0 (n j : Nat) (v : Int) (h : j < n) : (List.replicate n v).getD j 0 = v := by
  rw [List.getD_eq_getElem?_getD, List.getElem?_replicate, if_pos h]; rfl
theorem FOk.start (a : List Int) (w : Nat) : FOk a w 0 (List.replicate 100 0, List.replicate 100 0, []) where
  l1 := List.length_replicate
  l2 := List.length_replicate
  bit := fun j hj => .inl (rep_get0 100 j 0 hj)
  seen := fun j hj => ⟨fun h => absurd (rep_get0 100 j 0 hj) h, fun h => (by cases h)⟩
  mem := fun s hs => (by cases hs)
  nd := List.nodup_nil
  all := fun j hj => absurd hj (Nat.not_lt_zero _)
theorem FOk.step {a : List Int} {w x y : Nat} {st : BS} (hw : w ≤ 10) (hx : x < w) (hy : y < 10) (h : FOk a w (y * 10 + x) st) :
    FOk a w (y * 10 + x + 1) (if a.getD (y * 10 + x) 0 ≠ 0 then (st.1.set (y * 10 + x) 1, st.2.1.set (y * 10 + x) (-1), st.2.2 ++ [[(x : Int), (y : Int)]]) else st) := by
  have hk : y * 10 + x < 100 := by omega
  have ec := cl_xy (x := x) (y := y) (by omega)
  rw [ec]
  generalize y * 10 + x = k at *
  split
  · rename_i ha
    have hnew : ∀ s, s ∈ st.2.2 → ix s ≠ k := fun s hs => by have := (h.mem s hs).2.2.2; omega
    refine ⟨by rw [List.length_set]; exact h.l1, by rw [List.length_set]; exact h.l2, fun j hj => ?_, fun j hj => ?_, fun s hs => ?_, ?_, fun j hj hj1 hjw haj => ?_⟩
    · show (st.1.set k 1).getD j 0 = 0 ∨ (st.1.set k 1).getD j 0 = 1
      rw [Fl.set_at (by rw [h.l1]; exact hj)]
      split
      · exact .inr rfl
      · exact h.bit j hj
    · show (st.1.set k 1).getD j 0 ≠ 0 ↔ cl j ∈ st.2.2 ++ [cl k]
      rw [Fl.set_at (by rw [h.l1]; exact hj), List.mem_append, List.mem_singleton]
      by_cases e : k = j
      · rw [if_pos e, e]; exact ⟨fun _ => .inr rfl, fun _ => by decide⟩
      · rw [if_neg e, h.seen j hj]
        exact ⟨.inl, fun g => g.elim id fun g => absurd (Fl.cl_inj g).symm e⟩
    · rcases List.mem_append.1 hs with hs | hs
      · obtain ⟨g1, g2, g3, g4⟩ := h.mem s hs
        refine ⟨g1, g2, ?_, by omega⟩
        show (st.2.1.set k (-1)).getD (ix s) 0 = -1
        rw [Fl.set_at (by rw [h.l2]; exact (Fl.cl_ix g1).2), if_neg fun e => hnew s hs e.symm]; exact g3
      · rw [List.mem_singleton.1 hs]
        have e := Fl.ix_cl hk
        refine ⟨⟨k, hk, rfl⟩, by rw [e]; exact ha, ?_, by rw [e]; omega⟩
        show (st.2.1.set k (-1)).getD (ix (cl k)) 0 = -1
        rw [e, Fl.set_at (by rw [h.l2]; exact hk), if_pos rfl]
    · rw [List.nodup_append]
      exact ⟨h.nd, by simp, fun s hs b hb e => hnew s hs (by rw [e, List.mem_singleton.1 hb, Fl.ix_cl hk])⟩
    · by_cases e : j = k
      · rw [e]; exact List.mem_append_right _ (List.mem_singleton.2 rfl)
      · exact List.mem_append_left _ (h.all j (by omega) hj1 hjw haj)
  · rename_i ha
    refine ⟨h.l1, h.l2, h.bit, h.seen, fun s hs => ?_, h.nd, fun j hj hj1 hjw haj => ?_⟩
    · obtain ⟨g1, g2, g3, g4⟩ := h.mem s hs
      exact ⟨g1, g2, g3, by omega⟩
    · by_cases e : j = k
      · rw [e] at haj; exact absurd haj ha
      · exact h.all j (by omega) hj1 hjw haj
theorem FOk.row {a : List Int} {w y : Nat} {st : BS} (hw : w ≤ 10) (hy : y < 10) (h : FOk a w (y * 10) st) : ∀ x, x ≤ w → FOk a w (y * 10 + x) (fil1 a y st x)
  | 0, _ => h
  | x + 1, hx => FOk.step hw hx hy (FOk.row hw hy h x (by omega))
theorem FOk.skip {a : List Int} {w y : Nat} {st : BS} (hw : w ≤ 10) (h : FOk a w (y * 10 + w) st) : FOk a w ((y + 1) * 10) st where
  l1 := h.l1
  l2 := h.l2
  bit := h.bit
  seen := h.seen
  mem := fun s hs => by
    obtain ⟨g1, g2, g3, g4⟩ := h.mem s hs
    exact ⟨g1, g2, g3, by omega⟩
  nd := h.nd
  all := fun j hj hj1 hjw haj => h.all j (by omega) hj1 hjw haj
theorem FOk.grid (a : List Int) {w : Nat} (hw : w ≤ 10) : ∀ y, y ≤ 10 → FOk a w (y * 10) (filY w a y)
  | 0, _ => by rw [Nat.zero_mul]; exact FOk.start a w
  | y + 1, hy => FOk.skip hw (FOk.row hw (by omega) (FOk.grid a hw y (by omega)) w (Nat.le_refl _))
/-- The start. -/
def st0 (p a : List Int) : BS := filY (p.getD 0 0).toNat a (p.getD 1 0).toNat
theorem st0_ok {p a : List Int} {A : List (List Int)} (fl : List Int) (hd : okD p) (hA : ∀ s, s ∈ A → isP p s = true ∧ s.length = 2) (hm : ∀ k, k < 100 → (a.getD k 0 ≠ 0 ↔ cl k ∈ A)) :
    BOk (goQ p) A fl (st0 p a) ∧ ∀ s, s ∈ A → s ∈ (st0 p a).2.2 := by
  obtain ⟨h1, h2, h3, h4⟩ := hd
  have hd : okD p := ⟨h1, h2, h3, h4⟩
  have h := FOk.grid a (w := (p.getD 0 0).toNat) (by omega) (p.getD 1 0).toNat (by omega)
  have hin : ∀ s, s ∈ (st0 p a).2.2 → s ∈ A := fun s hs => by
    obtain ⟨g1, g2, -⟩ := h.mem s hs
    obtain ⟨e1, e2⟩ := Fl.cl_ix g1
    have := (hm _ e2).1 g2
    rwa [e1] at this
  refine ⟨⟨h.l1, h.l2, fun s hs => (h.mem s hs).1, h.nd, h.bit, h.seen, fun j hj => .inl ⟨(h.mem _ (Fl.get_mem hj)).2.2.1, hin _ (Fl.get_mem hj)⟩, fun S hS _ s hs => hS s (hin s hs)⟩, fun s hs => ?_⟩
  obtain ⟨hp, hl⟩ := hA s hs
  have hc := isC_of hd hp hl
  obtain ⟨e1, e2⟩ := Fl.cl_ix hc
  unfold isP at hp
  rw [decide_eq_true_eq] at hp
  obtain ⟨x, y, rfl⟩ := len2 hl
  simp only [List.getD_cons_zero, List.getD_cons_succ] at hp
  have eix : ix [x, y] = y.toNat * 10 + x.toNat := rfl
  have := h.all (ix [x, y]) (by rw [eix]; omega) e2 (by rw [eix]; omega) ((hm _ e2).2 (by rw [e1]; exact hs))
  rw [e1] at this
  exact this
end Go.Proofs.YtjbgjgkogmlpfaaGreat
