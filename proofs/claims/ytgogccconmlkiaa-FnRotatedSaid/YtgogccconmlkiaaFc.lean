/- What becomes of a pasture whose grass alone changes: its yards and its validity stay. -/
import Derived.Test.YtgogccconmlkiaaNMowYard
import Derived.Test.YtgogccconmlkiaaHay
import Derived.Test.YtgogccconmlkiaaGrow4
namespace Go.Proofs.Ytgogccconmlkiaa
open Go Go.Eng
set_option linter.unusedSimpArgs false
set_option linter.unusedVariables false
set_option maxRecDepth 100000
set_option maxHeartbeats 4000000

structure FcS (p q : List Int) : Prop where
  len : q.length = 122
  same : ∀ j, (j < 2 ∨ 102 ≤ j) → q.getD j 0 = p.getD j 0
  out : ∀ s, inG s → isP p s = false → q.getD (gx s) 0 = p.getD (gx s) 0
theorem FcS.refl {p : List Int} (h : p.length = 122) : FcS p p := ⟨h, fun _ _ => rfl, fun _ _ _ => rfl⟩
theorem isP_same {p q : List Int} (h : FcS p q) (s : List Int) : isP q s = isP p s := by
  unfold isP
  rw [h.same 0 (by omega), h.same 1 (by omega)]
theorem FcS.trans {p q r : List Int} (h : FcS p q) (k : FcS q r) : FcS p r :=
  ⟨k.len, fun j hj => (k.same j hj).trans (h.same j hj), fun s hs hp => (k.out s hs ((isP_same h s).trans hp)).trans (h.out s hs hp)⟩
theorem gx_inj {s t : List Int} (hs : inG s) (ht : inG t) (h : gx s = gx t) : s.getD 0 0 = t.getD 0 0 ∧ s.getD 1 0 = t.getD 1 0 := by
  unfold inG at hs ht
  unfold gx at h
  omega
theorem FcS.set {p : List Int} (hl : p.length = 122) {s : List Int} (hs : inG s) (hp : isP p s = true) (v : Int) : FcS p (p.set (gx s) v) := by
  refine ⟨by simp [hl], fun j hj => ?_, fun t ht htp => ?_⟩
  · have := gx_lt hs
    have h3 : gx s < 102 := by unfold inG at hs; unfold gx; omega
    rw [sg_get, if_neg (by omega)]
  · rw [sg_get, if_neg]
    rintro ⟨e, -⟩
    obtain ⟨e1, e2⟩ := gx_inj hs ht e
    have : isP p t = isP p s := by unfold isP; rw [e1, e2]
    rw [htp, hp] at this; cases this
theorem getD_memF {l : List (List Int)} {i : Nat} (h : i < l.length) : l.getD i [] ∈ l := by
  rw [List.getD_eq_getElem?_getD, List.getElem?_eq_getElem h]; exact List.getElem_mem _
theorem fc_grow {g : List Int} {but : List (List Int)} {p : List Int} {rows : List (List Int)} (hl : p.length = 122) (hr : ∀ s ∈ rows, inG s ∧ isP p s = true) : ∀ i, i ≤ rows.length → FcS p (growK g but p rows i) := by
  intro i
  induction i with
  | zero => intro _; exact FcS.refl hl
  | succ i ih =>
    intro hi
    have h1 := ih (by omega)
    obtain ⟨h2, h3⟩ := hr _ (getD_memF (show i < rows.length by omega))
    unfold growK grow1
    split
    · exact h1
    · exact h1.trans (FcS.set h1.len h2 ((isP_same h1 _).trans h3) _)
theorem fc_mow {p : List Int} {rows : List (List Int)} {l : Int} (hl : p.length = 122) (hr : ∀ s ∈ rows, inG s ∧ isP p s = true) : ∀ i, i ≤ rows.length → FcS p (mowK p rows l i).1 := by
  intro i
  induction i with
  | zero => intro _; exact FcS.refl hl
  | succ i ih =>
    intro hi
    have h1 := ih (by omega)
    obtain ⟨h2, h3⟩ := hr _ (getD_memF (show i < rows.length by omega))
    unfold mowK mow1
    split
    · exact h1.trans (FcS.set h1.len h2 ((isP_same h1 _).trans h3) _)
    · exact h1

/-! The yards. -/
theorem stands_same {p q : List Int} (h : FcS p q) (x : List Int) : standsP q x = standsP p x := by
  unfold standsP
  rw [h.same _ (by omega), h.same _ (by omega)]
theorem canGo_same {p q : List Int} (h : FcS p q) (s : List Int) (d : Int) : canGo q s d = canGo p s d := by
  unfold canGo
  rw [isP_same h, stands_same h]
theorem goS_same {p q : List Int} (h : FcS p q) (now : List Int) (st : List Int × List (List Int)) : ∀ d, goS q now st d = goS p now st d := by
  intro d
  induction d with
  | zero => rfl
  | succ d ih => unfold goS; rw [canGo_same h, ih]
theorem stI_same {p q : List Int} (h : FcS p q) (rows : List (List Int)) : ∀ i, stI q rows i = stI p rows i := by
  intro i
  induction i with
  | zero => rfl
  | succ i ih => unfold stI; rw [ih, goS_same h]
theorem yard_same {p q : List Int} (h : FcS p q) (s : List Int) : yardR q s = yardR p s := by
  unfold yardR
  rw [bfsD_eq, bfsD_eq, stI_same h, h.same 0 (by omega), h.same 1 (by omega)]

/-! Validity. -/
theorem okP_same {p q : List Int} (h : FcS p q) (hp : okP p) (hq : GR q) : okP q := by
  have e0 := h.same 0 (by omega)
  have e1 := h.same 1 (by omega)
  obtain ⟨hd, hr⟩ := hp
  refine ⟨by unfold okD at *; rw [e0, e1]; exact hd, fun y hy => ?_⟩
  obtain ⟨r1, r2, r3⟩ := hr y hy
  refine ⟨fun x hx => ?_, ?_, ?_⟩
  · have hg : inG [(x : Int), (y : Int)] := by simp only [inG, List.getD_cons_zero, List.getD_cons_succ]; omega
    have eg : gx [(x : Int), (y : Int)] = 2 + y * 10 + x * 1 := by simp [gx]
    have hv := hq.rng _ hg
    have c := r1 x hx
    unfold okC at *
    rw [e0, e1]
    rw [eg] at hv
    refine ⟨hv.1, hv.2, fun hpos => ?_⟩
    by_cases hi : isP p [(x : Int), (y : Int)] = true
    · unfold isP at hi
      simp only [List.getD_cons_zero, List.getD_cons_succ, decide_eq_true_eq] at hi
      exact ⟨hi.2.1, hi.2.2.2⟩
    · have ho := h.out _ hg (by simpa using hi)
      rw [eg] at ho
      rw [ho] at hpos
      exact c.2.2 hpos
  · rw [h.same _ (by omega), e0, e1]; exact r2
  · rw [h.same _ (by omega), e0, e1]; exact r3

/-! Days of growth. -/
theorem mem_rowF {f : List Int → Bool} {acc : List (List Int)} {y : Nat} {s : List Int} : ∀ {x : Nat}, s ∈ rowF f acc y x → s ∈ acc ∨ (f s = true ∧ ∃ i, i < x ∧ s = [(i : Int), (y : Int)]) := by
  intro x
  induction x with
  | zero => intro h; exact .inl h
  | succ x ih =>
    intro h
    unfold rowF at h
    split at h
    · rename_i hf
      rcases List.mem_append.1 h with h | h
      · rcases ih h with h | ⟨h1, i, h2, h3⟩
        · exact .inl h
        · exact .inr ⟨h1, i, by omega, h3⟩
      · rw [List.mem_singleton.1 h]
        exact .inr ⟨hf, x, by omega, rfl⟩
    · rcases ih h with h | ⟨h1, i, h2, h3⟩
      · exact .inl h
      · exact .inr ⟨h1, i, by omega, h3⟩
theorem mem_spotsF {f : List Int → Bool} {w : Nat} {s : List Int} : ∀ {y : Nat}, s ∈ spotsF f w y → f s = true ∧ ∃ j i : Nat, j < y ∧ i < w ∧ s = [(i : Int), (j : Int)] := by
  intro y
  induction y with
  | zero => intro h; cases h
  | succ y ih =>
    intro h
    rcases mem_rowF h with h | ⟨h1, i, h2, h3⟩
    · obtain ⟨h1, j, i, h2, h3, h4⟩ := ih h
      exact ⟨h1, j, i, by omega, h3, h4⟩
    · exact ⟨h1, y, i, by omega, h2, h3⟩
theorem yard_isP {p s : List Int} (hd : okD p) : ∀ c ∈ yardR p s, inG c ∧ isP p c = true := by
  intro c hc
  obtain ⟨-, j, i, h1, h2, rfl⟩ := mem_spotsF hc
  unfold okD at hd
  constructor
  · simp only [inG, List.getD_cons_zero, List.getD_cons_succ]; omega
  · unfold isP; simp only [List.getD_cons_zero, List.getD_cons_succ, decide_eq_true_eq]; omega
theorem spots_isP {p : List Int} (hd : okD p) : ∀ c ∈ spots p, inG c ∧ isP p c = true := by
  intro c hc
  obtain ⟨j, i, h1, h2, rfl⟩ := mem_spotsY.1 hc
  unfold okD at hd
  constructor
  · simp only [inG, List.getD_cons_zero, List.getD_cons_succ]; omega
  · unfold isP; simp only [List.getD_cons_zero, List.getD_cons_succ, decide_eq_true_eq]; omega
theorem fc_days {g p : List Int} (hl : p.length = 122) (hp : okP p) (hg : okG g) : ∀ d, FcS p (growN g p d) ∧ okP (growN g p d) := by
  intro d
  induction d with
  | zero => exact ⟨FcS.refl hl, hp⟩
  | succ d ih =>
    obtain ⟨i1, i2⟩ := ih
    have h := growN_ok hg (GR.of hl hp) hp.1 (d + 1)
    have hf : FcS (growN g p d) (growN g p (d + 1)) := fc_grow i1.len (spots_isP i2.1) _ (Nat.le_refl _)
    exact ⟨i1.trans hf, okP_same (i1.trans hf) hp h.1⟩
theorem fc_mown {p s : List Int} {l : Int} (hl : p.length = 122) (hp : okP p) (h0 : 0 ≤ l) (h1 : l ≤ 1000) : FcS p (mowK p (yardR p s) l (yardR p s).length).1 ∧ okP (mowK p (yardR p s) l (yardR p s).length).1 := by
  have hf : FcS p (mowK p (yardR p s) l (yardR p s).length).1 := fc_mow hl (yard_isP hp.1) _ (Nat.le_refl _)
  have hm := mowK_ok (rows := yardR p s) (GR.of hl hp) (fun c hc => (yard_isP hp.1 c hc).1) h0 h1 _ (Nat.le_refl _)
  exact ⟨hf, okP_same hf hp hm.1⟩

/-! What mowing does. -/
theorem mow_sum {p : List Int} {rows : List (List Int)} {l : Int} (hp : GR p) (hr : ∀ s ∈ rows, inG s) (h0 : 0 ≤ l) (h1 : l ≤ 1000) : ∀ i, i ≤ rows.length → sumA (mowK p rows l i).1 10 + (mowK p rows l i).2 = sumA p 10 := by
  intro i
  induction i with
  | zero => intro _; show sumA p 10 + 0 = _; omega
  | succ i ih =>
    intro hi
    have h2 := ih (by omega)
    obtain ⟨g1, -⟩ := mowK_ok hp hr h0 h1 i (by omega)
    have hs := hr _ (getD_memF (show i < rows.length by omega))
    unfold mowK mow1
    split
    · show sumA (List.set _ _ _) 10 + (_ + _) = _
      rw [sumA_gx g1 hs]; omega
    · exact h2
theorem two_ext {r c : List Int} (h : r.length = 2) (k : c.length = 2) (e : r.getD 0 0 = c.getD 0 0) (f : r.getD 1 0 = c.getD 1 0) : r = c := by
  match r, c, h, k with
  | [a, b], [x, y], _, _ =>
    simp only [List.getD_cons_zero, List.getD_cons_succ] at e f
    rw [e, f]
def minI (a b : Int) : Int := if b < a then b else a
theorem mow_cell {p : List Int} {rows : List (List Int)} {l : Int} (hp : GR p) (hr : ∀ s ∈ rows, inG s ∧ s.length = 2) (h0 : 0 ≤ l) (h1 : l ≤ 1000) {c : List Int} (hc : inG c) (hcl : c.length = 2) : ∀ i, i ≤ rows.length →
    (mowK p rows l i).1.getD (gx c) 0 = if (rows.take i).any (fun r => decide (r = c)) = true then minI (p.getD (gx c) 0) l else p.getD (gx c) 0 := by
  intro i
  induction i with
  | zero => intro _; simp [mowK]
  | succ i ih =>
    intro hi
    have h2 := ih (by omega)
    obtain ⟨g1, -⟩ := mowK_ok hp (fun s hs => (hr s hs).1) h0 h1 i (by omega)
    obtain ⟨hs, hsl⟩ := hr _ (getD_memF (show i < rows.length by omega))
    have et : rows.take (i + 1) = rows.take i ++ [rows.getD i []] := by
      rw [List.take_add_one, List.getD_eq_getElem?_getD, List.getElem?_eq_getElem (show i < rows.length by omega)]; rfl
    show (mow1 l (mowK p rows l i) (rows.getD i [])).1.getD (gx c) 0 = _
    rw [et, List.any_append]
    simp only [List.any_cons, List.any_nil, Bool.or_false]
    by_cases e : rows.getD i [] = c
    · subst e
      rw [decide_eq_true (rfl : rows.getD i [] = rows.getD i []), Bool.or_true, if_pos rfl]
      unfold mow1
      split
      · rename_i hlt
        show (List.set _ _ _).getD _ 0 = _
        rw [sg_get, if_pos ⟨rfl, by rw [g1.len]; exact (gx_lt hs).1⟩]
        rw [h2] at hlt
        unfold minI at *
        split at hlt
        · split at hlt <;> omega
        · rw [if_pos hlt]
      · rename_i hlt
        rw [h2] at hlt ⊢
        unfold minI at *
        split at hlt
        · rename_i hy; rw [if_pos hy]
        · rename_i hy; rw [if_neg hy, if_neg hlt]
    · rw [decide_eq_false e, Bool.or_false, ← h2]
      unfold mow1
      split
      · show (List.set _ _ _).getD _ 0 = _
        rw [sg_get, if_neg]
        rintro ⟨e2, -⟩
        obtain ⟨e3, e4⟩ := gx_inj hs hc e2
        exact e (two_ext hsl hcl e3 e4)
      · rfl
end Go.Proofs.Ytgogccconmlkiaa
