/- The open sides of some cells, in order: plain laws. -/
import Derived.Test.YtjbgjgkogmlpfaaGreatSideL
import Derived.Test.YtjbgjgkogmlpfaaGreatDelS
import Derived.Test.YtjbgjgkogmlpfaaGreatSort2
namespace Go.Proofs.YtjbgjgkogmlpfaaGreat
open Go Go.Eng
set_option linter.unusedSimpArgs false
set_option linter.unusedVariables false
set_option maxRecDepth 100000
set_option maxHeartbeats 4000000

def atH (h : List Int) : List Int := [h.getD 0 0, h.getD 1 0]
def othH (h : List Int) : List Int := ahead [h.getD 0 0, h.getD 1 0] (if h.getD 2 0 = 0 then 1 else 2)
/-- Is it an open side between the cells and others? -/
def opP (p : List Int) (xs : List (List Int)) (h : List Int) : Bool := (hasR xs (atH h) != hasR xs (othH h)) && !standsP p h
def openL (p : List Int) (xs : List (List Int)) : List (List Int) := sortL cmpH (leftF (standsP p) (sideL p xs))
def openR (p : List Int) (xs : List (List Int)) : List (List Int) := selK (opP p xs) (sidL (hurP p) (spots p)) (sidL (hurP p) (spots p)).length

theorem selK_take (f : List Int → Bool) (L : List (List Int)) : ∀ i, i ≤ L.length → selK f L i = (L.take i).filter f := by
  intro i
  induction i with
  | zero => intro _; rfl
  | succ i ih =>
    intro h
    unfold selK addH
    rw [ih (by omega), take_snocF L [] (by omega), List.filter_append]
    by_cases hf : f (L.getD i []) = true
    · rw [if_pos hf, List.filter_cons, if_pos hf]; rfl
    · rw [if_neg hf, List.filter_cons, if_neg hf]; simp
theorem openR_filter (p : List Int) (xs : List (List Int)) : openR p xs = (sidL (hurP p) (spots p)).filter (opP p xs) := by
  unfold openR
  rw [selK_take _ _ _ (Nat.le_refl _), List.take_length]

theorem addH_iff {f : List Int → Bool} {acc : List (List Int)} {h r : List Int} : r ∈ addH f acc h ↔ r ∈ acc ∨ (r = h ∧ f h = true) := by
  constructor
  · exact addH_mem
  · unfold addH
    rintro (h1 | ⟨rfl, h2⟩)
    · split
      · exact List.mem_append_left _ h1
      · exact h1
    · rw [if_pos h2]; exact List.mem_append_right _ (List.mem_singleton.2 rfl)
theorem mem_sidR {f : List Int → Bool} {acc : List (List Int)} {y : Nat} {h : List Int} : ∀ x : Nat, h ∈ sidL f (rowA acc y x) ↔ h ∈ sidL f acc ∨ (f h = true ∧ ∃ k, k < x ∧ (h = [(k : Int), (y : Int), 0] ∨ h = [(k : Int), (y : Int), 1])) := by
  intro x
  induction x with
  | zero => simp [rowA]
  | succ x ih =>
    rw [sidL_row]
    unfold addC
    rw [addH_iff, addH_iff, ih]
    have e0 : h0 [(x : Int), (y : Int)] = [(x : Int), (y : Int), 0] := rfl
    have e1 : h1 [(x : Int), (y : Int)] = [(x : Int), (y : Int), 1] := rfl
    rw [e0, e1]
    constructor
    · rintro (((h1 | ⟨h1, k, h2, h3⟩) | ⟨rfl, h2⟩) | ⟨rfl, h2⟩)
      · exact .inl h1
      · exact .inr ⟨h1, k, by omega, h3⟩
      · exact .inr ⟨h2, x, by omega, .inl rfl⟩
      · exact .inr ⟨h2, x, by omega, .inr rfl⟩
    · rintro (h1 | ⟨h1, k, h2, h3⟩)
      · exact .inl (.inl (.inl h1))
      · rcases Nat.lt_or_ge k x with hk | hk
        · exact .inl (.inl (.inr ⟨h1, k, hk, h3⟩))
        · have : k = x := by omega
          subst this
          rcases h3 with rfl | rfl
          · exact .inl (.inr ⟨rfl, h1⟩)
          · exact .inr ⟨rfl, h1⟩
theorem mem_sidL {f : List Int → Bool} {w : Nat} {h : List Int} : ∀ y : Nat, h ∈ sidL f (spotsY w y) ↔ f h = true ∧ ∃ j k : Nat, j < y ∧ k < w ∧ (h = [(k : Int), (j : Int), 0] ∨ h = [(k : Int), (j : Int), 1]) := by
  intro y
  induction y with
  | zero => simp [spotsY, sidL, sidK]
  | succ y ih =>
    show h ∈ sidL f (rowA (spotsY w y) y w) ↔ _
    rw [mem_sidR, ih]
    constructor
    · rintro (⟨h1, j, k, h2, h3⟩ | ⟨h1, k, h2, h3⟩)
      · exact ⟨h1, j, k, by omega, h3⟩
      · exact ⟨h1, y, k, by omega, h2, h3⟩
    · rintro ⟨h1, j, k, h2, h3, h4⟩
      rcases Nat.lt_or_ge j y with hj | hj
      · exact .inl ⟨h1, j, k, hj, h3, h4⟩
      · have : j = y := by omega
        subst this
        exact .inr ⟨h1, k, h3, h4⟩
theorem addH_sorted {f : List Int → Bool} {acc : List (List Int)} {h : List Int} (ha : acc.Pairwise fun a b => lessH a b = true) (hb : ∀ r ∈ acc, lessH r h = true) : (addH f acc h).Pairwise fun a b => lessH a b = true := by
  unfold addH
  split
  · refine List.pairwise_append.2 ⟨ha, List.pairwise_singleton _ _, fun a h1 b h2 => ?_⟩
    rw [List.mem_singleton] at h2
    subst h2
    exact hb a h1
  · exact ha
theorem sidR_sorted {f : List Int → Bool} {acc : List (List Int)} {y : Nat} (ha : (sidL f acc).Pairwise fun a b => lessH a b = true) (hb : ∀ r ∈ sidL f acc, r.getD 1 0 < (y : Int)) : ∀ x : Nat, (sidL f (rowA acc y x)).Pairwise fun a b => lessH a b = true := by
  intro x
  induction x with
  | zero => exact ha
  | succ x ih =>
    rw [sidL_row]
    unfold addC
    have e0 : h0 [(x : Int), (y : Int)] = [(x : Int), (y : Int), 0] := rfl
    have e1 : h1 [(x : Int), (y : Int)] = [(x : Int), (y : Int), 1] := rfl
    rw [e0, e1]
    have key : ∀ c, ∀ r ∈ sidL f (rowA acc y x), lessH r [(x : Int), (y : Int), c] = true := by
      intro c r hr
      rw [lessH_iff]
      simp only [List.getD_cons_zero, List.getD_cons_succ]
      rcases (mem_sidR x).1 hr with h | ⟨-, k, h1, rfl | rfl⟩
      · exact .inl (hb r h)
      · exact .inr ⟨rfl, .inl (by simp only [List.getD_cons_zero]; omega)⟩
      · exact .inr ⟨rfl, .inl (by simp only [List.getD_cons_zero]; omega)⟩
    refine addH_sorted (addH_sorted ih (key 0)) fun r hr => ?_
    rcases addH_iff.1 hr with h | ⟨rfl, -⟩
    · exact key 1 r h
    · rw [lessH_iff]; exact .inr ⟨rfl, .inr ⟨rfl, (by show (0 : Int) < 1; decide)⟩⟩
theorem sidL_sorted (f : List Int → Bool) (w : Nat) : ∀ y : Nat, (sidL f (spotsY w y)).Pairwise fun a b => lessH a b = true := by
  intro y
  induction y with
  | zero => exact List.Pairwise.nil
  | succ y ih =>
    refine sidR_sorted ih (fun r hr => ?_) w
    obtain ⟨-, j, k, h1, h2, rfl | rfl⟩ := (mem_sidL y).1 hr
    · simp only [List.getD_cons_succ, List.getD_cons_zero]; omega
    · simp only [List.getD_cons_succ, List.getD_cons_zero]; omega

theorem hur_cases (s : List Int) (d : Nat) (hd : d < 4) : ∃ a b : Int, s.getD 0 0 = a ∧ s.getD 1 0 = b ∧
    ((d = 0 ∧ hurdleAt s d = [a, b - 1, 1]) ∨ (d = 1 ∧ hurdleAt s d = [a, b, 0]) ∨ (d = 2 ∧ hurdleAt s d = [a, b, 1]) ∨ (d = 3 ∧ hurdleAt s d = [a - 1, b, 0])) := by
  refine ⟨_, _, rfl, rfl, ?_⟩
  rcases (show d = 0 ∨ d = 1 ∨ d = 2 ∨ d = 3 by omega) with rfl | rfl | rfl | rfl
  · exact .inl ⟨rfl, rfl⟩
  · exact .inr (.inl ⟨rfl, rfl⟩)
  · exact .inr (.inr (.inl ⟨rfl, rfl⟩))
  · exact .inr (.inr (.inr ⟨rfl, rfl⟩))
/-- The cell and the cell beyond are the two ends of the hurdle between them. -/
theorem hur_ends {s : List Int} (hl : s.length = 2) {d : Nat} (hd : d < 4) : (atH (hurdleAt s d) = s ∧ othH (hurdleAt s d) = ahead s d) ∨ (atH (hurdleAt s d) = ahead s d ∧ othH (hurdleAt s d) = s) := by
  obtain ⟨a, b, rfl⟩ := len2 hl
  rcases (show d = 0 ∨ d = 1 ∨ d = 2 ∨ d = 3 by omega) with rfl | rfl | rfl | rfl
  · refine .inr ⟨rfl, ?_⟩
    show [a, b - 1 + 1] = [a, b]
    rw [Int.sub_add_cancel]
  · exact .inl ⟨rfl, rfl⟩
  · exact .inl ⟨rfl, rfl⟩
  · refine .inr ⟨rfl, ?_⟩
    show [a - 1 + 1, b] = [a, b]
    rw [Int.sub_add_cancel]
theorem hur_inj {s s' : List Int} (hl : s.length = 2) (hl' : s'.length = 2) {d d' : Nat} (hd : d < 4) (hd' : d' < 4) (h : hurdleAt s d = hurdleAt s' d') (hne : s = s') : d = d' := by
  subst hne
  obtain ⟨a, b, rfl⟩ := len2 hl
  rcases (show d = 0 ∨ d = 1 ∨ d = 2 ∨ d = 3 by omega) with rfl | rfl | rfl | rfl <;>
  rcases (show d' = 0 ∨ d' = 1 ∨ d' = 2 ∨ d' = 3 by omega) with rfl | rfl | rfl | rfl <;> first | rfl | (exfalso; simp [hurdleAt, ahead] at h; omega) | (exfalso; simp [hurdleAt, ahead] at h)

/-! The sides of the cells. -/
def outs (p : List Int) (xs : List (List Int)) (s : List Int) (d : Nat) (h : List Int) : Prop := outC p xs s d = true ∧ h = hurdleAt s d
theorem mem_sdN {p : List Int} {xs acc : List (List Int)} {s h : List Int} : ∀ n, h ∈ sdN p xs acc s n ↔ h ∈ acc ∨ ∃ d, d < n ∧ outs p xs s d h := by
  intro n
  induction n with
  | zero => simp [sdN]
  | succ n ih =>
    unfold sdN
    split
    · rename_i ho
      rw [List.mem_append, List.mem_singleton, ih]
      constructor
      · rintro ((h1 | ⟨d, h1, h2⟩) | rfl)
        · exact .inl h1
        · exact .inr ⟨d, by omega, h2⟩
        · exact .inr ⟨n, by omega, ho, rfl⟩
      · rintro (h1 | ⟨d, h1, h2⟩)
        · exact .inl (.inl h1)
        · rcases Nat.lt_or_ge d n with hk | hk
          · exact .inl (.inr ⟨d, hk, h2⟩)
          · have : d = n := by omega
            subst this; exact .inr h2.2
    · rename_i ho
      rw [ih]
      constructor
      · rintro (h1 | ⟨d, h1, h2⟩)
        · exact .inl h1
        · exact .inr ⟨d, by omega, h2⟩
      · rintro (h1 | ⟨d, h1, h2⟩)
        · exact .inl h1
        · rcases Nat.lt_or_ge d n with hk | hk
          · exact .inr ⟨d, hk, h2⟩
          · have : d = n := by omega
            subst this; exact absurd h2.1 ho
theorem mem_sdK {p : List Int} {xs rows : List (List Int)} {h : List Int} : ∀ n, n ≤ rows.length → (h ∈ sdK p xs rows n ↔ ∃ s ∈ rows.take n, ∃ d, d < 4 ∧ outs p xs s d h) := by
  intro n
  induction n with
  | zero => intro _; simp [sdK]
  | succ n ih =>
    intro hn
    unfold sdK
    rw [mem_sdN, ih (by omega), take_snocF rows [] (by omega)]
    constructor
    · rintro (⟨s, h1, h2⟩ | h1)
      · exact ⟨s, List.mem_append_left _ h1, h2⟩
      · exact ⟨_, List.mem_append_right _ (List.mem_singleton.2 rfl), h1⟩
    · rintro ⟨s, h1, h2⟩
      rcases List.mem_append.1 h1 with h1 | h1
      · exact .inl ⟨s, h1, h2⟩
      · rw [List.mem_singleton] at h1; subst h1; exact .inr h2
theorem mem_sideL {p : List Int} {xs : List (List Int)} {h : List Int} : h ∈ sideL p xs ↔ ∃ s ∈ xs, ∃ d, d < 4 ∧ outs p xs s d h := by
  unfold sideL
  rw [mem_sdK _ (Nat.le_refl _), List.take_length]
  constructor
  · rintro ⟨s, h1, h2⟩; exact ⟨s, (ordL_mem xs s).1 h1, h2⟩
  · rintro ⟨s, h1, h2⟩; exact ⟨s, (ordL_mem xs s).2 h1, h2⟩
theorem same_cell {p : List Int} {xs : List (List Int)} (hl : ∀ s ∈ xs, s.length = 2) {s s' h : List Int} (hs : s ∈ xs) (hs' : s' ∈ xs) {d d' : Nat} (hd : d < 4) (hd' : d' < 4) (h1 : outs p xs s d h) (h2 : outs p xs s' d' h) : s = s' ∧ d = d' := by
  have n1 : ¬ ahead s d ∈ xs := fun g => by
    have := h1.1
    unfold outC at this
    rw [(hasR_mem xs _).2 g] at this
    simp at this
  have n2 : ¬ ahead s' d' ∈ xs := fun g => by
    have := h2.1
    unfold outC at this
    rw [(hasR_mem xs _).2 g] at this
    simp at this
  have e : hurdleAt s d = hurdleAt s' d' := h1.2.symm.trans h2.2
  have es : s = s' := by
    rcases hur_ends (hl s hs) hd with ⟨a1, a2⟩ | ⟨a1, a2⟩ <;> rcases hur_ends (hl s' hs') hd' with ⟨b1, b2⟩ | ⟨b1, b2⟩ <;> rw [e] at a1 a2
    · exact a1.symm.trans b1
    · exact absurd (by rw [← b1, a1]; exact hs) n2
    · exact absurd (by rw [← a1, b1]; exact hs') n1
    · exact a2.symm.trans b2
  exact ⟨es, hur_inj (hl s hs) (hl s' hs') hd hd' e es⟩
theorem sdN_nodup {p : List Int} {xs acc : List (List Int)} {s : List Int} (hl : s.length = 2) (ha : acc.Nodup) (hn : ∀ d, d < 4 → ∀ h, outs p xs s d h → h ∉ acc) : ∀ n, n ≤ 4 → (sdN p xs acc s n).Nodup := by
  intro n
  induction n with
  | zero => intro _; exact ha
  | succ n ih =>
    intro h4
    unfold sdN
    split
    · rename_i ho
      refine List.nodup_append.2 ⟨ih (by omega), List.nodup_cons.2 ⟨List.not_mem_nil, List.nodup_nil⟩, fun a h1 b h2 => ?_⟩
      rw [List.mem_singleton] at h2
      subst h2
      rintro rfl
      rcases (mem_sdN n).1 h1 with h | ⟨d, hd, h⟩
      · exact hn n (by omega) _ ⟨ho, rfl⟩ h
      · have := hur_inj hl hl (by omega) (by omega) h.2 rfl
        omega
    · exact ih (by omega)
theorem sideL_nodup {p : List Int} {xs : List (List Int)} (hx : ∀ s ∈ xs, isP p s = true) (hl : ∀ s ∈ xs, s.length = 2) : (sideL p xs).Nodup := by
  have hmem := ordL_mem xs
  have hsort := ordL_spots hx hl
  have hso := spotsF_sorted (hasR xs) (p.getD 0 0).toNat (p.getD 1 0).toNat
  rw [← hsort] at hso
  unfold sideL
  generalize ordL xs = rows at *
  have key : ∀ n, n ≤ rows.length → (sdK p xs rows n).Nodup := by
    intro n
    induction n with
    | zero => intro _; exact List.nodup_nil
    | succ n ih =>
      intro hn
      unfold sdK
      have hmn : rows.getD n [] ∈ xs := (hmem _).1 (getD_mem (d := []) (by omega))
      refine sdN_nodup (hl _ hmn) (ih (by omega)) (fun d hd h ho hh => ?_) 4 (Nat.le_refl _)
      obtain ⟨s', h1, d', h2, h3⟩ := (mem_sdK n (by omega)).1 hh
      obtain ⟨j, hj, e⟩ := List.mem_take_iff_getElem.1 h1
      have hs' : s' ∈ xs := (hmem _).1 (by rw [← e]; exact List.getElem_mem _)
      obtain ⟨es, -⟩ := same_cell hl hmn hs' hd h2 ho h3
      have hlt := List.pairwise_iff_getElem.1 hso j n (by omega) (by omega) (by omega)
      rw [e, ← es, List.getD_eq_getElem?_getD, List.getElem?_eq_getElem (by omega), less_iff] at hlt
      simp only [Option.getD_some] at hlt
      omega
  exact key _ (Nat.le_refl _)

theorem side_iff {p : List Int} {xs : List (List Int)} (hd : okD p) (hx : ∀ s ∈ xs, isP p s = true) (hl : ∀ s ∈ xs, s.length = 2) (h : List Int) :
    h ∈ sideL p xs ↔ h ∈ sidL (hurP p) (spots p) ∧ (hasR xs (atH h) != hasR xs (othH h)) = true := by
  rw [mem_sideL]
  unfold spots
  rw [mem_sidL]
  obtain ⟨w1, w2, h1, h2⟩ := hd
  have grid : ∀ q, isP p q = true → 0 ≤ q.getD 0 0 ∧ q.getD 0 0 < p.getD 0 0 ∧ 0 ≤ q.getD 1 0 ∧ q.getD 1 0 < p.getD 1 0 := fun q hq => by unfold isP at hq; exact of_decide_eq_true hq
  constructor
  · rintro ⟨s, hs, d, hd4, ho, rfl⟩
    have hn : isP p (ahead s d) = true ∧ hasR xs (ahead s d) = false := by
      unfold outC at ho
      rw [Bool.and_eq_true, Bool.not_eq_true'] at ho
      exact ho
    have hsx := (hasR_mem xs s).2 hs
    have hP : hurP p (hurdleAt s d) = (isP p (atH (hurdleAt s d)) && isP p (othH (hurdleAt s d))) := rfl
    have hend := hur_ends (hl s hs) hd4
    refine ⟨⟨?_, ?_⟩, ?_⟩
    · rw [hP]
      rcases hend with ⟨e1, e2⟩ | ⟨e1, e2⟩
      · rw [e1, e2, hx s hs, hn.1]; rfl
      · rw [e1, e2, hx s hs, hn.1]; rfl
    · have hat : isP p (atH (hurdleAt s d)) = true := by
        rcases hend with ⟨e1, e2⟩ | ⟨e1, e2⟩
        · rw [e1]; exact hx s hs
        · rw [e1]; exact hn.1
      have hg := grid _ hat
      obtain ⟨a, b, -, -, hc⟩ := hur_cases s d hd4
      have : ∃ u v : Int, hurdleAt s d = [u, v, 0] ∨ hurdleAt s d = [u, v, 1] := by
        rcases hc with ⟨-, e⟩ | ⟨-, e⟩ | ⟨-, e⟩ | ⟨-, e⟩
        · exact ⟨_, _, .inr e⟩
        · exact ⟨_, _, .inl e⟩
        · exact ⟨_, _, .inr e⟩
        · exact ⟨_, _, .inl e⟩
      obtain ⟨u, v, e⟩ := this
      have hg' : 0 ≤ u ∧ u < p.getD 0 0 ∧ 0 ≤ v ∧ v < p.getD 1 0 := by
        rcases e with e | e <;> (rw [e] at hg; simpa [atH] using hg)
      refine ⟨v.toNat, u.toNat, by omega, by omega, ?_⟩
      rw [Int.toNat_of_nonneg (by omega), Int.toNat_of_nonneg (by omega)]
      exact e
    · rcases hend with ⟨e1, e2⟩ | ⟨e1, e2⟩
      · rw [e1, e2, hsx, hn.2]; rfl
      · rw [e1, e2, hsx, hn.2]; rfl
  · rintro ⟨⟨hP, j, k, hj, hk, hc⟩, hne⟩
    have hP' : isP p (atH h) = true ∧ isP p (othH h) = true := by
      unfold hurP at hP
      rw [Bool.and_eq_true] at hP
      exact hP
    cases ha : hasR xs (atH h) with
    | true =>
      have hb : hasR xs (othH h) = false := by
        rw [ha] at hne
        cases hb : hasR xs (othH h) with
        | false => rfl
        | true => rw [hb] at hne; cases hne
      rcases hc with rfl | rfl
      · exact ⟨[(k : Int), (j : Int)], (hasR_mem _ _).1 ha, 1, by decide, by unfold outC; rw [Bool.and_eq_true, Bool.not_eq_true']; exact ⟨hP'.2, hb⟩, rfl⟩
      · exact ⟨[(k : Int), (j : Int)], (hasR_mem _ _).1 ha, 2, by decide, by unfold outC; rw [Bool.and_eq_true, Bool.not_eq_true']; exact ⟨hP'.2, hb⟩, rfl⟩
    | false =>
      have hb : hasR xs (othH h) = true := by
        rw [ha] at hne
        cases hb : hasR xs (othH h) with
        | true => rfl
        | false => rw [hb] at hne; cases hne
      rcases hc with rfl | rfl
      · refine ⟨[(k : Int) + 1, (j : Int)], (hasR_mem _ _).1 hb, 3, by decide, ?_, ?_⟩
        · have e : ahead [(k : Int) + 1, (j : Int)] ((3 : Nat) : Int) = [(k : Int), (j : Int)] := by show [(k : Int) + 1 - 1, (j : Int)] = _; rw [Int.add_sub_cancel]
          unfold outC; rw [e, Bool.and_eq_true, Bool.not_eq_true']; exact ⟨hP'.1, ha⟩
        · show _ = [(k : Int) + 1 - 1, (j : Int), 0]; rw [Int.add_sub_cancel]
      · refine ⟨[(k : Int), (j : Int) + 1], (hasR_mem _ _).1 hb, 0, by decide, ?_, ?_⟩
        · have e : ahead [(k : Int), (j : Int) + 1] ((0 : Nat) : Int) = [(k : Int), (j : Int)] := by show [(k : Int), (j : Int) + 1 - 1] = _; rw [Int.add_sub_cancel]
          unfold outC; rw [e, Bool.and_eq_true, Bool.not_eq_true']; exact ⟨hP'.1, ha⟩
        · show _ = [(k : Int), (j : Int) + 1 - 1, 1]; rw [Int.add_sub_cancel]

theorem sortH_sorted (rows : List (List Int)) : (sortL cmpH rows).Pairwise fun a b => lessH b a = false := by
  have h := List.pairwise_mergeSort (le := fun x y : List Int => !decide (cmpH y x < 0)) (fun a b c h1 h2 => ?_) (fun a b => ?_) rows
  · refine h.imp fun {a b} h => ?_
    cases hh : lessH b a with
    | false => rfl
    | true => rw [decide_eq_true ((cmpH_less _ _).2 hh)] at h; cases h
  · rw [Bool.not_eq_true', decide_eq_false_iff_not, cmpH_less, Bool.not_eq_true, lessH_not] at *; omega
  · rw [Bool.or_eq_true, Bool.not_eq_true', Bool.not_eq_true', decide_eq_false_iff_not, decide_eq_false_iff_not, cmpH_less, cmpH_less, Bool.not_eq_true, Bool.not_eq_true, lessH_not, lessH_not]; omega
/-- What the program lists is what the spec lists. -/
theorem openL_eq {p : List Int} {xs : List (List Int)} (hd : okD p) (hx : ∀ s ∈ xs, isP p s = true) (hl : ∀ s ∈ xs, s.length = 2) : openL p xs = openR p xs := by
  have hmem : ∀ h, h ∈ openL p xs ↔ h ∈ openR p xs := fun h => by
    unfold openL sortL leftF
    rw [List.mem_mergeSort, List.mem_filter, openR_filter, List.mem_filter, side_iff hd hx hl]
    unfold opP
    rw [Bool.and_eq_true]
    exact ⟨fun ⟨⟨a, b⟩, c⟩ => ⟨a, b, c⟩, fun ⟨a, b, c⟩ => ⟨⟨a, b⟩, c⟩⟩
  have hR : (openR p xs).Pairwise fun a b => lessH a b = true := by
    rw [openR_filter]
    exact (sidL_sorted _ _ _).filter _
  have irr : ∀ a b, lessH a b = true → a ≠ b := fun a b h e => by subst e; rw [lessH_iff] at h; omega
  have hnL : (openL p xs).Nodup := by
    unfold openL sortL
    exact (List.mergeSort_perm _ _).nodup_iff.2 ((sideL_nodup hx hl).filter _)
  refine List.Perm.eq_of_pairwise (le := fun a b => lessH b a = false) (fun a b h1 h2 h3 h4 => ?_) (sortH_sorted _) (hR.imp fun {a b} h => ?_) ((List.perm_ext_iff_of_nodup hnL (hR.imp fun {a b} h => irr a b h)).2 hmem)
  · rw [lessH_not] at h3 h4
    have g : ∀ q, q ∈ openR p xs → ∃ u v c : Int, q = [u, v, c] := fun q hq => by
      rw [openR_filter] at hq
      obtain ⟨-, j, k, -, -, rfl | rfl⟩ := (mem_sidL _).1 (List.mem_filter.1 hq).1
      · exact ⟨_, _, _, rfl⟩
      · exact ⟨_, _, _, rfl⟩
    obtain ⟨a0, a1, a2, rfl⟩ := g a ((hmem a).1 h1)
    obtain ⟨b0, b1, b2, rfl⟩ := g b h2
    simp only [List.getD_cons_zero, List.getD_cons_succ] at h3 h4
    have e1 : a0 = b0 := by omega
    have e2 : a1 = b1 := by omega
    have e3 : a2 = b2 := by omega
    rw [e1, e2, e3]
  · rw [lessH_iff] at h; rw [lessH_not]; omega
end Go.Proofs.YtjbgjgkogmlpfaaGreat
