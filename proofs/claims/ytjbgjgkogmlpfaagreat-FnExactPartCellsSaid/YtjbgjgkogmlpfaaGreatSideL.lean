/- Lists of cells in order; sides counted: plain laws. -/
import Derived.Test.YtjbgjgkogmlpfaaGreatSideOf
import Derived.Test.YtjbgjgkogmlpfaaGreatFilt
namespace Go.Proofs.YtjbgjgkogmlpfaaGreat
open Go Go.Eng
set_option linter.unusedSimpArgs false
set_option linter.unusedVariables false
set_option maxRecDepth 100000
set_option maxHeartbeats 4000000

theorem sort_eq {l r : List (List Int)} (hl : l.Pairwise fun a b => lessS a b = true) (hr : r.Pairwise fun a b => lessS a b = true) (h : ∀ x, x ∈ l ↔ x ∈ r) : l = r := by
  have irr : ∀ a b, lessS a b = true → a ≠ b := fun a b h e => by subst e; rw [less_iff] at h; omega
  refine List.Perm.eq_of_pairwise (le := fun a b => lessS a b = true) (fun a b _ _ h1 h2 => ?_) hl hr ((List.perm_ext_iff_of_nodup (hl.imp fun {a b} h => irr a b h) (hr.imp fun {a b} h => irr a b h)).2 h)
  rw [less_iff] at h1 h2; omega

theorem mem_rowF {f : List Int → Bool} {acc : List (List Int)} {y : Nat} {s : List Int} : ∀ {x : Nat}, s ∈ rowF f acc y x ↔ s ∈ acc ∨ ∃ k, k < x ∧ s = [(k : Int), (y : Int)] ∧ f s = true := by
  intro x
  induction x with
  | zero => simp [rowF]
  | succ x ih =>
    unfold rowF
    split
    · rename_i hf
      rw [List.mem_append, List.mem_singleton, ih]
      constructor
      · rintro ((h | ⟨k, h1, h2, h3⟩) | rfl)
        · exact .inl h
        · exact .inr ⟨k, by omega, h2, h3⟩
        · exact .inr ⟨x, by omega, rfl, hf⟩
      · rintro (h | ⟨k, h1, h2, h3⟩)
        · exact .inl (.inl h)
        · rcases Nat.lt_or_ge k x with h | h
          · exact .inl (.inr ⟨k, h, h2, h3⟩)
          · have : k = x := by omega
            subst this; exact .inr h2
    · rename_i hf
      rw [ih]
      constructor
      · rintro (h | ⟨k, h1, h2, h3⟩)
        · exact .inl h
        · exact .inr ⟨k, by omega, h2, h3⟩
      · rintro (h | ⟨k, h1, h2, h3⟩)
        · exact .inl h
        · rcases Nat.lt_or_ge k x with h | h
          · exact .inr ⟨k, h, h2, h3⟩
          · have : k = x := by omega
            subst this; subst h2; exact absurd h3 hf
theorem mem_spotsF {f : List Int → Bool} {w : Nat} {s : List Int} : ∀ {y : Nat}, s ∈ spotsF f w y ↔ ∃ j k : Nat, j < y ∧ k < w ∧ s = [(k : Int), (j : Int)] ∧ f s = true := by
  intro y
  induction y with
  | zero => simp [spotsF]
  | succ y ih =>
    show s ∈ rowF f (spotsF f w y) y w ↔ _
    rw [mem_rowF, ih]
    constructor
    · rintro (⟨j, k, h1, h2, h3⟩ | ⟨k, h1, h2, h3⟩)
      · exact ⟨j, k, by omega, h2, h3⟩
      · exact ⟨y, k, by omega, h1, h2, h3⟩
    · rintro ⟨j, k, h1, h2, h3⟩
      rcases Nat.lt_or_ge j y with h | h
      · exact .inl ⟨j, k, h, h2, h3⟩
      · have : j = y := by omega
        subst this; exact .inr ⟨k, h2, h3⟩
theorem rowF_sorted {f : List Int → Bool} {acc : List (List Int)} {y : Nat} (ha : acc.Pairwise fun a b => lessS a b = true) (hb : ∀ s ∈ acc, s.getD 1 0 < (y : Int)) : ∀ x : Nat, (rowF f acc y x).Pairwise fun a b => lessS a b = true := by
  intro x
  induction x with
  | zero => exact ha
  | succ x ih =>
    unfold rowF
    split
    · refine List.pairwise_append.2 ⟨ih, List.pairwise_singleton _ _, fun a ha' b hb' => ?_⟩
      rw [List.mem_singleton] at hb'
      subst hb'
      rw [less_iff]
      rcases mem_rowF.1 ha' with h | ⟨k, h1, rfl, -⟩
      · exact .inl (hb a h)
      · exact .inr ⟨rfl, by simp only [List.getD_cons_zero]; omega⟩
    · exact ih
theorem spotsF_sorted (f : List Int → Bool) (w : Nat) : ∀ y : Nat, (spotsF f w y).Pairwise fun a b => lessS a b = true := by
  intro y
  induction y with
  | zero => exact List.Pairwise.nil
  | succ y ih =>
    refine rowF_sorted ih (fun s hs => ?_) w
    obtain ⟨j, k, h1, h2, rfl, -⟩ := mem_spotsF.1 hs
    simp only [List.getD_cons_succ, List.getD_cons_zero]; omega

theorem sortL_sorted (rows : List (List Int)) : (sortL cmpI rows).Pairwise fun a b => lessS b a = false := by
  have h := List.pairwise_mergeSort (le := fun x y : List Int => !decide (cmpI y x < 0)) (fun a b c h1 h2 => ?_) (fun a b => ?_) rows
  · refine h.imp fun {a b} h => ?_
    cases hh : lessS b a with
    | false => rfl
    | true => rw [decide_eq_true ((cmp_less _ _).2 hh)] at h; cases h
  · rw [Bool.not_eq_true', decide_eq_false_iff_not, cmp_less, Bool.not_eq_true, less_not] at *; omega
  · rw [Bool.or_eq_true, Bool.not_eq_true', Bool.not_eq_true', decide_eq_false_iff_not, decide_eq_false_iff_not, cmp_less, cmp_less, Bool.not_eq_true, Bool.not_eq_true, less_not, less_not]; omega
theorem cmpN_sorted {rows : List (List Int)} (hs : rows.Pairwise fun a b => lessS b a = false) (hl : ∀ r ∈ rows, r.length = 2) : ∀ i, i ≤ rows.length → (cmpN rows i).Pairwise fun a b => lessS a b = true := by
  have hget : ∀ i j, i < j → j < rows.length → lessS (rows.getD j []) (rows.getD i []) = false := by
    intro i j h1 h2
    rw [List.getD_eq_getElem?_getD, List.getD_eq_getElem?_getD, List.getElem?_eq_getElem h2, List.getElem?_eq_getElem (by omega)]
    exact List.pairwise_iff_getElem.1 hs i j (by omega) h2 h1
  intro i
  induction i with
  | zero => intro _; exact List.Pairwise.nil
  | succ i ih =>
    intro hi
    unfold cmpN
    split
    · exact ih (by omega)
    · rename_i hne
      refine List.pairwise_append.2 ⟨ih (by omega), List.pairwise_singleton _ _, fun a ha b hb => ?_⟩
      rw [List.mem_singleton] at hb
      subst hb
      rw [cmpN_mem i (by omega)] at ha
      obtain ⟨j, hj, rfl⟩ := List.mem_take_iff_getElem.1 ha
      have hji : j < i := by omega
      have e : rows[j] = rows.getD j [] := by rw [List.getD_eq_getElem?_getD, List.getElem?_eq_getElem (by omega)]; rfl
      rw [e]
      cases hh : lessS (rows.getD j []) (rows.getD i []) with
      | true => rfl
      | false =>
        exfalso
        refine hne ⟨by omega, ?_⟩
        have g1 := hget (i - 1) i (by omega) (by omega)
        have g2 : lessS (rows.getD (i - 1) []) (rows.getD j []) = false := by
          rcases Nat.lt_or_ge j (i - 1) with h | h
          · exact hget j (i - 1) h (by omega)
          · have : j = i - 1 := by omega
            rw [this, less_not]; omega
        rw [less_not] at g1 g2 hh
        obtain ⟨a0, a1, ea⟩ := len2 (hl _ (getD_mem (d := []) (show i < rows.length by omega)))
        obtain ⟨b0, b1, eb⟩ := len2 (hl _ (getD_mem (d := []) (show i - 1 < rows.length by omega)))
        rw [ea, eb] at g1 ⊢
        rw [eb] at g2
        rw [ea] at hh
        simp only [List.getD_cons_zero, List.getD_cons_succ] at g1 g2 hh ⊢
        have h1 : a0 = b0 := by omega
        have h2 : a1 = b1 := by omega
        rw [h1, h2]
theorem hasR_mem (rows : List (List Int)) (s : List Int) : hasR rows s = true ↔ s ∈ rows := by
  unfold hasR isR
  rw [List.any_eq_true]
  constructor
  · rintro ⟨x, hx, h⟩; rw [of_decide_eq_true h]; exact hx
  · intro h; exact ⟨s, h, decide_eq_true rfl⟩
/-- The cells of a list in order are those of the pasture that are in it. -/
theorem ordL_spots {p : List Int} {xs : List (List Int)} (hx : ∀ s ∈ xs, isP p s = true) (hl : ∀ s ∈ xs, s.length = 2) : ordL xs = spotsF (hasR xs) (p.getD 0 0).toNat (p.getD 1 0).toNat := by
  have hm : ∀ r, r ∈ sortL cmpI xs ↔ r ∈ xs := fun r => by unfold sortL; exact List.mem_mergeSort
  show compL (sortL cmpI xs) = _
  refine sort_eq (cmpN_sorted (sortL_sorted xs) (fun r hr => hl r ((hm r).1 hr)) _ (Nat.le_refl _)) (spotsF_sorted _ _ _) fun x => ?_
  rw [show x ∈ compL (sortL cmpI xs) ↔ x ∈ xs from ordL_mem xs x, mem_spotsF]
  constructor
  · intro h
    obtain ⟨a, b, rfl⟩ := len2 (hl x h)
    have := hx _ h
    unfold isP at this
    rw [decide_eq_true_eq] at this
    simp only [List.getD_cons_zero, List.getD_cons_succ] at this
    refine ⟨b.toNat, a.toNat, by omega, by omega, ?_, (hasR_mem _ _).2 h⟩
    rw [Int.toNat_of_nonneg (by omega), Int.toNat_of_nonneg (by omega)]
  · rintro ⟨j, k, -, -, -, h⟩
    exact (hasR_mem _ _).1 h

/-! The count, as the spec makes it. -/
def cntN (p : List Int) (xs : List (List Int)) (c : Int) (s : List Int) : Nat → Int
  | 0 => c
  | d + 1 => if hasR xs s = true ∧ outC p xs s d = true then cntN p xs c s d + 1 else cntN p xs c s d
def cntX (p : List Int) (xs : List (List Int)) (c : Int) (y : Nat) : Nat → Int
  | 0 => c
  | x + 1 => cntN p xs (cntX p xs c y x) [(x : Int), (y : Int)] 4
def cntY (p : List Int) (xs : List (List Int)) (w : Nat) : Nat → Int
  | 0 => 0
  | y + 1 => cntX p xs (cntY p xs w y) y w
theorem cntN_len {p : List Int} {xs acc : List (List Int)} {s : List Int} (h : hasR xs s = true) : ∀ d, cntN p xs acc.length s d = (sdN p xs acc s d).length := by
  intro d
  induction d with
  | zero => rfl
  | succ d ih =>
    unfold cntN sdN
    by_cases ho : outC p xs s d = true
    · rw [if_pos ⟨h, ho⟩, if_pos ho, ih]; simp
    · rw [if_neg (fun g => ho g.2), if_neg ho, ih]
theorem cntN_no {p : List Int} {xs : List (List Int)} {c : Int} {s : List Int} (h : ¬ hasR xs s = true) : ∀ d, cntN p xs c s d = c := by
  intro d
  induction d with
  | zero => rfl
  | succ d ih => unfold cntN; rw [if_neg (fun g => h g.1), ih]
theorem sdK_app (p : List Int) (xs l r : List (List Int)) : ∀ i, i ≤ l.length → sdK p xs (l ++ r) i = sdK p xs l i := by
  intro i
  induction i with
  | zero => intro _; rfl
  | succ i ih =>
    intro h
    simp only [sdK]
    rw [ih (by omega), List.getD_eq_getElem?_getD, List.getElem?_append_left (by omega), ← List.getD_eq_getElem?_getD]
def sdL (p : List Int) (xs l : List (List Int)) : List (List Int) := sdK p xs l l.length
theorem sdL_snoc (p : List Int) (xs l : List (List Int)) (c : List Int) : sdL p xs (l ++ [c]) = sdN p xs (sdL p xs l) c 4 := by
  unfold sdL
  rw [List.length_append, List.length_cons, List.length_nil, Nat.zero_add, sdK, sdK_app _ _ _ _ _ (Nat.le_refl _)]
  congr 1
  rw [List.getD_eq_getElem?_getD, List.getElem?_append_right (Nat.le_refl _), Nat.sub_self]; rfl
theorem cntX_len (p : List Int) (xs acc : List (List Int)) (y : Nat) : ∀ x, cntX p xs (sdL p xs acc).length y x = (sdL p xs (rowF (hasR xs) acc y x)).length := by
  intro x
  induction x with
  | zero => rfl
  | succ x ih =>
    unfold cntX rowF
    rw [ih]
    by_cases h : hasR xs [(x : Int), (y : Int)] = true
    · rw [if_pos h, sdL_snoc, cntN_len h]
    · rw [if_neg h, cntN_no h]
theorem cntY_len (p : List Int) (xs : List (List Int)) (w : Nat) : ∀ y, cntY p xs w y = (sdL p xs (spotsF (hasR xs) w y)).length := by
  intro y
  induction y with
  | zero => rfl
  | succ y ih =>
    unfold cntY
    rw [ih, cntX_len]; rfl
theorem side_count {p : List Int} {xs : List (List Int)} (hx : ∀ s ∈ xs, isP p s = true) (hl : ∀ s ∈ xs, s.length = 2) : ((sideL p xs).length : Int) = cntY p xs (p.getD 0 0).toNat (p.getD 1 0).toNat := by
  rw [cntY_len, ← ordL_spots hx hl]; rfl
end Go.Proofs.YtjbgjgkogmlpfaaGreat
