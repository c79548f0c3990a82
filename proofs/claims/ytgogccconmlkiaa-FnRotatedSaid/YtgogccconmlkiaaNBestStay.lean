/- The row BestStay: the spec and the program choose the same stay. -/
import Derived.Test.YtgogccconmlkiaaRot2
import Derived.Test.YtgogccconmlkiaaInts
import Derived.Test.YtgogccconmlkiaaEqs
namespace Go.Proofs.Ytgogccconmlkiaa
open Go Go.Eng
set_option linter.unusedSimpArgs false
set_option linter.unusedVariables false
set_option maxRecDepth 100000
set_option maxHeartbeats 4000000

/-- What is eaten at a stay. -/
noncomputable def eatA (p g : List Int) (rows : List (List Int)) (eats days : Int) (s : Nat) : Int :=
  sumI (rtK p g (yL p (spots p)) rows s eats days.toNat).2 (rtK p g (yL p (spots p)) rows s eats days.toNat).2.length
/-- The best stay so far. -/
noncomputable def bsK (f : Nat → Int) : Nat → Int × Int
  | 0 => (0, -1)
  | i + 1 => if (bsK f i).2 < f (i + 1) then ((i : Int) + 1, f (i + 1)) else bsK f i
theorem bsK_ok {f : Nat → Int} {b : Int} (h : ∀ s, 1 ≤ s → s ≤ 30 → 0 ≤ f s ∧ f s ≤ b) : ∀ i, 1 ≤ i → i ≤ 30 → 1 ≤ (bsK f i).1 ∧ (bsK f i).1 ≤ i ∧ 0 ≤ (bsK f i).2 ∧ (bsK f i).2 ≤ b := by
  intro i
  induction i with
  | zero => intro h; omega
  | succ i ih =>
    intro _ hi
    have h1 := h (i + 1) (by omega) hi
    unfold bsK
    split
    · exact ⟨by dsimp only; omega, by dsimp only; omega, h1.1, h1.2⟩
    · rename_i hn
      by_cases h0 : i = 0
      · subst h0
        simp only [bsK] at hn; omega
      · have := ih (by omega) (by omega)
        exact ⟨this.1, by omega, this.2.2.1, this.2.2.2⟩
/-- The spec's most: 0 before the first stay. -/
noncomputable def m2 (f : Nat → Int) : Nat → Int
  | 0 => 0
  | i + 1 => (bsK f (i + 1)).2

theorem rot_ok {p g : List Int} {rows : List (List Int)} {stay eats days : Int} (hlen : p.length = 122) (h : rotC p g rows stay eats days = 0) : RtOk p g (yL p (spots p)) rows stay eats days := by
  obtain ⟨h1, h2, h3, h4, h5, h6, h7⟩ := rotC_ok h
  exact ⟨GR.of hlen h1, h1.1, h2, fun Y hY => yL_cells h1.1 hY, h4, h5, ⟨h6, h7⟩, h3⟩
theorem RtOk.stay {p g : List Int} {Ys : List (List (List Int))} {rows : List (List Int)} {stay stay' eats days : Int} (h : RtOk p g Ys rows stay eats days) (h' : 1 ≤ stay' ∧ stay' ≤ 365) : RtOk p g Ys rows stay' eats days :=
  ⟨h.gr, h.dm, h.gg, h.ys, h', h.ea, h.od, h.dd⟩
theorem eat_ok {p g : List Int} {rows : List (List Int)} {eats days : Int} {s : Nat} (h : RtOk p g (yL p (spots p)) rows s eats days) :
    ((rtK p g (yL p (spots p)) rows s eats days.toNat).2.length ≤ 1000 ∧ ∀ r ∈ (rtK p g (yL p (spots p)) rows s eats days.toNat).2, 0 ≤ r.getD 0 0 ∧ r.getD 0 0 ≤ 100000) ∧ 0 ≤ eatA p g rows eats days s ∧ eatA p g rows eats days s ≤ 100000000 := by
  obtain ⟨-, -, h3, h4⟩ := rtK_ok h days.toNat
  have h5 := sumI_rng (b := 100000) (by decide) h4 _ (Nat.le_refl _)
  have h6 := h.dd
  refine ⟨⟨by omega, h4⟩, h5.1, ?_⟩
  have h7 := h5.2
  unfold eatA
  omega

noncomputable def bstS : Fun
  | [.ag .pas p, .ag .gro g, .fs .i64 rows, .i .i64 eats, .i .i64 days], [] => some (.t3 (.i .i64 (if rotC p g rows 1 eats days = 0 then (bsK (eatA p g rows eats days) 30).1 else 0)) (.i .i64 (if rotC p g rows 1 eats days = 0 then (bsK (eatA p g rows eats days) 30).2 else 0)) (.i .i64 (rotC p g rows 1 eats days)), [], [])
  | _, _ => .none
theorem sameA_i3 {k k' k'' : IntKind} {a b c d e f : Int} (h : a = b) (h' : c = d) (h'' : e = f) : sameA (.t3 (.i k'' a) (.i k c) (.i k' e)) (.t3 (.i k'' b) (.i k d) (.i k' f)) := by subst h; subst h'; subst h''; exact sameA_refl _

set_option maxRecDepth 100000 in
theorem s_implBestStay : Sound Try.prog 20 bstS := by
  intro args M r M' vs h hvs
  unfold bstS at h
  split at h
  case h_2 => cases h
  rename_i p g rows eats days
  cases h
  refine SpecOK.assume fun hA hM => ?_
  have htb := (TbOk.cons s_rotateCode Try.func67 rfl rfl (TbOk.cons s_rotate Try.func69 rfl rfl (TbOk.cons s_sum Try.func68 rfl rfl (TbOk.nil : TbOk Try.prog tb0))))
  refine SpecOK.of_goes [] Try.func20 rfl ?_
  have hlen : p.length = 122 := hA.1
  have hok := fun h => rot_ok (p := p) (g := g) (rows := rows) (stay := 1) (eats := eats) (days := days) hlen h
  clear hA hM
  refine Goes.tree Γ_ok htb 1000 true false Try.func20 rfl ?_
  ((try simp only [decide_eq_true_eq, decide_eq_false_iff_not, Bool.not_eq_true', Bool.not_eq_false', Bool.not_true, Bool.not_false, Bool.and_eq_true, Bool.or_eq_true, bne_iff_ne, beq_iff_eq, ne_eq]); (try simp only [rng, lo, hi, mnI, mxI, Int.toNat_natCast, Sg.n, Nat.mul_one, Nat.zero_add, Nat.add_zero, Nat.reduceAdd, List.getD_cons_zero, List.getD_cons_succ]))
  ((repeat' (first | (with_reducible apply And.intro) | intro _)); all_goals (first | exact trivial | (with_reducible assumption) | (show (_ : List Blk) = _; rfl) | (first | exact trivial | (with_reducible assumption) | omega | (split <;> omega) | (split <;> split <;> omega)) | skip); all_goals (try (refine ⟨rfl, (by first | exact Nat.le_refl _ | exact Nat.le_of_ble_eq_true rfl), rfl, rfl, ?_, (by repeat' (first | exact trivial | rfl | apply And.intro)), rfl, rfl⟩)))
  · rename_i h
    refine sameA_i3 ?_ ?_ rfl <;> rw [if_neg h]
  rename_i h
  have hR := hok h
  have hE := fun s : Nat => fun (h1 : 1 ≤ s) (h2 : s ≤ 30) => eat_ok (s := s) (hR.stay (stay' := s) (by omega))
  have hB := bsK_ok (f := eatA p g rows eats days) (b := 100000000) (fun s h1 h2 => (hE s h1 h2).2)
  rw [if_pos h, if_pos h, h]
  refine ⟨?_⟩
  refine Goes.loopR (fun i : Nat => 30 - i) (fun i => i ≤ 30) (fun i => (.any :: .any :: .fs .i64 rows :: .i .i64 eats :: .i .i64 days :: .pw 0 .pas :: .pw 1 .gro :: .any :: .any :: .any :: .any :: .any :: .any :: .any :: .i .i64 (bsK (eatA p g rows eats days) i).1 :: .i .i64 (bsK (eatA p g rows eats days) i).2 :: .i .i64 ((i:Int) + 1) :: .any :: .any :: .any :: .any :: .any :: .any :: .any :: .any :: .any :: .any :: .any :: .any :: .any :: .any :: .any :: .any :: .any :: .any :: .any :: .any :: .any :: .any :: .any :: .any :: .any :: .any :: .any :: .any :: .any :: .any :: []))
    (fun i => [.c .pas p, .c .gro g]) 0 [0, 1] (Nat.zero_le _) ⟨rfl, rfl, rfl, (by repeat' (first | exact trivial | rfl | apply And.intro)), (by repeat' (first | exact trivial | rfl | apply And.intro)), rfl, rfl, rfl⟩ fun i hle ih => ?_
  by_cases hlt : i < 30
  · have hRi : RtOk p g (yL p (spots p)) rows ((i : Int) + 1) eats days := hR.stay (by omega)
    have hEi : ((rtK p g (yL p (spots p)) rows ((i : Int) + 1) eats days.toNat).2.length ≤ 1000 ∧ ∀ r ∈ (rtK p g (yL p (spots p)) rows ((i : Int) + 1) eats days.toNat).2, 0 ≤ r.getD 0 0 ∧ r.getD 0 0 ≤ 100000) := (hE (i + 1) (by omega) (by omega)).1
    have e0 : eatA p g rows eats days (i + 1) = sumI (rtK p g (yL p (spots p)) rows ((i : Int) + 1) eats days.toNat).2 (rtK p g (yL p (spots p)) rows ((i : Int) + 1) eats days.toNat).2.length := rfl
    have hyes : (bsK (eatA p g rows eats days) i).2 < eatA p g rows eats days (i + 1) → bsK (eatA p g rows eats days) (i + 1) = ((i : Int) + 1, eatA p g rows eats days (i + 1)) := fun h => if_pos h
    have hno : ¬ (bsK (eatA p g rows eats days) i).2 < eatA p g rows eats days (i + 1) → bsK (eatA p g rows eats days) (i + 1) = bsK (eatA p g rows eats days) i := fun h => if_neg h
    rw [e0] at hyes hno
    refine Goes.tree Γ_ok htb 1000 true false Try.func20 rfl ?_
    ((try simp only [decide_eq_true_eq, decide_eq_false_iff_not, Bool.not_eq_true', Bool.not_eq_false', Bool.not_true, Bool.not_false, Bool.and_eq_true, Bool.or_eq_true, bne_iff_ne, beq_iff_eq, ne_eq]); (try simp only [rng, lo, hi, mnI, mxI, Int.toNat_natCast, Sg.n, Nat.mul_one, Nat.zero_add, Nat.add_zero, Nat.reduceAdd, List.getD_cons_zero, List.getD_cons_succ]))
    ((repeat' (first | (with_reducible apply And.intro) | intro _)); all_goals (first | exact trivial | (with_reducible assumption) | (show (_ : List Blk) = _; rfl) | (first | exact trivial | (with_reducible assumption) | omega | (split <;> omega) | (split <;> split <;> omega)) | skip); all_goals (try (refine ⟨rfl, (by first | exact Nat.le_refl _ | exact Nat.le_of_ble_eq_true rfl), rfl, rfl, ?_, (by repeat' (first | exact trivial | rfl | apply And.intro)), rfl, rfl⟩)))
    all_goals (try first | exact hRi | exact (hEi.2 _ (by assumption)).1 | exact (hEi.2 _ (by assumption)).2)
    · refine ⟨ih (i + 1) (by omega) (by omega) [0, 1] _ _ ?_⟩
      rw [hyes (by assumption)]
      exact ⟨rfl, rfl, rfl, (by repeat' (first | exact trivial | rfl | apply And.intro)), (by repeat' (first | exact trivial | rfl | apply And.intro)), rfl, rfl, rfl⟩
    · refine ⟨ih (i + 1) (by omega) (by omega) [0, 1] _ _ ?_⟩
      rw [hno (by assumption)]
      exact ⟨rfl, rfl, rfl, (by repeat' (first | exact trivial | rfl | apply And.intro)), (by repeat' (first | exact trivial | rfl | apply And.intro)), rfl, rfl, rfl⟩
  · obtain rfl : i = 30 := by omega
    clear ih
    refine Goes.tree Γ_ok htb 1000 true false Try.func20 rfl ?_
    ((try simp only [decide_eq_true_eq, decide_eq_false_iff_not, Bool.not_eq_true', Bool.not_eq_false', Bool.not_true, Bool.not_false, Bool.and_eq_true, Bool.or_eq_true, bne_iff_ne, beq_iff_eq, ne_eq]); (try simp only [rng, lo, hi, mnI, mxI, Int.toNat_natCast, Sg.n, Nat.mul_one, Nat.zero_add, Nat.add_zero, Nat.reduceAdd, List.getD_cons_zero, List.getD_cons_succ]))
    ((repeat' (first | (with_reducible apply And.intro) | intro _)); all_goals (first | exact trivial | (with_reducible assumption) | (show (_ : List Blk) = _; rfl) | (first | exact trivial | (with_reducible assumption) | omega | (split <;> omega) | (split <;> split <;> omega)) | skip); all_goals (try (refine ⟨rfl, (by first | exact Nat.le_refl _ | exact Nat.le_of_ble_eq_true rfl), rfl, rfl, ?_, (by repeat' (first | exact trivial | rfl | apply And.intro)), rfl, rfl⟩)))
    all_goals (first | contradiction | exact sameA_refl _ | trace_state)

set_option maxRecDepth 100000 in
theorem s_specBestStay : Sound Try.prog 17 bstS := by
  intro args M r M' vs h hvs
  unfold bstS at h
  split at h
  case h_2 => cases h
  rename_i p g rows eats days
  cases h
  refine SpecOK.assume fun hA hM => ?_
  have htb := (TbOk.cons s_l04Rotated Try.func64 rfl rfl (TbOk.cons s_l04Rotate Try.func65 rfl rfl (TbOk.nil : TbOk Try.prog tb0)))
  refine SpecOK.of_goes [] Try.func17 rfl ?_
  have hlen : p.length = 122 := hA.1
  have hok := fun h => rot_ok (p := p) (g := g) (rows := rows) (stay := 1) (eats := eats) (days := days) hlen h
  clear hA hM
  refine Goes.tree Γ_ok htb 1000 true false Try.func17 rfl ?_
  ((try simp only [decide_eq_true_eq, decide_eq_false_iff_not, Bool.not_eq_true', Bool.not_eq_false', Bool.not_true, Bool.not_false, Bool.and_eq_true, Bool.or_eq_true, bne_iff_ne, beq_iff_eq, ne_eq]); (try simp only [rng, lo, hi, mnI, mxI, Int.toNat_natCast, Sg.n, Nat.mul_one, Nat.zero_add, Nat.add_zero, Nat.reduceAdd, List.getD_cons_zero, List.getD_cons_succ]))
  ((repeat' (first | (with_reducible apply And.intro) | intro _)); all_goals (first | exact trivial | (with_reducible assumption) | (show (_ : List Blk) = _; rfl) | (first | exact trivial | (with_reducible assumption) | omega | (split <;> omega) | (split <;> split <;> omega)) | skip); all_goals (try (refine ⟨rfl, (by first | exact Nat.le_refl _ | exact Nat.le_of_ble_eq_true rfl), rfl, rfl, ?_, (by repeat' (first | exact trivial | rfl | apply And.intro)), rfl, rfl⟩)))
  · rename_i h
    refine sameA_i3 ?_ ?_ rfl <;> rw [if_neg h]
  rename_i h
  have hR := hok h
  have hE := fun s : Nat => fun (h1 : 1 ≤ s) (h2 : s ≤ 30) => eat_ok (s := s) (hR.stay (stay' := s) (by omega))
  have hB := bsK_ok (f := eatA p g rows eats days) (b := 100000000) (fun s h1 h2 => (hE s h1 h2).2)
  rw [if_pos h, if_pos h, h]
  refine ⟨?_⟩
  refine Goes.loopR (fun i : Nat => 30 - i) (fun i => i ≤ 30) (fun i => (.any :: .any :: .fs .i64 rows :: .i .i64 eats :: .i .i64 days :: .pw 0 .pas :: .pw 1 .gro :: .any :: .any :: .any :: .any :: .any :: .any :: .any :: .i .i64 (bsK (eatA p g rows eats days) i).1 :: .i .i64 (m2 (eatA p g rows eats days) i) :: .i .i64 ((i:Int) + 1) :: .any :: .any :: .any :: .any :: .any :: .any :: .any :: .any :: .any :: .any :: .any :: .any :: .any :: .any :: .any :: .any :: .any :: .any :: .any :: .any :: .any :: .any :: .any :: .any :: .any :: .any :: .any :: .any :: .any :: .any :: .any :: .any :: .any :: .any :: .any :: .any :: .any :: .any :: .any :: .any :: .any :: .any :: .any :: .any :: .any :: .any :: .any :: []))
    (fun i => [.c .pas p, .c .gro g]) 0 [0, 1] (Nat.zero_le _) ⟨rfl, rfl, rfl, (by repeat' (first | exact trivial | rfl | apply And.intro)), (by repeat' (first | exact trivial | rfl | apply And.intro)), rfl, rfl, rfl⟩ fun i hle ih => ?_
  by_cases hlt : i < 30
  · have hRi : RtOk p g (yL p (spots p)) rows ((i : Int) + 1) eats days := hR.stay (by omega)
    obtain ⟨hEi, hEr⟩ := hE (i + 1) (by omega) (by omega)
    have e0 : eatA p g rows eats days (i + 1) = sumI (rtK p g (yL p (spots p)) rows ((i : Int) + 1) eats days.toNat).2 (rtK p g (yL p (spots p)) rows ((i : Int) + 1) eats days.toNat).2.length := rfl
    have hSr := sumI_rng (b := 100000) (by decide) hEi.2
    have hSl := hEi.1
    have hSl' : (rtK p g (yL p (spots p)) rows ((i : Int) + 1) eats days.toNat).2.length ≤ 1000 := hSl
    have hSr' : ∀ k, k ≤ (rtK p g (yL p (spots p)) rows ((i : Int) + 1) eats days.toNat).2.length → 0 ≤ sumI (rtK p g (yL p (spots p)) rows ((i : Int) + 1) eats days.toNat).2 k ∧ sumI (rtK p g (yL p (spots p)) rows ((i : Int) + 1) eats days.toNat).2 k ≤ 100000 * k := hSr
    have hEl : ∀ r ∈ (rtK p g (yL p (spots p)) rows ((i : Int) + 1) eats days.toNat).2, 0 ≤ r.getD 0 0 ∧ r.getD 0 0 ≤ 100000 := hEi.2
    have hyes : ((bsK (eatA p g rows eats days) i).1 = 0 ∨ m2 (eatA p g rows eats days) i < eatA p g rows eats days (i + 1)) → bsK (eatA p g rows eats days) (i + 1) = ((i : Int) + 1, eatA p g rows eats days (i + 1)) ∧ m2 (eatA p g rows eats days) (i + 1) = eatA p g rows eats days (i + 1) := fun h => by
      have h1 : (bsK (eatA p g rows eats days) i).2 < eatA p g rows eats days (i + 1) := by
        cases i with
        | zero => show (-1 : Int) < _; omega
        | succ i =>
          have := hB (i + 1) (by omega) (by omega)
          rcases h with h | h
          · omega
          · exact h
      have h2 : bsK (eatA p g rows eats days) (i + 1) = ((i : Int) + 1, eatA p g rows eats days (i + 1)) := if_pos h1
      exact ⟨h2, by show (bsK (eatA p g rows eats days) (i + 1)).2 = _; rw [h2]⟩
    have hno : ¬ ((bsK (eatA p g rows eats days) i).1 = 0 ∨ m2 (eatA p g rows eats days) i < eatA p g rows eats days (i + 1)) → bsK (eatA p g rows eats days) (i + 1) = bsK (eatA p g rows eats days) i ∧ m2 (eatA p g rows eats days) (i + 1) = m2 (eatA p g rows eats days) i := fun h => by
      have h1 : i ≠ 0 := fun e => h (.inl (by subst e; rfl))
      obtain ⟨j, rfl⟩ : ∃ j, i = j + 1 := ⟨i - 1, by omega⟩
      have h2 : ¬ (bsK (eatA p g rows eats days) (j + 1)).2 < eatA p g rows eats days (j + 1 + 1) := fun e => h (.inr e)
      have h3 : bsK (eatA p g rows eats days) (j + 1 + 1) = bsK (eatA p g rows eats days) (j + 1) := if_neg h2
      exact ⟨h3, by show (bsK (eatA p g rows eats days) (j + 1 + 1)).2 = (bsK (eatA p g rows eats days) (j + 1)).2; rw [h3]⟩
    rw [e0] at hyes hno
    clear hSr hSl hE hB hEi hEr e0
    refine Goes.tree Γ_ok htb 1000 true false Try.func17 rfl ?_
    ((try simp only [decide_eq_true_eq, decide_eq_false_iff_not, Bool.not_eq_true', Bool.not_eq_false', Bool.not_true, Bool.not_false, Bool.and_eq_true, Bool.or_eq_true, bne_iff_ne, beq_iff_eq, ne_eq]); (try simp only [rng, lo, hi, mnI, mxI, Int.toNat_natCast, Sg.n, Nat.mul_one, Nat.zero_add, Nat.add_zero, Nat.reduceAdd, List.getD_cons_zero, List.getD_cons_succ]))
    ((repeat' (first | (with_reducible apply And.intro) | intro _)); all_goals (first | exact trivial | (with_reducible assumption) | (show (_ : List Blk) = _; rfl) | (first | exact trivial | (with_reducible assumption) | omega | (split <;> omega) | (split <;> split <;> omega)) | skip); all_goals (try (refine ⟨rfl, (by first | exact Nat.le_refl _ | exact Nat.le_of_ble_eq_true rfl), rfl, rfl, ?_, (by repeat' (first | exact trivial | rfl | apply And.intro)), rfl, rfl⟩)))
    refine ⟨?_⟩
    generalize (rtK p g (yL p (spots p)) rows ((i : Int) + 1) eats days.toNat).2 = S at *
    refine Goes.loopR (fun k : Nat => S.length - k) (fun k => k ≤ S.length) (fun k => (.any :: .any :: .fs .i64 rows :: .i .i64 eats :: .i .i64 days :: .pw 0 .pas :: .pw 1 .gro :: .any :: .any :: .any :: .any :: .any :: .any :: .any :: .i .i64 (bsK (eatA p g rows eats days) i).1 :: .i .i64 (m2 (eatA p g rows eats days) i) :: .i .i64 ((i:Int) + 1) :: .any :: .fs .i64 S :: .i .i64 (sumI S k) :: .i .i64 (k:Int) :: .any :: .any :: .any :: .any :: .any :: .any :: .any :: .any :: .any :: .any :: .any :: .any :: .any :: .any :: .any :: .any :: .any :: .any :: .any :: .any :: .any :: .any :: .any :: .any :: .any :: .any :: .any :: .any :: .any :: .any :: .any :: .any :: .any :: .any :: .any :: .any :: .any :: .any :: .any :: .any :: .any :: .any :: .any :: []))
      (fun k => [.c .pas p, .c .gro g]) 0 [0, 1] (Nat.zero_le _) ⟨rfl, rfl, rfl, (by repeat' (first | exact trivial | rfl | apply And.intro)), (by repeat' (first | exact trivial | rfl | apply And.intro)), rfl, rfl, rfl⟩ fun k hk ihK => ?_
    have hs1 := hSr' k hk
    by_cases hlk : k < S.length
    · have hs2 := hEl _ (getD_mem (d := []) hlk)
      clear hyes hno ih
      refine Goes.tree Γ_ok htb 1000 true false Try.func17 rfl ?_
      ((try simp only [decide_eq_true_eq, decide_eq_false_iff_not, Bool.not_eq_true', Bool.not_eq_false', Bool.not_true, Bool.not_false, Bool.and_eq_true, Bool.or_eq_true, bne_iff_ne, beq_iff_eq, ne_eq]); (try simp only [rng, lo, hi, mnI, mxI, Int.toNat_natCast, Sg.n, Nat.mul_one, Nat.zero_add, Nat.add_zero, Nat.reduceAdd, List.getD_cons_zero, List.getD_cons_succ]))
      ((repeat' (first | (with_reducible apply And.intro) | intro _)); all_goals (first | exact trivial | (with_reducible assumption) | (show (_ : List Blk) = _; rfl) | (first | exact trivial | (with_reducible assumption) | omega | (split <;> omega) | (split <;> split <;> omega)) | skip); all_goals (try (refine ⟨rfl, (by first | exact Nat.le_refl _ | exact Nat.le_of_ble_eq_true rfl), rfl, rfl, ?_, (by repeat' (first | exact trivial | rfl | apply And.intro)), rfl, rfl⟩)))
      all_goals (first | exact ⟨ihK (k + 1) (by omega) (by omega) [0, 1] _ _ ⟨rfl, rfl, rfl, (by repeat' (first | exact trivial | rfl | apply And.intro)), (by repeat' (first | exact trivial | rfl | apply And.intro)), rfl, rfl, rfl⟩⟩ | trace_state)
    · obtain rfl : k = S.length := by omega
      clear ihK
      refine Goes.tree Γ_ok htb 1000 true false Try.func17 rfl ?_
      ((try simp only [decide_eq_true_eq, decide_eq_false_iff_not, Bool.not_eq_true', Bool.not_eq_false', Bool.not_true, Bool.not_false, Bool.and_eq_true, Bool.or_eq_true, bne_iff_ne, beq_iff_eq, ne_eq]); (try simp only [rng, lo, hi, mnI, mxI, Int.toNat_natCast, Sg.n, Nat.mul_one, Nat.zero_add, Nat.add_zero, Nat.reduceAdd, List.getD_cons_zero, List.getD_cons_succ]))
      ((repeat' (first | (with_reducible apply And.intro) | intro _)); all_goals (first | exact trivial | (with_reducible assumption) | (show (_ : List Blk) = _; rfl) | (first | exact trivial | (with_reducible assumption) | omega | (split <;> omega) | (split <;> split <;> omega)) | skip); all_goals (try (refine ⟨rfl, (by first | exact Nat.le_refl _ | exact Nat.le_of_ble_eq_true rfl), rfl, rfl, ?_, (by repeat' (first | exact trivial | rfl | apply And.intro)), rfl, rfl⟩)))
      · rename_i hc
        refine ⟨ih (i + 1) (by omega) (by omega) [0, 1] _ _ ?_⟩
        rw [(hyes (.inl hc)).1, (hyes (.inl hc)).2]
        exact ⟨rfl, rfl, rfl, (by repeat' (first | exact trivial | rfl | apply And.intro)), (by repeat' (first | exact trivial | rfl | apply And.intro)), rfl, rfl, rfl⟩
      · rename_i hc
        refine ⟨ih (i + 1) (by omega) (by omega) [0, 1] _ _ ?_⟩
        rw [(hyes (.inr hc)).1, (hyes (.inr hc)).2]
        exact ⟨rfl, rfl, rfl, (by repeat' (first | exact trivial | rfl | apply And.intro)), (by repeat' (first | exact trivial | rfl | apply And.intro)), rfl, rfl, rfl⟩
      · rename_i hb hc
        have hn := hno (fun h => h.elim hb hc)
        refine ⟨ih (i + 1) (by omega) (by omega) [0, 1] _ _ ?_⟩
        rw [hn.1, hn.2]
        exact ⟨rfl, rfl, rfl, (by repeat' (first | exact trivial | rfl | apply And.intro)), (by repeat' (first | exact trivial | rfl | apply And.intro)), rfl, rfl, rfl⟩
  · obtain rfl : i = 30 := by omega
    clear ih
    refine Goes.tree Γ_ok htb 1000 true false Try.func17 rfl ?_
    ((try simp only [decide_eq_true_eq, decide_eq_false_iff_not, Bool.not_eq_true', Bool.not_eq_false', Bool.not_true, Bool.not_false, Bool.and_eq_true, Bool.or_eq_true, bne_iff_ne, beq_iff_eq, ne_eq]); (try simp only [rng, lo, hi, mnI, mxI, Int.toNat_natCast, Sg.n, Nat.mul_one, Nat.zero_add, Nat.add_zero, Nat.reduceAdd, List.getD_cons_zero, List.getD_cons_succ]))
    ((repeat' (first | (with_reducible apply And.intro) | intro _)); all_goals (first | exact trivial | (with_reducible assumption) | (show (_ : List Blk) = _; rfl) | (first | exact trivial | (with_reducible assumption) | omega | (split <;> omega) | (split <;> split <;> omega)) | skip); all_goals (try (refine ⟨rfl, (by first | exact Nat.le_refl _ | exact Nat.le_of_ble_eq_true rfl), rfl, rfl, ?_, (by repeat' (first | exact trivial | rfl | apply And.intro)), rfl, rfl⟩)))
    all_goals (first | contradiction | exact sameA_refl _ | trace_state)

end Go.Proofs.Ytgogccconmlkiaa
