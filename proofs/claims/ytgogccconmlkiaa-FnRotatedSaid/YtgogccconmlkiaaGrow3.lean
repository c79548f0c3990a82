/- All cells grow for a day, but some. -/
import Derived.Test.YtgogccconmlkiaaHas
import Derived.Test.YtgogccconmlkiaaGr0
import Derived.Test.YtgogccconmlkiaaGrow2
namespace Go.Proofs.Ytgogccconmlkiaa
open Go Go.Eng
set_option linter.unusedSimpArgs false
set_option linter.unusedVariables false
set_option maxRecDepth 100000
set_option maxHeartbeats 4000000

def grow1 (g : List Int) (but : List (List Int)) (p s : List Int) : List Int :=
  if hasR but s = true then p else p.set (gx s) (grown g (p.getD (gx s) 0))
/-- The first i cells of a list grow. -/
def growK (g : List Int) (but : List (List Int)) (p : List Int) (rows : List (List Int)) : Nat → List Int
  | 0 => p
  | i + 1 => grow1 g but (growK g but p rows i) (rows.getD i [])
def growP (g : List Int) (but : List (List Int)) (p : List Int) : List Int := growK g but p (spots p) (spots p).length

theorem growK_app (g : List Int) (but : List (List Int)) (p : List Int) (l r : List (List Int)) : ∀ i, i ≤ l.length → growK g but p (l ++ r) i = growK g but p l i := by
  intro i
  induction i with
  | zero => intro _; rfl
  | succ i ih =>
    intro h
    simp only [growK]
    rw [ih (by omega), List.getD_eq_getElem?_getD, List.getElem?_append_left (by omega), ← List.getD_eq_getElem?_getD]
theorem growK_snoc (g : List Int) (but : List (List Int)) (p : List Int) (l : List (List Int)) (r : List Int) : growK g but p (l ++ [r]) (l ++ [r]).length = grow1 g but (growK g but p l l.length) r := by
  rw [List.length_append, List.length_cons, List.length_nil, Nat.zero_add, growK, growK_app _ _ _ _ _ _ (Nat.le_refl _)]
  congr 1
  rw [List.getD_eq_getElem?_getD, List.getElem?_append_right (Nat.le_refl _), Nat.sub_self]; rfl

theorem grown_ok {g : List Int} {v : Int} (hg : okG g) (h0 : 0 ≤ v) (h1 : v ≤ 1000) : v ≤ grown g v ∧ grown g v ≤ 1000 := by
  obtain ⟨ht, hl0, hl1⟩ := hg
  have := ht (v / 100).toNat (by omega)
  unfold grown
  split
  · omega
  · split <;> omega

theorem growK_ok {g : List Int} {but : List (List Int)} {p : List Int} {rows : List (List Int)} (hg : okG g) (hp : GR p) (hr : ∀ s ∈ rows, inG s) : ∀ i, i ≤ rows.length →
    GR (growK g but p rows i) ∧ ∀ j, j < 2 → (growK g but p rows i).getD j 0 = p.getD j 0 := by
  intro i
  induction i with
  | zero => intro _; exact ⟨hp, fun _ _ => rfl⟩
  | succ i ih =>
    intro hi
    obtain ⟨g1, g2⟩ := ih (by omega)
    have hgi : inG (rows.getD i []) := hr _ (by rw [List.getD_eq_getElem?_getD, List.getElem?_eq_getElem (by omega)]; exact List.getElem_mem _)
    have hv := g1.rng _ hgi
    have hw := grown_ok hg hv.1 hv.2
    unfold growK grow1
    split
    · exact ⟨g1, g2⟩
    · refine ⟨g1.set _ (by omega) hw.2, fun j hj => ?_⟩
      rw [sg_low (gx_lt hgi).2 hj]; exact g2 j hj

theorem growP_ok {g : List Int} {but : List (List Int)} {p : List Int} (hg : okG g) (hp : GR p) (hd : okD p) : GR (growP g but p) ∧ okD (growP g but p) := by
  have h := growK_ok (but := but) hg hp (spots_ok hd).2 (spots p).length (Nat.le_refl _)
  refine ⟨h.1, ?_⟩
  unfold okD at *
  unfold growP
  rw [h.2 0 (by omega), h.2 1 (by omega)]
  exact hd

/-! The sum of all grass. -/
theorem rowN_set (p : List Int) (i : Nat) (v : Int) (hl : i < p.length) (acc : Int) (y : Nat) : ∀ x, rowN (p.set i v) acc y x = rowN p acc y x + if 2 + y * 10 ≤ i ∧ i < 2 + y * 10 + x then v - p.getD i 0 else 0 := by
  intro x
  induction x with
  | zero => simp only [rowN]; rw [if_neg (by omega)]; omega
  | succ x ih =>
    simp only [rowN]
    rw [ih, sg_get]
    by_cases h1 : i = 2 + y * 10 + x
    · subst h1
      rw [if_neg (by omega), if_pos ⟨rfl, hl⟩, if_pos (by omega)]; omega
    · rw [if_neg (fun h : i = 2 + y * 10 + x ∧ 2 + y * 10 + x < p.length => h1 h.1)]
      by_cases h2 : 2 + y * 10 ≤ i ∧ i < 2 + y * 10 + x
      · rw [if_pos h2, if_pos (by omega)]; omega
      · rw [if_neg h2, if_neg (by omega)]; omega
theorem rowN_acc (p : List Int) (acc : Int) (y : Nat) : ∀ x, rowN p acc y x = acc + rowN p 0 y x := by
  intro x
  induction x with
  | zero => simp [rowN]
  | succ x ih => simp only [rowN]; omega
theorem sumA_set (p : List Int) (i : Nat) (v : Int) (hl : i < p.length) : ∀ y, sumA (p.set i v) y = sumA p y + if 2 ≤ i ∧ i < 2 + y * 10 then v - p.getD i 0 else 0 := by
  intro y
  induction y with
  | zero => simp only [sumA]; rw [if_neg (by omega)]; omega
  | succ y ih =>
    simp only [sumA]
    rw [rowN_set p i v hl, ih, rowN_acc, rowN_acc p (sumA p y)]
    by_cases h1 : 2 + y * 10 ≤ i ∧ i < 2 + y * 10 + 10
    · rw [if_pos h1, if_neg (by omega), if_pos (by omega)]; omega
    · rw [if_neg h1]
      by_cases h2 : 2 ≤ i ∧ i < 2 + y * 10
      · rw [if_pos h2, if_pos (by omega)]; omega
      · rw [if_neg h2, if_neg (by omega)]; omega
theorem sumA_gx {p s : List Int} {v : Int} (hp : GR p) (hs : inG s) : sumA (p.set (gx s) v) 10 = sumA p 10 + (v - p.getD (gx s) 0) := by
  have := gx_lt hs
  have h2 : gx s < 102 := by unfold inG at hs; unfold gx; omega
  rw [sumA_set _ _ _ (by rw [hp.len]; exact this.1), if_pos (by omega)]
theorem sumA_GR {p : List Int} (hp : GR p) : 0 ≤ sumA p 10 ∧ sumA p 10 ≤ 100000 := by
  have hc : ∀ y x : Nat, y < 10 → x < 10 → 0 ≤ p.getD (2 + y * 10 + x) 0 ∧ p.getD (2 + y * 10 + x) 0 ≤ 1000 := by
    intro y x hy hx
    have := hp.rng [(x:Int), (y:Int)] (by unfold inG; simp only [List.getD_cons_zero, List.getD_cons_succ]; omega)
    unfold gx at this
    simpa only [List.getD_cons_zero, List.getD_cons_succ, Int.toNat_natCast, Nat.mul_one] using this
  have hr : ∀ y, y < 10 → ∀ x, x ≤ 10 → 0 ≤ rowN p 0 y x ∧ rowN p 0 y x ≤ 1000 * x := by
    intro y hy x
    induction x with
    | zero => intro _; simp [rowN]
    | succ x ih => intro hx; have := ih (by omega); have := hc y x hy (by omega); simp only [rowN]; omega
  have : ∀ y, y ≤ 10 → 0 ≤ sumA p y ∧ sumA p y ≤ 10000 * y := by
    intro y
    induction y with
    | zero => intro _; simp [sumA]
    | succ y ih => intro hy; have := ih (by omega); have := hr y (by omega) 10 (by omega); simp only [sumA]; rw [rowN_acc]; omega
  have := this 10 (Nat.le_refl _)
  omega

def growOk (p g : List Int) (but : List (List Int)) : Prop := GR p ∧ okD p ∧ okG g ∧ cellsR but ∧ but.length ≤ 1000000

def growFS : Fun
  | [.pw 0 .pas, .ag .gro g, .fs .spot but], [.c .pas p] => some (.i .i64 (sumA (growP g but p) 10 - sumA p 10), [.c .pas (growP g but p)], [growOk p g but])
  | _, _ => .none

set_option maxRecDepth 100000 in
theorem s_grow : Sound Try.prog 105 growFS := by
  intro args M r M' vs h hvs
  unfold growFS at h
  split at h
  case h_2 => cases h
  rename_i g but p
  cases h
  refine SpecOK.assume fun hA hM => ?_
  have htb := (TbOk.cons s_all Try.func90 rfl rfl (TbOk.cons s_hasR Try.func145 rfl rfl (TbOk.cons s_grass Try.func138 rfl rfl (TbOk.cons s_grown Try.func146 rfl rfl (TbOk.nil : TbOk Try.prog tb0)))))
  refine SpecOK.of_goes [0] Try.func105 rfl ?_
  obtain ⟨⟨hp, hd, hg, hb, hbl⟩, -⟩ := hvs
  clear hA hM
  obtain ⟨hsl, hsg⟩ := spots_ok hd
  have hk := growK_ok (but := but) hg hp hsg
  unfold growP
  have hlen : (spots p).length = (spots p).length := rfl
  refine Goes.tree Γ_ok htb 1000 false false Try.func105 rfl ?_
  ((try simp only [decide_eq_true_eq, decide_eq_false_iff_not, Bool.not_eq_true', Bool.not_eq_false', Bool.not_true, Bool.not_false, Bool.and_eq_true, Bool.or_eq_true, bne_iff_ne, beq_iff_eq, ne_eq]); (try simp only [rng, lo, hi, mnI, mxI, Int.toNat_natCast, Sg.n, Nat.mul_one, Nat.zero_add, Nat.add_zero, Nat.reduceAdd, List.getD_cons_zero, List.getD_cons_succ]))
  ((repeat' (first | (with_reducible apply And.intro) | intro _)); all_goals (first | exact trivial | (with_reducible assumption) | (show (_ : List Blk) = _; rfl) | (first | exact trivial | (with_reducible assumption) | omega | (split <;> omega) | (split <;> split <;> omega)) | skip); all_goals (try (refine ⟨rfl, (by first | exact Nat.le_refl _ | exact Nat.le_of_ble_eq_true rfl), rfl, rfl, ?_, (by repeat' (first | exact trivial | rfl | apply And.intro)), rfl, rfl⟩)))
  refine ⟨?_⟩
  generalize spots p = rows at *
  refine Goes.loopR (fun i : Nat => rows.length - i) (fun i => i ≤ rows.length) (fun i => (.pw 0 .pas :: .any :: .fs .spot but :: .any :: .pw 1 .gro :: .any :: .any :: .i .i64 (sumA (growK g but p rows i) 10 - sumA p 10) :: .any :: .any :: .any :: .any :: .any :: .any :: .fs .spot rows :: .i .i64 (rows.length:Int) :: .i .i64 (i:Int) :: .any :: .any :: .any :: .any :: .any :: .any :: .any :: .any :: .any :: .any :: .any :: .any :: .any :: .any :: .any :: .any :: .any :: .any :: .any :: .any :: .any :: .any :: .any :: .any :: .any :: .any :: .any :: .any :: .any :: .any :: .any :: .any :: .any :: .any :: .any :: .any :: .any :: .any :: .any :: .any :: .any :: []))
    (fun i => [.c .pas (growK g but p rows i), .c .gro g]) 0 [0, 1] (Nat.zero_le _) ⟨rfl, rfl, rfl, (by repeat' (first | exact trivial | rfl | exact Int.sub_self (sumA p 10) | apply And.intro)), (by repeat' (first | exact trivial | rfl | apply And.intro)), rfl, rfl, rfl⟩ fun i hle ih => ?_
  have s0 := sumA_GR hp
  by_cases hlt : i < rows.length
  · obtain ⟨g1, g2⟩ := hk i hle
    have hgi : inG (rows.getD i []) := hsg _ (by rw [List.getD_eq_getElem?_getD, List.getElem?_eq_getElem hlt]; exact List.getElem_mem _)
    have hv := g1.rng _ hgi
    have hw := grown_ok hg hv.1 hv.2
    have ih' := ih (i + 1)
    have e1 : growK g but p rows (i + 1) = grow1 g but (growK g but p rows i) (rows.getD i []) := rfl
    rw [e1] at ih'
    clear ih hk e1
    generalize growK g but p rows i = q at *
    have s1 := sumA_GR g1
    have hyes : hasR but (rows.getD i []) = true → grow1 g but q (rows.getD i []) = q := fun h => if_pos h
    have hno : hasR but (rows.getD i []) = false → grow1 g but q (rows.getD i []) = q.set (gx (rows.getD i [])) (q.getD (gx (rows.getD i [])) 0 + (grown g (gAt q (rows.getD i [])) - gAt q (rows.getD i []))) ∧ sumA (grow1 g but q (rows.getD i [])) 10 - sumA p 10 = sumA q 10 - sumA p 10 + (grown g (gAt q (rows.getD i [])) - gAt q (rows.getD i [])) := fun h => by
      have e : grow1 g but q (rows.getD i []) = q.set (gx (rows.getD i [])) (grown g (q.getD (gx (rows.getD i [])) 0)) := if_neg (by rw [h]; decide)
      rw [gAt_gx]
      refine ⟨?_, ?_⟩
      · rw [e]
        congr 1
        omega
      · rw [e, sumA_gx g1 hgi]; omega
    have hga := gAt_gx q (rows.getD i [])
    rw [← hga] at hv hw
    have hgi' := hgi
    unfold inG at hgi
    unfold gx at hga
    refine Goes.tree Γ_ok htb 1000 false false Try.func105 rfl ?_
    ((try simp only [decide_eq_true_eq, decide_eq_false_iff_not, Bool.not_eq_true', Bool.not_eq_false', Bool.not_true, Bool.not_false, Bool.and_eq_true, Bool.or_eq_true, bne_iff_ne, beq_iff_eq, ne_eq]); (try simp only [rng, lo, hi, mnI, mxI, Int.toNat_natCast, Sg.n, Nat.mul_one, Nat.zero_add, Nat.add_zero, Nat.reduceAdd, List.getD_cons_zero, List.getD_cons_succ]))
    ((repeat' (first | (with_reducible apply And.intro) | intro _)); all_goals (first | exact trivial | (with_reducible assumption) | (show (_ : List Blk) = _; rfl) | (first | exact trivial | (with_reducible assumption) | omega | (split <;> omega) | (split <;> split <;> omega)) | skip); all_goals (try (refine ⟨rfl, (by first | exact Nat.le_refl _ | exact Nat.le_of_ble_eq_true rfl), rfl, rfl, ?_, (by repeat' (first | exact trivial | rfl | apply And.intro)), rfl, rfl⟩)))
    all_goals (try first | exact hgi' | omega)
    · refine ⟨ih' (by omega) (by omega) [0, 1] _ _ ?_⟩
      rw [hyes (by assumption)]
      exact ⟨rfl, rfl, rfl, (by repeat' (first | exact trivial | rfl | apply And.intro)), (by repeat' (first | exact trivial | rfl | apply And.intro)), rfl, rfl, rfl⟩
    · refine ⟨ih' (by omega) (by omega) [0, 1] _ _ ?_⟩
      rw [(hno (by assumption)).2, (hno (by assumption)).1]
      exact ⟨rfl, rfl, rfl, (by repeat' (first | exact trivial | rfl | apply And.intro)), (by repeat' (first | exact trivial | rfl | apply And.intro)), rfl, rfl, rfl⟩
  · obtain rfl : i = rows.length := by omega
    clear ih hk
    refine Goes.tree Γ_ok htb 1000 false false Try.func105 rfl ?_
    ((try simp only [decide_eq_true_eq, decide_eq_false_iff_not, Bool.not_eq_true', Bool.not_eq_false', Bool.not_true, Bool.not_false, Bool.and_eq_true, Bool.or_eq_true, bne_iff_ne, beq_iff_eq, ne_eq]); (try simp only [rng, lo, hi, mnI, mxI, Int.toNat_natCast, Sg.n, Nat.mul_one, Nat.zero_add, Nat.add_zero, Nat.reduceAdd, List.getD_cons_zero, List.getD_cons_succ]))
    ((repeat' (first | (with_reducible apply And.intro) | intro _)); all_goals (first | exact trivial | (with_reducible assumption) | (show (_ : List Blk) = _; rfl) | (first | exact trivial | (with_reducible assumption) | omega | (split <;> omega) | (split <;> split <;> omega)) | skip); all_goals (try (refine ⟨rfl, (by first | exact Nat.le_refl _ | exact Nat.le_of_ble_eq_true rfl), rfl, rfl, ?_, (by repeat' (first | exact trivial | rfl | apply And.intro)), rfl, rfl⟩)))
    all_goals (first | contradiction | exact sameA_refl _ | trace_state)
theorem s_growN : Sound Try.prog 105 (nilS .spot growFS) := nil_sound rfl (by decide) s_grow
end Go.Proofs.Ytgogccconmlkiaa
