/- All cells grow for a day, but some: the spec's way; and days. -/
import Derived.Test.YtgogccconmlkiaaGrow3
namespace Go.Proofs.Ytgogccconmlkiaa
open Go Go.Eng
set_option linter.unusedSimpArgs false
set_option linter.unusedVariables false
set_option maxRecDepth 100000
set_option maxHeartbeats 4000000

def GL (g : List Int) (but : List (List Int)) (p : List Int) (l : List (List Int)) : List Int := growK g but p l l.length
theorem GL_row (g : List Int) (but : List (List Int)) (p : List Int) (acc : List (List Int)) (y x : Nat) : GL g but p (rowA acc y (x + 1)) = grow1 g but (GL g but p (rowA acc y x)) [(x : Int), (y : Int)] := growK_snoc _ _ _ _ _

theorem spotsY_in {w y : Nat} (hw : w ≤ 10) (hy : y ≤ 10) : ∀ s ∈ spotsY w y, inG s := by
  intro s hs
  obtain ⟨j, i, h1, h2, rfl⟩ := mem_spotsY.1 hs
  simp only [inG, List.getD_cons_zero, List.getD_cons_succ]
  omega
theorem rowA_in {w y x : Nat} (hw : w ≤ 10) (hy : y < 10) (hx : x ≤ w) : ∀ s ∈ rowA (spotsY w y) y x, inG s := by
  intro s hs
  rcases mem_rowA.1 hs with h | ⟨i, h1, rfl⟩
  · exact spotsY_in hw (by omega) s h
  · simp only [inG, List.getD_cons_zero, List.getD_cons_succ]
    omega

def growVS : Fun
  | [.ag .pas p, .pw 0 .gro, .fs .spot but], [.c .gro g] => some (.ag .pas (growP g but p), [.c .gro g], [growOk p g but])
  | _, _ => .none

set_option maxRecDepth 100000 in
theorem s_l04Grow : Sound Try.prog 104 growVS := by
  intro args M r M' vs h hvs
  unfold growVS at h
  split at h
  case h_2 => cases h
  rename_i p but g
  cases h
  refine SpecOK.assume fun hA hM => ?_
  have htb := (TbOk.cons s_l01Mask Try.func114 rfl rfl (TbOk.cons s_l04Cell Try.func88 rfl rfl (TbOk.nil : TbOk Try.prog tb0)))
  refine SpecOK.of_goes [0] Try.func104 rfl ?_
  obtain ⟨⟨hp, hd, hg, hb, hbl⟩, -⟩ := hvs
  clear hA hM
  have hd' := hd
  obtain ⟨hw1, hw2, hh1, hh2⟩ := hd'
  have hbi := fun s h => (hb s h).1
  have hG : ∀ l : List (List Int), (∀ s ∈ l, inG s) → GR (GL g but p l) ∧ (GL g but p l).getD 0 0 = p.getD 0 0 ∧ (GL g but p l).getD 1 0 = p.getD 1 0 := fun l h => by
    have := growK_ok (but := but) hg hp h l.length (Nat.le_refl _)
    exact ⟨this.1, this.2 0 (by omega), this.2 1 (by omega)⟩
  refine Goes.tree Γ_ok htb 1000 false false Try.func104 rfl ?_
  ((try simp only [decide_eq_true_eq, decide_eq_false_iff_not, Bool.not_eq_true', Bool.not_eq_false', Bool.not_true, Bool.not_false, Bool.and_eq_true, Bool.or_eq_true, bne_iff_ne, beq_iff_eq, ne_eq]); (try simp only [rng, lo, hi, mnI, mxI, Int.toNat_natCast, Sg.n, Nat.mul_one, Nat.zero_add, Nat.add_zero, Nat.reduceAdd, List.getD_cons_zero, List.getD_cons_succ]))
  ((repeat' (first | (with_reducible apply And.intro) | intro _)); all_goals (first | exact trivial | (with_reducible assumption) | (show (_ : List Blk) = _; rfl) | (first | exact trivial | (with_reducible assumption) | omega | (split <;> omega) | (split <;> split <;> omega)) | skip); all_goals (try (refine ⟨rfl, (by first | exact Nat.le_refl _ | exact Nat.le_of_ble_eq_true rfl), rfl, rfl, ?_, (by repeat' (first | exact trivial | rfl | apply And.intro)), rfl, rfl⟩)))
  · exact hbi _ (by assumption)
  refine ⟨?_⟩
  have hmk := fun y x : Nat => fun (hx : x < 10) (hy : y < 10) => mask_has (rows := but) (s := [(x:Int), (y:Int)]) hb (by simp only [inG, List.getD_cons_zero, List.getD_cons_succ]; omega) rfl
  simp only [cx, List.getD_cons_zero, List.getD_cons_succ, Int.toNat_natCast] at hmk
  show Goes _ _ _ _ _ _ (fun r' N => Eng.Fin _ _ _ _ (.ag .pas (GL g but p (spots p))) _)
  unfold spots
  generalize srcD but but.length = mk at *
  have hb0 : (p.getD 0 0).toNat ≤ 10 := by omega
  refine Goes.loopR (fun y : Nat => (p.getD 1 0).toNat - y) (fun y => y ≤ (p.getD 1 0).toNat) (fun y => (.any :: .pw 0 .gro :: .any :: .pw 1 .pas :: .any :: .any :: .pw 2 .pas :: .pw 3 .bgrid :: .i .i8 (y:Int) :: .any :: .any :: .any :: .any :: .any :: .any :: .any :: .any :: .any :: .any :: .any :: .any :: .any :: .any :: .any :: .any :: .any :: .any :: .any :: .any :: .any :: .any :: .any :: .any :: .any :: .any :: .any :: .any :: .any :: .any :: .any :: .any :: .any :: .any :: .any :: .any :: .any :: []))
    (fun y => [.c .gro g, .c .pas (GL g but p (spotsY (p.getD 0 0).toNat y)), .c .pas (List.replicate 122 0), .c .bgrid mk]) 0 [0, 1, 2, 3] (Nat.zero_le _) ⟨rfl, rfl, rfl, (by repeat' (first | exact trivial | rfl | apply And.intro)), (by repeat' (first | exact trivial | rfl | apply And.intro)), rfl, rfl, rfl⟩ fun y hy ihO => ?_
  obtain ⟨q1, q2, q3⟩ := hG _ (spotsY_in (w := (p.getD 0 0).toNat) (y := y) hb0 (by omega))
  by_cases hlt : (y : Int) < p.getD 1 0
  · refine Goes.tree Γ_ok htb 1000 false false Try.func104 rfl ?_
    ((try simp only [decide_eq_true_eq, decide_eq_false_iff_not, Bool.not_eq_true', Bool.not_eq_false', Bool.not_true, Bool.not_false, Bool.and_eq_true, Bool.or_eq_true, bne_iff_ne, beq_iff_eq, ne_eq]); (try simp only [rng, lo, hi, mnI, mxI, Int.toNat_natCast, Sg.n, Nat.mul_one, Nat.zero_add, Nat.add_zero, Nat.reduceAdd, List.getD_cons_zero, List.getD_cons_succ]))
    ((repeat' (first | (with_reducible apply And.intro) | intro _)); all_goals (first | exact trivial | (with_reducible assumption) | (show (_ : List Blk) = _; rfl) | (first | exact trivial | (with_reducible assumption) | omega | (split <;> omega) | (split <;> split <;> omega)) | skip); all_goals (try (refine ⟨rfl, (by first | exact Nat.le_refl _ | exact Nat.le_of_ble_eq_true rfl), rfl, rfl, ?_, (by repeat' (first | exact trivial | rfl | apply And.intro)), rfl, rfl⟩)))
    refine ⟨?_⟩
    refine Goes.loopR (fun x : Nat => (p.getD 0 0).toNat - x) (fun x => x ≤ (p.getD 0 0).toNat) (fun x => (.any :: .pw 0 .gro :: .any :: .pw 1 .pas :: .any :: .any :: .pw 2 .pas :: .pw 3 .bgrid :: .i .i8 (y:Int) :: .i .i8 (x:Int) :: .any :: .any :: .any :: .any :: .any :: .any :: .any :: .any :: .any :: .any :: .any :: .any :: .any :: .any :: .any :: .any :: .any :: .any :: .any :: .any :: .any :: .any :: .any :: .any :: .any :: .any :: .any :: .any :: .any :: .any :: .any :: .any :: .any :: .any :: .any :: .any :: []))
      (fun x => [.c .gro g, .c .pas (GL g but p (rowA (spotsY (p.getD 0 0).toNat y) y x)), .c .pas (List.replicate 122 0), .c .bgrid mk]) 0 [0, 1, 2, 3] (Nat.zero_le _) ⟨rfl, rfl, rfl, (by repeat' (first | exact trivial | rfl | apply And.intro)), (by repeat' (first | exact trivial | rfl | apply And.intro)), rfl, rfl, rfl⟩ fun x hx ih => ?_
    obtain ⟨r1, r2, r3⟩ := hG _ (rowA_in (w := (p.getD 0 0).toNat) (y := y) (x := x) hb0 (by omega) hx)
    have e1 := GL_row g but p (spotsY (p.getD 0 0).toNat y) y x
    have hxs : spotsY (p.getD 0 0).toNat (y + 1) = rowA (spotsY (p.getD 0 0).toNat y) y (p.getD 0 0).toNat := rfl
    have ih' := ih (x + 1)
    rw [e1] at ih'
    clear ih e1
    by_cases hxl : (x : Int) < p.getD 0 0
    · generalize GL g but p (rowA (spotsY (p.getD 0 0).toNat y) y x) = q at *
      obtain ⟨m1, m2⟩ := hmk y x (by omega) (by omega)
      have hv := r1.rng [(x:Int), (y:Int)] (by simp only [inG, List.getD_cons_zero, List.getD_cons_succ]; omega)
      have hw := grown_ok hg hv.1 hv.2
      have hgx : gx [(x:Int), (y:Int)] = 2 + y * 10 + x := by simp only [gx, List.getD_cons_zero, List.getD_cons_succ, Int.toNat_natCast]
      rw [hgx] at hv hw
      have hyes : hasR but [(x:Int), (y:Int)] = true → grow1 g but q [(x:Int), (y:Int)] = q := fun h => if_pos h
      have hno : hasR but [(x:Int), (y:Int)] = false → grow1 g but q [(x:Int), (y:Int)] = q.set (2 + y * 10 + x) (grown g (q.getD (2 + y * 10 + x) 0)) := fun h => by
        rw [grow1, if_neg (by rw [h]; decide), hgx]
      refine Goes.tree Γ_ok htb 1000 false false Try.func104 rfl ?_
      ((try simp only [decide_eq_true_eq, decide_eq_false_iff_not, Bool.not_eq_true', Bool.not_eq_false', Bool.not_true, Bool.not_false, Bool.and_eq_true, Bool.or_eq_true, bne_iff_ne, beq_iff_eq, ne_eq]); (try simp only [rng, lo, hi, mnI, mxI, Int.toNat_natCast, Sg.n, Nat.mul_one, Nat.zero_add, Nat.add_zero, Nat.reduceAdd, List.getD_cons_zero, List.getD_cons_succ]))
      ((repeat' (first | (with_reducible apply And.intro) | intro _)); all_goals (first | exact trivial | (with_reducible assumption) | (show (_ : List Blk) = _; rfl) | (first | exact trivial | (with_reducible assumption) | omega | (split <;> omega) | (split <;> split <;> omega)) | skip); all_goals (try (refine ⟨rfl, (by first | exact Nat.le_refl _ | exact Nat.le_of_ble_eq_true rfl), rfl, rfl, ?_, (by repeat' (first | exact trivial | rfl | apply And.intro)), rfl, rfl⟩)))
      · rename_i hz
        refine ⟨ih' (by omega) (by omega) [0, 1, 2, 3] _ _ ?_⟩
        rw [hno (m2.1 (by simpa [-List.getD_eq_getElem?_getD] using hz))]
        exact ⟨rfl, rfl, rfl, (by repeat' (first | exact trivial | rfl | apply And.intro)), (by repeat' (first | exact trivial | rfl | apply And.intro)), rfl, rfl, rfl⟩
      · rename_i hz
        refine ⟨ih' (by omega) (by omega) [0, 1, 2, 3] _ _ ?_⟩
        have hz : ¬ mk.getD (y * 10 + x) 0 = 0 := by simpa [-List.getD_eq_getElem?_getD] using hz
        rw [hyes (by cases hh : hasR but [(x:Int), (y:Int)] with
          | true => rfl
          | false => exact absurd (m2.2 hh) hz)]
        exact ⟨rfl, rfl, rfl, (by repeat' (first | exact trivial | rfl | apply And.intro)), (by repeat' (first | exact trivial | rfl | apply And.intro)), rfl, rfl, rfl⟩
    · obtain rfl : x = (p.getD 0 0).toNat := by omega
      clear ih'
      refine Goes.tree Γ_ok htb 1000 false false Try.func104 rfl ?_
      ((try simp only [decide_eq_true_eq, decide_eq_false_iff_not, Bool.not_eq_true', Bool.not_eq_false', Bool.not_true, Bool.not_false, Bool.and_eq_true, Bool.or_eq_true, bne_iff_ne, beq_iff_eq, ne_eq]); (try simp only [rng, lo, hi, mnI, mxI, Int.toNat_natCast, Sg.n, Nat.mul_one, Nat.zero_add, Nat.add_zero, Nat.reduceAdd, List.getD_cons_zero, List.getD_cons_succ]))
      ((repeat' (first | (with_reducible apply And.intro) | intro _)); all_goals (first | exact trivial | (with_reducible assumption) | (show (_ : List Blk) = _; rfl) | (first | exact trivial | (with_reducible assumption) | omega | (split <;> omega) | (split <;> split <;> omega)) | skip); all_goals (try (refine ⟨rfl, (by first | exact Nat.le_refl _ | exact Nat.le_of_ble_eq_true rfl), rfl, rfl, ?_, (by repeat' (first | exact trivial | rfl | apply And.intro)), rfl, rfl⟩)))
      all_goals (try (first | contradiction | exact ⟨ihO (y + 1) (by omega) (by omega) [0, 1, 2, 3] _ _ ⟨rfl, rfl, rfl, (by repeat' (first | exact trivial | rfl | apply And.intro)), (by repeat' (first | exact trivial | rfl | apply And.intro)), rfl, rfl, rfl⟩⟩))
  · obtain rfl : y = (p.getD 1 0).toNat := by omega
    clear ihO
    refine Goes.tree Γ_ok htb 1000 false false Try.func104 rfl ?_
    ((try simp only [decide_eq_true_eq, decide_eq_false_iff_not, Bool.not_eq_true', Bool.not_eq_false', Bool.not_true, Bool.not_false, Bool.and_eq_true, Bool.or_eq_true, bne_iff_ne, beq_iff_eq, ne_eq]); (try simp only [rng, lo, hi, mnI, mxI, Int.toNat_natCast, Sg.n, Nat.mul_one, Nat.zero_add, Nat.add_zero, Nat.reduceAdd, List.getD_cons_zero, List.getD_cons_succ]))
    ((repeat' (first | (with_reducible apply And.intro) | intro _)); all_goals (first | exact trivial | (with_reducible assumption) | (show (_ : List Blk) = _; rfl) | (first | exact trivial | (with_reducible assumption) | omega | (split <;> omega) | (split <;> split <;> omega)) | skip); all_goals (try (refine ⟨rfl, (by first | exact Nat.le_refl _ | exact Nat.le_of_ble_eq_true rfl), rfl, rfl, ?_, (by repeat' (first | exact trivial | rfl | apply And.intro)), rfl, rfl⟩)))
    all_goals (first | contradiction | exact sameA_refl _ | trace_state)
theorem s_l04GrowN : Sound Try.prog 104 (nilS .spot growVS) := nil_sound rfl (by decide) s_l04Grow

/-- So many days. -/
def growN (g : List Int) (p : List Int) : Nat → List Int
  | 0 => p
  | d + 1 => growP g [] (growN g p d)
theorem growN_ok {g : List Int} {p : List Int} (hg : okG g) (hp : GR p) (hd : okD p) : ∀ d, GR (growN g p d) ∧ okD (growN g p d) := by
  intro d
  induction d with
  | zero => exact ⟨hp, hd⟩
  | succ d ih => exact growP_ok hg ih.1 ih.2
theorem cellsR_nil : cellsR [] := fun s hs => by cases hs

def daysVS : Fun
  | [.ag .pas p, .pw 0 .gro, .i .i64 d], [.c .gro g] => some (.ag .pas (growN g p d.toNat), [.c .gro g], [GR p ∧ okD p ∧ okG g ∧ 0 ≤ d ∧ d ≤ 365])
  | _, _ => .none
set_option maxRecDepth 100000 in
theorem s_l04Days : Sound Try.prog 108 daysVS := by
  intro args M r M' vs h hvs
  unfold daysVS at h
  split at h
  case h_2 => cases h
  rename_i p d g
  cases h
  refine SpecOK.assume fun hA hM => ?_
  have htb := (TbOk.cons s_l04GrowN Try.func104 rfl rfl (TbOk.nil : TbOk Try.prog tb0))
  refine SpecOK.of_goes [0] Try.func108 rfl ?_
  obtain ⟨⟨hp, hd, hg, h0, h1⟩, -⟩ := hvs
  clear hA hM
  refine Goes.tree Γ_ok htb 1000 false false Try.func108 rfl ?_
  refine ⟨?_⟩
  refine Goes.loopR (fun i : Nat => d.toNat - i) (fun i => i ≤ d.toNat) (fun i => (.any :: .pw 0 .gro :: .i .i64 d :: .pw 1 .pas :: .any :: .any :: .pw 2 .pas :: .i .i64 (i:Int) :: .any :: .any :: .any :: .any :: .any :: .any :: .any :: .any :: .any :: []))
    (fun i => [.c .gro g, .c .pas (growN g p i), .c .pas (List.replicate 122 0)]) 0 [0, 1, 2] (Nat.zero_le _) ⟨rfl, rfl, rfl, (by repeat' (first | exact trivial | rfl | apply And.intro)), (by repeat' (first | exact trivial | rfl | apply And.intro)), rfl, rfl, rfl⟩ fun i hle ih => ?_
  obtain ⟨q1, q2⟩ := growN_ok hg hp hd i
  by_cases hlt : (i : Int) < d
  · refine Goes.tree Γ_ok htb 1000 false false Try.func108 rfl ?_
    ((try simp only [decide_eq_true_eq, decide_eq_false_iff_not, Bool.not_eq_true', Bool.not_eq_false', Bool.not_true, Bool.not_false, Bool.and_eq_true, Bool.or_eq_true, bne_iff_ne, beq_iff_eq, ne_eq]); (try simp only [rng, lo, hi, mnI, mxI, Int.toNat_natCast, Sg.n, Nat.mul_one, Nat.zero_add, Nat.add_zero, Nat.reduceAdd, List.getD_cons_zero, List.getD_cons_succ]))
    ((repeat' (first | (with_reducible apply And.intro) | intro _)); all_goals (first | exact trivial | (with_reducible assumption) | (show (_ : List Blk) = _; rfl) | (first | exact trivial | (with_reducible assumption) | omega | (split <;> omega) | (split <;> split <;> omega)) | skip); all_goals (try (refine ⟨rfl, (by first | exact Nat.le_refl _ | exact Nat.le_of_ble_eq_true rfl), rfl, rfl, ?_, (by repeat' (first | exact trivial | rfl | apply And.intro)), rfl, rfl⟩)))
    all_goals (try exact ⟨q1, q2, hg, cellsR_nil, by simp⟩)
    exact ⟨ih (i + 1) (by omega) (by omega) [0, 1, 2] _ _ ⟨rfl, rfl, rfl, (by repeat' (first | exact trivial | rfl | apply And.intro)), (by repeat' (first | exact trivial | rfl | apply And.intro)), rfl, rfl, rfl⟩⟩
  · obtain rfl : i = d.toNat := by omega
    clear ih
    refine Goes.tree Γ_ok htb 1000 false false Try.func108 rfl ?_
    ((try simp only [decide_eq_true_eq, decide_eq_false_iff_not, Bool.not_eq_true', Bool.not_eq_false', Bool.not_true, Bool.not_false, Bool.and_eq_true, Bool.or_eq_true, bne_iff_ne, beq_iff_eq, ne_eq]); (try simp only [rng, lo, hi, mnI, mxI, Int.toNat_natCast, Sg.n, Nat.mul_one, Nat.zero_add, Nat.add_zero, Nat.reduceAdd, List.getD_cons_zero, List.getD_cons_succ]))
    ((repeat' (first | (with_reducible apply And.intro) | intro _)); all_goals (first | exact trivial | (with_reducible assumption) | (show (_ : List Blk) = _; rfl) | (first | exact trivial | (with_reducible assumption) | omega | (split <;> omega) | (split <;> split <;> omega)) | skip); all_goals (try (refine ⟨rfl, (by first | exact Nat.le_refl _ | exact Nat.le_of_ble_eq_true rfl), rfl, rfl, ?_, (by repeat' (first | exact trivial | rfl | apply And.intro)), rfl, rfl⟩)))
    all_goals (first | contradiction | exact sameA_refl _ | trace_state)
end Go.Proofs.Ytgogccconmlkiaa
