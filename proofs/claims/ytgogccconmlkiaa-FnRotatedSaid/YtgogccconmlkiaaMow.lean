/- A list of cells is mown. -/
import Derived.Test.YtgogccconmlkiaaGr0
namespace Go.Proofs.Ytgogccconmlkiaa
open Go Go.Eng
set_option linter.unusedSimpArgs false
set_option linter.unusedVariables false
set_option maxRecDepth 100000
set_option maxHeartbeats 4000000

def mow1 (leave : Int) (st : List Int × Int) (s : List Int) : List Int × Int :=
  if leave < st.1.getD (gx s) 0 then (st.1.set (gx s) leave, st.2 + (st.1.getD (gx s) 0 - leave)) else st
def mowK (p : List Int) (rows : List (List Int)) (leave : Int) : Nat → List Int × Int
  | 0 => (p, 0)
  | i + 1 => mow1 leave (mowK p rows leave i) (rows.getD i [])

theorem mowK_ok {p : List Int} {rows : List (List Int)} {leave : Int} (hp : GR p) (hr : ∀ s ∈ rows, inG s) (h0 : 0 ≤ leave) (h1 : leave ≤ 1000) : ∀ i, i ≤ rows.length →
    GR (mowK p rows leave i).1 ∧ 0 ≤ (mowK p rows leave i).2 ∧ (mowK p rows leave i).2 ≤ 1000 * i ∧ ∀ j, j < 2 → (mowK p rows leave i).1.getD j 0 = p.getD j 0 := by
  intro i
  induction i with
  | zero => intro _; exact ⟨hp, by simp [mowK], by simp [mowK], fun _ _ => rfl⟩
  | succ i ih =>
    intro hi
    obtain ⟨g1, g2, g3, g4⟩ := ih (by omega)
    have hg : inG (rows.getD i []) := hr _ (by rw [List.getD_eq_getElem?_getD, List.getElem?_eq_getElem (by omega)]; exact List.getElem_mem _)
    have hv := g1.rng _ hg
    unfold mowK mow1
    split
    · refine ⟨g1.set _ h0 h1, by dsimp only; omega, by dsimp only; omega, fun j hj => ?_⟩
      rw [sg_low (gx_lt hg).2 hj]; exact g4 j hj
    · exact ⟨g1, g2, by omega, g4⟩

def mowOk (p : List Int) (rows : List (List Int)) (leave : Int) : Prop := GR p ∧ (∀ s ∈ rows, inG s) ∧ 0 ≤ leave ∧ leave ≤ 1000 ∧ rows.length ≤ 1000000

def mowVS : Fun
  | [.ag .pas p, .fs .spot rows, .i .i64 leave], [] => some (.t2 (.ag .pas (mowK p rows leave rows.length).1) (.i .i64 ((mowK p rows leave rows.length).2.tdiv 4)), [], [mowOk p rows leave])
  | _, _ => .none
set_option maxRecDepth 100000 in
theorem s_l04Mow : Sound Try.prog 95 mowVS := by
  intro args M r M' vs h hvs
  unfold mowVS at h
  split at h
  case h_2 => cases h
  rename_i p rows leave
  cases h
  refine SpecOK.assume fun hA hM => ?_
  have htb := (TbOk.nil : TbOk Try.prog tb0)
  refine SpecOK.of_goes [] Try.func95 rfl ?_
  obtain ⟨⟨hp, hr, h0, h1, hl⟩, -⟩ := hvs
  clear hA hM
  have hk := mowK_ok hp hr h0 h1
  have wl : IntKind.i16.wrap leave = leave := wrap_of_rng (by simp only [rng, lo, hi]; omega)
  refine Goes.tree Γ_ok htb 1000 false false Try.func95 rfl ?_
  refine ⟨?_⟩
  refine Goes.loopR (fun i : Nat => rows.length - i) (fun i => i ≤ rows.length) (fun i => (.any :: .fs .spot rows :: .i .i64 leave :: .pw 0 .pas :: .any :: .any :: .pw 1 .pas :: .any :: .i .i64 (mowK p rows leave i).2 :: .i .i64 (i:Int) :: .any :: .any :: .any :: .any :: .any :: .any :: .any :: .any :: .any :: .any :: .any :: .any :: .any :: .any :: .any :: .any :: .any :: .any :: .any :: .any :: .any :: .any :: .any :: .any :: .any :: .any :: .any :: .any :: .any :: .any :: .any :: .any :: .any :: .any :: .any :: .any :: .any :: .any :: .any :: .any :: .any :: []))
    (fun i => [.c .pas (mowK p rows leave i).1, .c .pas (List.replicate 122 0)]) 0 [0, 1] (Nat.zero_le _) ⟨rfl, rfl, rfl, (by repeat' (first | exact trivial | rfl | apply And.intro)), (by repeat' (first | exact trivial | rfl | apply And.intro)), rfl, rfl, rfl⟩ fun i hle ih => ?_
  obtain ⟨g1, g2, g3, g4⟩ := hk i hle
  by_cases hlt : i < rows.length
  · have hg : inG (rows.getD i []) := hr _ (by rw [List.getD_eq_getElem?_getD, List.getElem?_eq_getElem hlt]; exact List.getElem_mem _)
    have hv := g1.rng _ hg
    have ih' := ih (i + 1)
    have e1 : mowK p rows leave (i + 1) = mow1 leave (mowK p rows leave i) (rows.getD i []) := rfl
    rw [e1] at ih'
    clear ih hk e1
    generalize mowK p rows leave i = st at *
    have hyes : leave < st.1.getD (gx (rows.getD i [])) 0 → mow1 leave st (rows.getD i []) = (st.1.set (gx (rows.getD i [])) leave, st.2 + (st.1.getD (gx (rows.getD i [])) 0 - leave)) := fun h => if_pos h
    have hno : ¬ leave < st.1.getD (gx (rows.getD i [])) 0 → mow1 leave st (rows.getD i []) = st := fun h => if_neg h
    unfold gx inG at *
    refine Goes.tree Γ_ok htb 1000 false false Try.func95 rfl ?_
    ((try simp only [decide_eq_true_eq, decide_eq_false_iff_not, Bool.not_eq_true', Bool.not_eq_false', Bool.not_true, Bool.not_false, Bool.and_eq_true, Bool.or_eq_true, bne_iff_ne, beq_iff_eq, ne_eq]); (try simp only [rng, lo, hi, mnI, mxI, Int.toNat_natCast, Sg.n, Nat.mul_one, Nat.zero_add, Nat.add_zero, Nat.reduceAdd, List.getD_cons_zero, List.getD_cons_succ, wl]))
    ((repeat' (first | (with_reducible apply And.intro) | intro _)); all_goals (first | exact trivial | (with_reducible assumption) | (show (_ : List Blk) = _; rfl) | (first | exact trivial | (with_reducible assumption) | omega | (split <;> omega) | (split <;> split <;> omega)) | skip); all_goals (try (refine ⟨rfl, (by first | exact Nat.le_refl _ | exact Nat.le_of_ble_eq_true rfl), rfl, rfl, ?_, (by repeat' (first | exact trivial | rfl | apply And.intro)), rfl, rfl⟩)))
    all_goals (try omega)
    · refine ⟨ih' (by omega) (by omega) [0, 1] _ _ ?_⟩
      rw [hyes (by assumption)]
      exact ⟨rfl, rfl, rfl, (by repeat' (first | exact trivial | rfl | apply And.intro)), (by repeat' (first | exact trivial | rfl | apply And.intro)), rfl, rfl, rfl⟩
    · refine ⟨ih' (by omega) (by omega) [0, 1] _ _ ?_⟩
      rw [hno (by assumption)]
      exact ⟨rfl, rfl, rfl, (by repeat' (first | exact trivial | rfl | apply And.intro)), (by repeat' (first | exact trivial | rfl | apply And.intro)), rfl, rfl, rfl⟩
  · obtain rfl : i = rows.length := by omega
    have hq := quo4 g2 g3
    clear ih hk
    refine Goes.tree Γ_ok htb 1000 false false Try.func95 rfl ?_
    ((try simp only [decide_eq_true_eq, decide_eq_false_iff_not, Bool.not_eq_true', Bool.not_eq_false', Bool.not_true, Bool.not_false, Bool.and_eq_true, Bool.or_eq_true, bne_iff_ne, beq_iff_eq, ne_eq]); (try simp only [rng, lo, hi, mnI, mxI, Int.toNat_natCast, Sg.n, Nat.mul_one, Nat.zero_add, Nat.add_zero, Nat.reduceAdd, List.getD_cons_zero, List.getD_cons_succ]))
    ((repeat' (first | (with_reducible apply And.intro) | intro _)); all_goals (first | exact trivial | (with_reducible assumption) | (show (_ : List Blk) = _; rfl) | (first | exact trivial | (with_reducible assumption) | omega | (split <;> omega) | (split <;> split <;> omega)) | skip); all_goals (try (refine ⟨rfl, (by first | exact Nat.le_refl _ | exact Nat.le_of_ble_eq_true rfl), rfl, rfl, ?_, (by repeat' (first | exact trivial | rfl | apply And.intro)), rfl, rfl⟩)))
    all_goals (first | contradiction | exact sameA_refl _ | trace_state)

def mowPS : Fun
  | [.pw 0 .pas, .fs .spot rows, .i .i64 leave], [.c .pas p] => some (.i .i64 ((mowK p rows leave rows.length).2.tdiv 4), [.c .pas (mowK p rows leave rows.length).1], [mowOk p rows leave])
  | _, _ => .none
set_option maxRecDepth 100000 in
theorem s_mow : Sound Try.prog 93 mowPS := by
  intro args M r M' vs h hvs
  unfold mowPS at h
  split at h
  case h_2 => cases h
  rename_i rows leave p
  cases h
  refine SpecOK.assume fun hA hM => ?_
  have htb := (TbOk.cons s_grass Try.func138 rfl rfl (TbOk.nil : TbOk Try.prog tb0))
  refine SpecOK.of_goes [0] Try.func93 rfl ?_
  obtain ⟨⟨hp, hr, h0, h1, hl⟩, -⟩ := hvs
  clear hA hM
  have hk := mowK_ok hp hr h0 h1
  refine Goes.tree Γ_ok htb 1000 false false Try.func93 rfl ?_
  refine ⟨?_⟩
  refine Goes.loopR (fun i : Nat => rows.length - i) (fun i => i ≤ rows.length) (fun i => (.pw 0 .pas :: .any :: .i .i64 leave :: .any :: .any :: .any :: .any :: .i .i64 (mowK p rows leave i).2 :: .any :: .any :: .any :: .fs .spot rows :: .i .i64 (rows.length:Int) :: .i .i64 (i:Int) :: .any :: .any :: .any :: .any :: .any :: .any :: .any :: .any :: .any :: .any :: .any :: .any :: .any :: .any :: .any :: .any :: .any :: .any :: .any :: .any :: .any :: .any :: .any :: .any :: .any :: .any :: .any :: .any :: .any :: []))
    (fun i => [.c .pas (mowK p rows leave i).1]) 0 [0] (Nat.zero_le _) ⟨rfl, rfl, rfl, (by repeat' (first | exact trivial | rfl | apply And.intro)), (by repeat' (first | exact trivial | rfl | apply And.intro)), rfl, rfl, rfl⟩ fun i hle ih => ?_
  obtain ⟨g1, g2, g3, g4⟩ := hk i hle
  by_cases hlt : i < rows.length
  · have hg : inG (rows.getD i []) := hr _ (by rw [List.getD_eq_getElem?_getD, List.getElem?_eq_getElem hlt]; exact List.getElem_mem _)
    have hg' := hg
    have hv := g1.rng _ hg
    have ih' := ih (i + 1)
    have e1 : mowK p rows leave (i + 1) = mow1 leave (mowK p rows leave i) (rows.getD i []) := rfl
    rw [e1] at ih'
    clear ih hk e1
    generalize mowK p rows leave i = st at *
    have hyes : 0 < gAt st.1 (rows.getD i []) - leave → mow1 leave st (rows.getD i []) = (st.1.set (gx (rows.getD i [])) leave, st.2 + (gAt st.1 (rows.getD i []) - leave)) := fun h => by rw [gAt_gx]; exact if_pos (by rw [gAt_gx] at h; omega)
    have hno : ¬ 0 < gAt st.1 (rows.getD i []) - leave → mow1 leave st (rows.getD i []) = st := fun h => if_neg (by rw [gAt_gx] at h; omega)
    have hgv : 0 ≤ gAt st.1 (rows.getD i []) ∧ gAt st.1 (rows.getD i []) ≤ 1000 := by rw [gAt_gx]; exact hv
    unfold inG at hg
    refine Goes.tree Γ_ok htb 1000 false false Try.func93 rfl ?_
    ((try simp only [decide_eq_true_eq, decide_eq_false_iff_not, Bool.not_eq_true', Bool.not_eq_false', Bool.not_true, Bool.not_false, Bool.and_eq_true, Bool.or_eq_true, bne_iff_ne, beq_iff_eq, ne_eq]); (try simp only [rng, lo, hi, mnI, mxI, Int.toNat_natCast, Sg.n, Nat.mul_one, Nat.zero_add, Nat.add_zero, Nat.reduceAdd, List.getD_cons_zero, List.getD_cons_succ]))
    ((repeat' (first | (with_reducible apply And.intro) | intro _)); all_goals (first | exact trivial | (with_reducible assumption) | (show (_ : List Blk) = _; rfl) | (first | exact trivial | (with_reducible assumption) | omega | (split <;> omega) | (split <;> split <;> omega)) | skip); all_goals (try (refine ⟨rfl, (by first | exact Nat.le_refl _ | exact Nat.le_of_ble_eq_true rfl), rfl, rfl, ?_, (by repeat' (first | exact trivial | rfl | apply And.intro)), rfl, rfl⟩)))
    all_goals (try first | exact hg' | omega)
    · refine ⟨ih' (by omega) (by omega) [0] _ _ ?_⟩
      rw [hyes (by assumption)]
      exact ⟨rfl, rfl, rfl, (by repeat' (first | exact trivial | rfl | apply And.intro)), (by repeat' (first | exact trivial | rfl | apply And.intro)), rfl, rfl, rfl⟩
    · refine ⟨ih' (by omega) (by omega) [0] _ _ ?_⟩
      rw [hno (by assumption)]
      exact ⟨rfl, rfl, rfl, (by repeat' (first | exact trivial | rfl | apply And.intro)), (by repeat' (first | exact trivial | rfl | apply And.intro)), rfl, rfl, rfl⟩
  · obtain rfl : i = rows.length := by omega
    have hq := quo4 g2 g3
    clear ih hk
    refine Goes.tree Γ_ok htb 1000 false false Try.func93 rfl ?_
    ((try simp only [decide_eq_true_eq, decide_eq_false_iff_not, Bool.not_eq_true', Bool.not_eq_false', Bool.not_true, Bool.not_false, Bool.and_eq_true, Bool.or_eq_true, bne_iff_ne, beq_iff_eq, ne_eq]); (try simp only [rng, lo, hi, mnI, mxI, Int.toNat_natCast, Sg.n, Nat.mul_one, Nat.zero_add, Nat.add_zero, Nat.reduceAdd, List.getD_cons_zero, List.getD_cons_succ]))
    ((repeat' (first | (with_reducible apply And.intro) | intro _)); all_goals (first | exact trivial | (with_reducible assumption) | (show (_ : List Blk) = _; rfl) | (first | exact trivial | (with_reducible assumption) | omega | (split <;> omega) | (split <;> split <;> omega)) | skip); all_goals (try (refine ⟨rfl, (by first | exact Nat.le_refl _ | exact Nat.le_of_ble_eq_true rfl), rfl, rfl, ?_, (by repeat' (first | exact trivial | rfl | apply And.intro)), rfl, rfl⟩)))
    all_goals (first | contradiction | exact sameA_refl _ | trace_state)
end Go.Proofs.Ytgogccconmlkiaa
