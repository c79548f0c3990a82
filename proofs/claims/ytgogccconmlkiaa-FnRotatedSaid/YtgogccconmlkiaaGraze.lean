/- A list of cells is grazed. -/
import Derived.Test.YtgogccconmlkiaaGr0
import Derived.Test.YtgogccconmlkiaaGrow2
namespace Go.Proofs.Ytgogccconmlkiaa
open Go Go.Eng
set_option linter.unusedSimpArgs false
set_option linter.unusedVariables false
set_option maxRecDepth 100000
set_option maxHeartbeats 4000000

/-- How much is eaten of g where l is left to eat. -/
def much (g l : Int) : Int := if l < g then l else g
def grz1 (eats : Int) (st : List Int × Int) (s : List Int) : List Int × Int :=
  (st.1.set (gx s) (st.1.getD (gx s) 0 - much (st.1.getD (gx s) 0) (eats - st.2)), st.2 + much (st.1.getD (gx s) 0) (eats - st.2))
def grzK (p : List Int) (rows : List (List Int)) (eats : Int) : Nat → List Int × Int
  | 0 => (p, 0)
  | i + 1 => grz1 eats (grzK p rows eats i) (rows.getD i [])

theorem much_ok {g l : Int} (h0 : 0 ≤ g) (h1 : 0 ≤ l) : 0 ≤ much g l ∧ much g l ≤ g ∧ much g l ≤ l := by unfold much; split <;> omega

theorem grzK_ok {p : List Int} {rows : List (List Int)} {eats : Int} (hp : GR p) (hr : ∀ s ∈ rows, inG s) (h0 : 0 ≤ eats) : ∀ i, i ≤ rows.length →
    GR (grzK p rows eats i).1 ∧ 0 ≤ (grzK p rows eats i).2 ∧ (grzK p rows eats i).2 ≤ eats ∧ ∀ j, j < 2 → (grzK p rows eats i).1.getD j 0 = p.getD j 0 := by
  intro i
  induction i with
  | zero => intro _; exact ⟨hp, Int.le_refl _, h0, fun _ _ => rfl⟩
  | succ i ih =>
    intro hi
    obtain ⟨g1, g2, g3, g4⟩ := ih (by omega)
    have hg : inG (rows.getD i []) := hr _ (by rw [List.getD_eq_getElem?_getD, List.getElem?_eq_getElem (by omega)]; exact List.getElem_mem _)
    have hv := g1.rng _ hg
    have hm := much_ok (l := eats - (grzK p rows eats i).2) hv.1 (by omega)
    unfold grzK grz1
    refine ⟨g1.set _ (by omega) (by omega), by dsimp only; omega, by dsimp only; omega, fun j hj => ?_⟩
    rw [sg_low (gx_lt hg).2 hj]; exact g4 j hj

def grzOk (p : List Int) (rows : List (List Int)) (eats : Int) : Prop := GR p ∧ (∀ s ∈ rows, inG s) ∧ 0 ≤ eats ∧ eats ≤ 100000 ∧ rows.length ≤ 1000000

def grzVS : Fun
  | [.ag .pas p, .fs .spot rows, .i .i64 eats], [] => some (.t2 (.ag .pas (grzK p rows eats rows.length).1) (.i .i64 (grzK p rows eats rows.length).2), [], [grzOk p rows eats])
  | _, _ => .none
set_option maxRecDepth 100000 in
theorem s_l04Graze : Sound Try.prog 123 grzVS := by
  intro args M r M' vs h hvs
  unfold grzVS at h
  split at h
  case h_2 => cases h
  rename_i p rows eats
  cases h
  refine SpecOK.assume fun hA hM => ?_
  have htb := (TbOk.cons s_l00Min Try.func112 rfl rfl (TbOk.nil : TbOk Try.prog tb0))
  refine SpecOK.of_goes [] Try.func123 rfl ?_
  obtain ⟨⟨hp, hr, h0, h1, hl⟩, -⟩ := hvs
  clear hA hM
  have hk := grzK_ok hp hr h0
  refine Goes.tree Γ_ok htb 1000 false false Try.func123 rfl ?_
  refine ⟨?_⟩
  refine Goes.loopR (fun i : Nat => rows.length - i) (fun i => i ≤ rows.length) (fun i => (.any :: .fs .spot rows :: .i .i64 eats :: .pw 0 .pas :: .any :: .any :: .pw 1 .pas :: .any :: .i .i64 (eats - (grzK p rows eats i).2) :: .i .i64 (i:Int) :: .any :: .any :: .any :: .any :: .any :: .any :: .any :: .any :: .any :: .any :: .any :: .any :: .any :: .any :: .any :: .any :: .any :: .any :: .any :: .any :: .any :: .any :: .any :: .any :: .any :: .any :: .any :: .any :: .any :: .any :: .any :: .any :: .any :: .any :: .any :: .any :: .any :: .any :: .any :: .any :: .any :: .any :: .any :: .any :: .any :: []))
    (fun i => [.c .pas (grzK p rows eats i).1, .c .pas (List.replicate 122 0)]) 0 [0, 1] (Nat.zero_le _) ⟨rfl, rfl, rfl, (by show leF _ _; rw [show eats - (grzK p rows eats 0).2 = eats from Int.sub_zero _]; exact (by repeat' (first | exact trivial | rfl | apply And.intro))), (by repeat' (first | exact trivial | rfl | apply And.intro)), rfl, rfl, rfl⟩ fun i hle ih => ?_
  obtain ⟨g1, g2, g3, g4⟩ := hk i hle
  by_cases hlt : i < rows.length
  · have hg : inG (rows.getD i []) := hr _ (by rw [List.getD_eq_getElem?_getD, List.getElem?_eq_getElem hlt]; exact List.getElem_mem _)
    have hv := g1.rng _ hg
    have ih' := ih (i + 1)
    have e1 : grzK p rows eats (i + 1) = grz1 eats (grzK p rows eats i) (rows.getD i []) := rfl
    rw [e1] at ih'
    clear ih hk e1
    generalize grzK p rows eats i = st at *
    have hm := much_ok (l := eats - st.2) hv.1 (by omega)
    have hmu : (if eats - st.2 < st.1.getD (gx (rows.getD i [])) 0 then eats - st.2 else st.1.getD (gx (rows.getD i [])) 0) = much (st.1.getD (gx (rows.getD i [])) 0) (eats - st.2) := rfl
    have hnx : eats - (st.2 + much (st.1.getD (gx (rows.getD i [])) 0) (eats - st.2)) = eats - st.2 - much (st.1.getD (gx (rows.getD i [])) 0) (eats - st.2) := by omega
    unfold gx inG at *
    refine Goes.tree Γ_ok htb 1000 false false Try.func123 rfl ?_
    ((try simp only [decide_eq_true_eq, decide_eq_false_iff_not, Bool.not_eq_true', Bool.not_eq_false', Bool.not_true, Bool.not_false, Bool.and_eq_true, Bool.or_eq_true, bne_iff_ne, beq_iff_eq, ne_eq]); (try simp only [rng, lo, hi, mnI, mxI, Int.toNat_natCast, Sg.n, Nat.mul_one, Nat.zero_add, Nat.add_zero, Nat.reduceAdd, List.getD_cons_zero, List.getD_cons_succ, hmu]))
    ((repeat' (first | (with_reducible apply And.intro) | intro _)); all_goals (first | exact trivial | (with_reducible assumption) | (show (_ : List Blk) = _; rfl) | (first | exact trivial | (with_reducible assumption) | omega | (split <;> omega) | (split <;> split <;> omega)) | skip); all_goals (try (refine ⟨rfl, (by first | exact Nat.le_refl _ | exact Nat.le_of_ble_eq_true rfl), rfl, rfl, ?_, (by repeat' (first | exact trivial | rfl | apply And.intro)), rfl, rfl⟩)))
    all_goals (try omega)
    refine ⟨ih' (by omega) (by omega) [0, 1] _ _ ?_⟩
    unfold grz1 gx
    dsimp only
    rw [hnx]
    exact ⟨rfl, rfl, rfl, (by repeat' (first | exact trivial | rfl | apply And.intro)), (by repeat' (first | exact trivial | rfl | apply And.intro)), rfl, rfl, rfl⟩
  · obtain rfl : i = rows.length := by omega
    clear ih hk
    have e : eats - (eats - (grzK p rows eats rows.length).2) = (grzK p rows eats rows.length).2 := by omega
    refine Goes.tree Γ_ok htb 1000 false false Try.func123 rfl ?_
    ((try simp only [decide_eq_true_eq, decide_eq_false_iff_not, Bool.not_eq_true', Bool.not_eq_false', Bool.not_true, Bool.not_false, Bool.and_eq_true, Bool.or_eq_true, bne_iff_ne, beq_iff_eq, ne_eq]); (try simp only [rng, lo, hi, mnI, mxI, Int.toNat_natCast, Sg.n, Nat.mul_one, Nat.zero_add, Nat.add_zero, Nat.reduceAdd, List.getD_cons_zero, List.getD_cons_succ, e]))
    ((repeat' (first | (with_reducible apply And.intro) | intro _)); all_goals (first | exact trivial | (with_reducible assumption) | (show (_ : List Blk) = _; rfl) | (first | exact trivial | (with_reducible assumption) | omega | (split <;> omega) | (split <;> split <;> omega)) | skip); all_goals (try (refine ⟨rfl, (by first | exact Nat.le_refl _ | exact Nat.le_of_ble_eq_true rfl), rfl, rfl, ?_, (by repeat' (first | exact trivial | rfl | apply And.intro)), rfl, rfl⟩)))
    all_goals (first | contradiction | exact sameA_refl _ | trace_state)

def grzPS : Fun
  | [.pw 0 .pas, .fs .spot rows, .i .i64 eats], [.c .pas p] => some (.i .i64 (grzK p rows eats rows.length).2, [.c .pas (grzK p rows eats rows.length).1], [grzOk p rows eats])
  | _, _ => .none
set_option maxRecDepth 100000 in
theorem s_graze : Sound Try.prog 84 grzPS := by
  intro args M r M' vs h hvs
  unfold grzPS at h
  split at h
  case h_2 => cases h
  rename_i rows eats p
  cases h
  refine SpecOK.assume fun hA hM => ?_
  have htb := (TbOk.cons s_grass Try.func138 rfl rfl (TbOk.nil : TbOk Try.prog tb0))
  refine SpecOK.of_goes [0] Try.func84 rfl ?_
  obtain ⟨⟨hp, hr, h0, h1, hl⟩, -⟩ := hvs
  clear hA hM
  have hk := grzK_ok hp hr h0
  refine Goes.tree Γ_ok htb 1000 false false Try.func84 rfl ?_
  refine ⟨?_⟩
  refine Goes.loopR (fun i : Nat => rows.length - i) (fun i => i ≤ rows.length) (fun i => (.pw 0 .pas :: .any :: .i .i64 eats :: .any :: .any :: .any :: .any :: .i .i64 (grzK p rows eats i).2 :: .any :: .any :: .any :: .fs .spot rows :: .i .i64 (rows.length:Int) :: .i .i64 (i:Int) :: .any :: .any :: .any :: .any :: .any :: .any :: .any :: .any :: .any :: .any :: .any :: .any :: .any :: .any :: .any :: .any :: .any :: .any :: .any :: .any :: .any :: .any :: .any :: .any :: .any :: .any :: .any :: .any :: .any :: .any :: .any :: .any :: .any :: .any :: []))
    (fun i => [.c .pas (grzK p rows eats i).1]) 0 [0] (Nat.zero_le _) ⟨rfl, rfl, rfl, (by repeat' (first | exact trivial | rfl | apply And.intro)), (by repeat' (first | exact trivial | rfl | apply And.intro)), rfl, rfl, rfl⟩ fun i hle ih => ?_
  obtain ⟨g1, g2, g3, g4⟩ := hk i hle
  by_cases hlt : i < rows.length
  · have hg : inG (rows.getD i []) := hr _ (by rw [List.getD_eq_getElem?_getD, List.getElem?_eq_getElem hlt]; exact List.getElem_mem _)
    have hg' := hg
    have hv := g1.rng _ hg
    have ih' := ih (i + 1)
    have e1 : grzK p rows eats (i + 1) = grz1 eats (grzK p rows eats i) (rows.getD i []) := rfl
    rw [e1] at ih'
    clear ih hk e1
    generalize grzK p rows eats i = st at *
    have hm := much_ok (l := eats - st.2) hv.1 (by omega)
    have hmu : (if eats - st.2 < gAt st.1 (rows.getD i []) then eats - st.2 else gAt st.1 (rows.getD i [])) = much (st.1.getD (gx (rows.getD i [])) 0) (eats - st.2) := by rw [gAt_gx]; rfl
    unfold inG at hg
    unfold gx at hv hm
    have hgv : gAt st.1 (rows.getD i []) = st.1.getD (2 + ((rows.getD i []).getD 1 0).toNat * 10 + ((rows.getD i []).getD 0 0).toNat) 0 := gAt_gx _ _
    unfold gx at hmu
    refine Goes.tree Γ_ok htb 1000 false false Try.func84 rfl ?_
    ((try simp only [decide_eq_true_eq, decide_eq_false_iff_not, Bool.not_eq_true', Bool.not_eq_false', Bool.not_true, Bool.not_false, Bool.and_eq_true, Bool.or_eq_true, bne_iff_ne, beq_iff_eq, ne_eq]); (try simp only [rng, lo, hi, mnI, mxI, Int.toNat_natCast, Sg.n, Nat.mul_one, Nat.zero_add, Nat.add_zero, Nat.reduceAdd, List.getD_cons_zero, List.getD_cons_succ, hmu]))
    ((repeat' (first | (with_reducible apply And.intro) | intro _)); all_goals (first | exact trivial | (with_reducible assumption) | (show (_ : List Blk) = _; rfl) | (first | exact trivial | (with_reducible assumption) | omega | (split <;> omega) | (split <;> split <;> omega)) | skip); all_goals (try (refine ⟨rfl, (by first | exact Nat.le_refl _ | exact Nat.le_of_ble_eq_true rfl), rfl, rfl, ?_, (by repeat' (first | exact trivial | rfl | apply And.intro)), rfl, rfl⟩)))
    all_goals (try first | exact hg' | omega)
    refine ⟨ih' (by omega) (by omega) [0] _ _ ?_⟩
    unfold grz1 gx
    exact ⟨rfl, rfl, rfl, (by repeat' (first | exact trivial | rfl | apply And.intro)), (by repeat' (first | exact trivial | rfl | apply And.intro)), rfl, rfl, rfl⟩
  · obtain rfl : i = rows.length := by omega
    clear ih hk
    refine Goes.tree Γ_ok htb 1000 false false Try.func84 rfl ?_
    ((try simp only [decide_eq_true_eq, decide_eq_false_iff_not, Bool.not_eq_true', Bool.not_eq_false', Bool.not_true, Bool.not_false, Bool.and_eq_true, Bool.or_eq_true, bne_iff_ne, beq_iff_eq, ne_eq]); (try simp only [rng, lo, hi, mnI, mxI, Int.toNat_natCast, Sg.n, Nat.mul_one, Nat.zero_add, Nat.add_zero, Nat.reduceAdd, List.getD_cons_zero, List.getD_cons_succ]))
    ((repeat' (first | (with_reducible apply And.intro) | intro _)); all_goals (first | exact trivial | (with_reducible assumption) | (show (_ : List Blk) = _; rfl) | (first | exact trivial | (with_reducible assumption) | omega | (split <;> omega) | (split <;> split <;> omega)) | skip); all_goals (try (refine ⟨rfl, (by first | exact Nat.le_refl _ | exact Nat.le_of_ble_eq_true rfl), rfl, rfl, ?_, (by repeat' (first | exact trivial | rfl | apply And.intro)), rfl, rfl⟩)))
    all_goals (first | contradiction | exact sameA_refl _ | trace_state)
end Go.Proofs.Ytgogccconmlkiaa
