/- The open sides of a list, and of a table that tells the same. -/
import Derived.Test.YtjbgjgkogmlpfaaGreatOpn
import Derived.Test.YtjbgjgkogmlpfaaGreatLendS
import Derived.Test.YtjbgjgkogmlpfaaGreatNearT
namespace Go.Proofs.YtjbgjgkogmlpfaaGreat
open Go Go.Eng
set_option linter.unusedSimpArgs false
set_option linter.unusedVariables false
open Go.Proofs.YtjbgjgkogmlpfaaGreat.Fl (cl isC ix)
set_option maxRecDepth 100000
set_option maxHeartbeats 4000000

theorem selK_congr {f g : List Int → Bool} {L : List (List Int)} (h : ∀ r ∈ L, f r = g r) : ∀ i, i ≤ L.length → selK f L i = selK g L i := by
  intro i
  induction i with
  | zero => intro _; rfl
  | succ i ih =>
    intro hi
    unfold selK addH
    rw [ih (by omega), h _ (getD_mem (d := []) (by omega))]
theorem near_in {p : List Int} (hd : okD p) {A G : List (List Int)} {s : List Int} (h : s ∈ nearL p A G) : isP p s = true ∧ s.length = 2 := by
  unfold nearL at h
  obtain ⟨j, k, hj, hk, rfl, -⟩ := mem_spotsF.1 h
  refine ⟨?_, rfl⟩
  unfold isP
  simp only [List.getD_cons_zero, List.getD_cons_succ, decide_eq_true_eq]
  omega
theorem near_has {p : List Int} (hd : okD p) {A G : List (List Int)} {s : List Int} (hs : isP p s = true) (hl : s.length = 2) : ((nearTb p A G).getD (cx s) 0 != 0) = hasR (nearL p A G) s := by
  obtain ⟨w1, w2, h1, h2⟩ := hd
  obtain ⟨a, b, rfl⟩ : ∃ a b, s = [a, b] := by
    match s, hl with
    | [a, b], _ => exact ⟨a, b, rfl⟩
  have hs' := hs
  unfold isP at hs
  simp only [List.getD_cons_zero, List.getD_cons_succ, decide_eq_true_eq] at hs
  obtain ⟨x, rfl⟩ : ∃ x : Nat, a = (x : Int) := ⟨a.toNat, by omega⟩
  obtain ⟨y, rfl⟩ : ∃ y : Nat, b = (y : Int) := ⟨b.toNat, by omega⟩
  have hk : cx [(x : Int), (y : Int)] = y * 10 + x := by
    unfold cx; simp only [List.getD_cons_zero, List.getD_cons_succ, Int.toNat_natCast]
  rw [hk, nearTb_get (by omega), ← cl_xy (by omega), hasR_iff]
  by_cases q : nearQ p A G [(x : Int), (y : Int)] = true
  · have hm : [(x : Int), (y : Int)] ∈ nearL p A G := by
      unfold nearL
      exact mem_spotsF.2 ⟨y, x, by omega, by omega, rfl, q⟩
    rw [if_pos q, decide_eq_true hm]; rfl
  · have hm : ¬ [(x : Int), (y : Int)] ∈ nearL p A G := fun h => by
      unfold nearL at h
      obtain ⟨j, k, -, -, e, g⟩ := mem_spotsF.1 h
      exact q g
    rw [if_neg q, decide_eq_false hm]; rfl
theorem openT_near {p : List Int} (hd : okD p) (A G : List (List Int)) : openT p (nearTb p A G) = openR p (nearL p A G) := by
  unfold openT openR
  refine selK_congr (fun r hr => ?_) _ (Nat.le_refl _)
  obtain ⟨h0, ⟨a, b, c, rfl, -⟩, h1, h2, -⟩ := allH_in hd r hr
  have hP : isP p (atH [a, b, c]) = true ∧ isP p (othH [a, b, c]) = true := by
    unfold hurP at h0
    rw [Bool.and_eq_true] at h0
    exact h0
  unfold opT opP
  rw [near_has hd hP.1 rfl, near_has hd hP.2 (ahead_len _ _)]
theorem nearL_len {p : List Int} (hd : okD p) (A G : List (List Int)) : (nearL p A G).length ≤ 100 := by
  obtain ⟨w1, w2, h1, h2⟩ := hd
  have := spotsF_len (nearQ p A G) (p.getD 0 0).toNat (p.getD 1 0).toNat
  have hm : (p.getD 0 0).toNat * (p.getD 1 0).toNat ≤ 10 * 10 := Nat.mul_le_mul (by omega) (by omega)
  unfold nearL
  omega
theorem openR_len {p : List Int} (hd : okD p) (xs : List (List Int)) : (openR p xs).length ≤ 200 := by
  rw [openR_filter]
  exact Nat.le_trans (List.length_filter_le _ _) (allH_len hd)

theorem s_delSOkK : Sound Tryz.prog 38 (kill delSOkS) := kill_sound s_delSOk
theorem s_delSNoK : Sound Tryz.prog 38 (kill delSNoS) := kill_sound s_delSNo
def openOS : Fun
  | [.ag .pas p, .fs .spot xs], [] => some (.ow 0 (openR p xs).length .hur 62, [.l .hur (openR p xs)], [okP p ∧ (∀ s ∈ xs, isP p s = true) ∧ xs.length ≤ 1048576])
  | _, _ => .none
theorem s_openSides : Sound Tryz.prog 21 openOS := by
  intro args M r M' vs h hvs
  unfold openOS at h
  split at h
  case h_2 => cases h
  rename_i p xs
  cases h
  obtain ⟨⟨hp, hx, hl⟩, -⟩ := hvs
  refine SpecOK.assume fun hA hM => ?_
  have hR : RowsOk .spot xs := hA.2.2.2.1
  have hlen : ∀ s ∈ xs, s.length = 2 := fun s hs => (hR s hs).1
  clear hA hM
  have hd : okD p := hp.1
  have he := openL_eq hd hx hlen
  have hel : (openL p xs).length = (leftF (standsP p) (sideL p xs)).length := sortL_len _ _
  have hle := List.length_filter_le (fun h => !standsP p h) (sideL p xs)
  have hsl := sdK_len p xs (ordL xs) (ordL xs).length
  have hol := ordL_len xs
  have hin : ∀ h ∈ sideL p xs, inG h := fun h hh => by
    have := (side_iff hd hx hlen h).1 hh
    exact (allH_in hd h this.1).2.2.1
  rw [← he, hel]
  by_cases h0 : xs = []
  · subst h0
    have e : sideL p [] = [] := by
      have h : ordL [] = [] := List.eq_nil_of_length_eq_zero (Nat.le_zero.1 (ordL_len []))
      unfold sideL
      rw [h]; rfl
    have e2 : leftF (standsP p) ([] : List (List Int)) = [] := rfl
    have e3 : openL p [] = sortL cmpH [] := by unfold openL; rw [e]; rfl
    rw [e3, e, e2]
    have htb := (TbOk.cons s_sidesOfE Tryz.func39 rfl rfl (TbOk.cons s_delSNoK Tryz.func38 rfl rfl (TbOk.cons s_sortHur Tryz.func41 rfl rfl (TbOk.nil : TbOk Tryz.prog tb0))))
    refine SpecOK.of_goes [1] Tryz.func21 rfl ?_
    refine Goes.tree Γ_ok htb 1000 false false Tryz.func21 rfl ?_
    ((try simp only [decide_eq_true_eq, decide_eq_false_iff_not, Bool.not_eq_true', Bool.not_eq_false', Bool.not_true, Bool.not_false, Bool.and_eq_true, Bool.or_eq_true, bne_iff_ne, beq_iff_eq, ne_eq]); (try simp only [rng, lo, hi, mnI, mxI, Int.toNat_natCast, Sg.n, Nat.mul_one, Nat.zero_add, Nat.add_zero, Nat.reduceAdd, List.getD_cons_zero, List.getD_cons_succ]))
    ((repeat' (first | (with_reducible apply And.intro) | intro _)); all_goals (first | exact trivial | (with_reducible assumption) | (show (_ : List Blk) = _; rfl) | (first | exact trivial | (with_reducible assumption) | omega | (split <;> omega) | (split <;> split <;> omega)) | skip); all_goals (try (refine ⟨rfl, (by first | exact Nat.le_refl _ | exact Nat.le_of_ble_eq_true rfl), rfl, rfl, ?_, (by repeat' (first | exact trivial | rfl | apply And.intro)), rfl, rfl⟩)))
    all_goals (first | contradiction | exact sameA_refl _ | simp | trace_state)
  · have h0 : 0 < xs.length := List.length_pos_iff.2 h0
    have hsb : (sideL p xs).length ≤ 1000000 := by
      have hs2 := ordL_spots hx hlen
      obtain ⟨w1, w2, h1, h2⟩ := hd
      have := spotsF_len (hasR xs) (p.getD 0 0).toNat (p.getD 1 0).toNat
      have hm : (p.getD 0 0).toNat * (p.getD 1 0).toNat ≤ 10 * 10 := Nat.mul_le_mul (by omega) (by omega)
      unfold sideL
      rw [← hs2] at this
      omega
    by_cases ha : (sideL p xs).any (standsP p) = true
    · have htb := (TbOk.cons s_sidesOf Tryz.func39 rfl rfl (TbOk.cons s_delSOkK Tryz.func38 rfl rfl (TbOk.cons s_sortHur Tryz.func41 rfl rfl (TbOk.nil : TbOk Tryz.prog tb0))))
      refine SpecOK.of_goes [2] Tryz.func21 rfl ?_
      refine Goes.tree Γ_ok htb 1000 false false Tryz.func21 rfl ?_
      ((try simp only [decide_eq_true_eq, decide_eq_false_iff_not, Bool.not_eq_true', Bool.not_eq_false', Bool.not_true, Bool.not_false, Bool.and_eq_true, Bool.or_eq_true, bne_iff_ne, beq_iff_eq, ne_eq]); (try simp only [rng, lo, hi, mnI, mxI, Int.toNat_natCast, Sg.n, Nat.mul_one, Nat.zero_add, Nat.add_zero, Nat.reduceAdd, List.getD_cons_zero, List.getD_cons_succ]))
      ((repeat' (first | (with_reducible apply And.intro) | intro _)); all_goals (first | exact trivial | (with_reducible assumption) | (show (_ : List Blk) = _; rfl) | (first | exact trivial | (with_reducible assumption) | omega | (split <;> omega) | (split <;> split <;> omega)) | skip); all_goals (try (refine ⟨rfl, (by first | exact Nat.le_refl _ | exact Nat.le_of_ble_eq_true rfl), rfl, rfl, ?_, (by repeat' (first | exact trivial | rfl | apply And.intro)), rfl, rfl⟩)))
      all_goals (try first | contradiction | exact hd | exact hx _ (by assumption) | exact hin _ (by assumption) | exact ha | exact ha (by assumption) | omega)
      all_goals (first | exact sameA_refl _ | (unfold leftF; omega) | trace_state)
    · have e : leftF (standsP p) (sideL p xs) = sideL p xs := by
        unfold leftF
        refine List.filter_eq_self.2 fun r hr => ?_
        cases hh : standsP p r with
        | false => rfl
        | true => exact absurd (List.any_eq_true.2 ⟨r, hr, hh⟩) ha
      have e2 : openL p xs = sortL cmpH (sideL p xs) := by unfold openL; rw [e]
      rw [e2, e]
      have htb := (TbOk.cons s_sidesOf Tryz.func39 rfl rfl (TbOk.cons s_delSNoK Tryz.func38 rfl rfl (TbOk.cons s_sortHur Tryz.func41 rfl rfl (TbOk.nil : TbOk Tryz.prog tb0))))
      refine SpecOK.of_goes [1] Tryz.func21 rfl ?_
      refine Goes.tree Γ_ok htb 1000 false false Tryz.func21 rfl ?_
      ((try simp only [decide_eq_true_eq, decide_eq_false_iff_not, Bool.not_eq_true', Bool.not_eq_false', Bool.not_true, Bool.not_false, Bool.and_eq_true, Bool.or_eq_true, bne_iff_ne, beq_iff_eq, ne_eq]); (try simp only [rng, lo, hi, mnI, mxI, Int.toNat_natCast, Sg.n, Nat.mul_one, Nat.zero_add, Nat.add_zero, Nat.reduceAdd, List.getD_cons_zero, List.getD_cons_succ]))
      ((repeat' (first | (with_reducible apply And.intro) | intro _)); all_goals (first | exact trivial | (with_reducible assumption) | (show (_ : List Blk) = _; rfl) | (first | exact trivial | (with_reducible assumption) | omega | (split <;> omega) | (split <;> split <;> omega)) | skip); all_goals (try (refine ⟨rfl, (by first | exact Nat.le_refl _ | exact Nat.le_of_ble_eq_true rfl), rfl, rfl, ?_, (by repeat' (first | exact trivial | rfl | apply And.intro)), rfl, rfl⟩)))
      all_goals (try first | contradiction | exact hd | exact hx _ (by assumption) | exact hin _ (by assumption) | exact ha | exact ha (by assumption) | omega)
      all_goals (first | exact sameA_refl _ | trace_state)

def openLS : Fun
  | [.ag .pas p, .ow 0 _ .spot 54], [.l .spot xs] => some (.ow 1 (openR p xs).length .hur 62, [.l .spot xs, .l .hur (openR p xs)], [okP p ∧ (∀ s ∈ xs, isP p s = true) ∧ xs.length ≤ 1048576])
  | _, _ => .none
theorem s_openSidesL : Sound Tryz.prog 21 openLS := by
  intro args M r M' vs h hvs
  unfold openLS at h
  split at h
  case h_2 => cases h
  rename_i p n xs
  cases h
  exact lend (pre := [.ag .pas p]) (post := []) (M := []) (r := .ow 0 (openR p xs).length .hur 62) (N := [.l .hur (openR p xs)]) (s_openSides _ _ _ _ _ rfl hvs) rfl (fun x hx => by cases hx) (fun x hx => by rw [List.mem_singleton] at hx; subst hx; rfl)
end Go.Proofs.YtjbgjgkogmlpfaaGreat
