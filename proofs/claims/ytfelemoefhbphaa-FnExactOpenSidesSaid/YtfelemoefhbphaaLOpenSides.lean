/- The row OpenSides: the spec and the program list the same open sides. -/
import Derived.Test.YtfelemoefhbphaaOpn
import Derived.Test.YtfelemoefhbphaaAll
import Derived.Test.YtfelemoefhbphaaLendS
import Derived.Test.YtfelemoefhbphaaMarksH
namespace Go.Proofs.Ytfelemoefhbphaa
open Go Go.Eng
set_option linter.unusedSimpArgs false
set_option linter.unusedVariables false
set_option maxRecDepth 100000
set_option maxHeartbeats 4000000

theorem selK_congr {f g : List Int → Bool} {L : List (List Int)} (h : ∀ r ∈ L, f r = g r) : ∀ i, i ≤ L.length → selK f L i = selK g L i := by
  intro i
  induction i with
  | zero => intro _; rfl
  | succ i ih =>
    intro hi
    unfold selK addH
    rw [ih (by omega), h _ (getD_mem (d := []) (by omega))]
theorem openT_mask {p : List Int} {xs : List (List Int)} (hd : okD p) (hc : cellsR xs) : openT p (srcD xs xs.length) = openR p xs := by
  unfold openT openR
  refine selK_congr (fun r hr => ?_) _ (Nat.le_refl _)
  obtain ⟨-, -, h1, h2, -⟩ := allH_in hd r hr
  have m1 := mask_has hc h1 rfl
  have m2 := mask_has hc h2 (ahead_len _ _)
  have key : ∀ s, ((srcD xs xs.length).getD (cx s) 0 = 1 ↔ hasR xs s = true) ∧ ((srcD xs xs.length).getD (cx s) 0 = 0 ↔ hasR xs s = false) → ((srcD xs xs.length).getD (cx s) 0 != 0) = hasR xs s := fun s h => by
    cases hh : hasR xs s with
    | true => rw [h.1.2 hh]; rfl
    | false => rw [h.2.2 hh]; rfl
  unfold opT opP
  rw [key _ m1, key _ m2]
def sOpenS : Fun
  | [.ag .pas p, .fs .spot xs], [] => some (.t2 (.fs .hur (if codeP p xs = 0 then openR p xs else [])) (.i .i64 (codeP p xs)), [], [xs.length ≤ 1048576])
  | _, _ => .none
set_option maxRecDepth 100000 in
theorem s_specOpen : Sound Try.prog 47 sOpenS := by
  intro args M r M' vs h hvs
  unfold sOpenS at h
  split at h
  case h_2 => cases h
  rename_i p xs
  cases h
  refine SpecOK.assume fun hA hM => ?_
  have htb := (TbOk.cons s_l01All Try.func97 rfl rfl (TbOk.cons s_l01Mask Try.func98 rfl rfl (TbOk.cons s_l03Open Try.func101 rfl rfl (TbOk.nil : TbOk Try.prog tb0))))
  refine SpecOK.of_goes [] Try.func47 rfl ?_
  obtain ⟨hl, -⟩ := hvs
  have hR : RowsOk .spot xs := hA.2.2.2.1
  have hlen : ∀ s ∈ xs, s.length = 2 := fun s hs => (hR s hs).1
  clear hA hM
  have hin : codeP p xs = 0 → ∀ s ∈ xs, inG s := fun h s hs => inG_of (codeP_all h).1 ((codeP_all h).2 s hs)
  have hT := fun h : codeP p xs = 0 => openT_mask (p := p) (xs := xs) (codeP_all h).1.1 (fun s hs => ⟨hin h s hs, hlen s hs⟩)
  refine Goes.tree Γ_ok htb 1000 true false Try.func47 rfl ?_
  ((try simp only [decide_eq_true_eq, decide_eq_false_iff_not, Bool.not_eq_true', Bool.not_eq_false', Bool.not_true, Bool.not_false, Bool.and_eq_true, Bool.or_eq_true, bne_iff_ne, beq_iff_eq, ne_eq]); (try simp only [rng, lo, hi, mnI, mxI, Int.toNat_natCast, Sg.n, Nat.mul_one, Nat.zero_add, Nat.add_zero, Nat.reduceAdd, List.getD_cons_zero, List.getD_cons_succ]))
  ((repeat' (first | (with_reducible apply And.intro) | intro _)); all_goals (first | exact trivial | (with_reducible assumption) | (show (_ : List Blk) = _; rfl) | (first | exact trivial | (with_reducible assumption) | omega | (split <;> omega) | (split <;> split <;> omega)) | skip); all_goals (try (refine ⟨rfl, (by first | exact Nat.le_refl _ | exact Nat.le_of_ble_eq_true rfl), rfl, rfl, ?_, (by repeat' (first | exact trivial | rfl | apply And.intro)), rfl, rfl⟩)))
  all_goals (try first | exact hin (by assumption) _ (by assumption) | omega | exact (codeP_all (by assumption)).1.1)
  · rename_i hc
    refine sameA_ft ?_ rfl
    rw [if_neg hc]; rfl
  · rename_i hc
    refine sameA_ft ?_ hc
    rw [if_pos hc, hT hc]

theorem s_delSOkK : Sound Try.prog 132 (kill delSOkS) := kill_sound s_delSOk
theorem s_delSNoK : Sound Try.prog 132 (kill delSNoS) := kill_sound s_delSNo
def openOS : Fun
  | [.ag .pas p, .fs .spot xs], [] => some (.ow 0 (openR p xs).length .hur 113, [.l .hur (openR p xs)], [okP p ∧ (∀ s ∈ xs, isP p s = true) ∧ xs.length ≤ 1048576])
  | _, _ => .none
theorem s_openSides : Sound Try.prog 102 openOS := by
  intro args M r M' vs h hvs
  unfold openOS at h
  split at h
  case h_2 => cases h
  rename_i p xs
  cases h
  obtain ⟨⟨hp, hx, hl⟩, -⟩ := hvs
  refine SpecOK.assume fun hA hM => ?_
  have hR : RowsOk .spot xs := hA.2.2.2.1
  have hlen : ∀ s ∈ xs, s.length = 2 := fun s hs => (hR s hs).1
  clear hA hM
  have hd : okD p := hp.1
  have he := openL_eq hd hx hlen
  have hel : (openL p xs).length = (leftF (standsP p) (sideL p xs)).length := sortL_len _ _
  have hle := List.length_filter_le (fun h => !standsP p h) (sideL p xs)
  have hsl := sdK_len p xs (ordL xs) (ordL xs).length
  have hol := ordL_len xs
  have hin : ∀ h ∈ sideL p xs, inG h := fun h hh => by
    have := (side_iff hd hx hlen h).1 hh
    exact (allH_in hd h this.1).2.2.1
  rw [← he, hel]
  by_cases h0 : xs = []
  · subst h0
    have e : sideL p [] = [] := by
      have h : ordL [] = [] := List.eq_nil_of_length_eq_zero (Nat.le_zero.1 (ordL_len []))
      unfold sideL
      rw [h]; rfl
    have e2 : leftF (standsP p) ([] : List (List Int)) = [] := rfl
    have e3 : openL p [] = sortL cmpH [] := by unfold openL; rw [e]; rfl
    rw [e3, e, e2]
    have htb := (TbOk.cons s_sidesOfE Try.func100 rfl rfl (TbOk.cons s_delSNoK Try.func132 rfl rfl (TbOk.cons s_sortHur Try.func147 rfl rfl (TbOk.nil : TbOk Try.prog tb0))))
    refine SpecOK.of_goes [1] Try.func102 rfl ?_
    refine Goes.tree Γ_ok htb 1000 false false Try.func102 rfl ?_
    ((try simp only [decide_eq_true_eq, decide_eq_false_iff_not, Bool.not_eq_true', Bool.not_eq_false', Bool.not_true, Bool.not_false, Bool.and_eq_true, Bool.or_eq_true, bne_iff_ne, beq_iff_eq, ne_eq]); (try simp only [rng, lo, hi, mnI, mxI, Int.toNat_natCast, Sg.n, Nat.mul_one, Nat.zero_add, Nat.add_zero, Nat.reduceAdd, List.getD_cons_zero, List.getD_cons_succ]))
    ((repeat' (first | (with_reducible apply And.intro) | intro _)); all_goals (first | exact trivial | (with_reducible assumption) | (show (_ : List Blk) = _; rfl) | (first | exact trivial | (with_reducible assumption) | omega | (split <;> omega) | (split <;> split <;> omega)) | skip); all_goals (try (refine ⟨rfl, (by first | exact Nat.le_refl _ | exact Nat.le_of_ble_eq_true rfl), rfl, rfl, ?_, (by repeat' (first | exact trivial | rfl | apply And.intro)), rfl, rfl⟩)))
    all_goals (first | contradiction | exact sameA_refl _ | simp | trace_state)
  · have h0 : 0 < xs.length := List.length_pos_iff.2 h0
    have hsb : (sideL p xs).length ≤ 1000000 := by
      have hs2 := ordL_spots hx hlen
      obtain ⟨w1, w2, h1, h2⟩ := hd
      have := spotsF_len (hasR xs) (p.getD 0 0).toNat (p.getD 1 0).toNat
      have hm : (p.getD 0 0).toNat * (p.getD 1 0).toNat ≤ 10 * 10 := Nat.mul_le_mul (by omega) (by omega)
      unfold sideL
      rw [← hs2] at this
      omega
    by_cases ha : (sideL p xs).any (standsP p) = true
    · have htb := (TbOk.cons s_sidesOf Try.func100 rfl rfl (TbOk.cons s_delSOkK Try.func132 rfl rfl (TbOk.cons s_sortHur Try.func147 rfl rfl (TbOk.nil : TbOk Try.prog tb0))))
      refine SpecOK.of_goes [2] Try.func102 rfl ?_
      refine Goes.tree Γ_ok htb 1000 false false Try.func102 rfl ?_
      ((try simp only [decide_eq_true_eq, decide_eq_false_iff_not, Bool.not_eq_true', Bool.not_eq_false', Bool.not_true, Bool.not_false, Bool.and_eq_true, Bool.or_eq_true, bne_iff_ne, beq_iff_eq, ne_eq]); (try simp only [rng, lo, hi, mnI, mxI, Int.toNat_natCast, Sg.n, Nat.mul_one, Nat.zero_add, Nat.add_zero, Nat.reduceAdd, List.getD_cons_zero, List.getD_cons_succ]))
      ((repeat' (first | (with_reducible apply And.intro) | intro _)); all_goals (first | exact trivial | (with_reducible assumption) | (show (_ : List Blk) = _; rfl) | (first | exact trivial | (with_reducible assumption) | omega | (split <;> omega) | (split <;> split <;> omega)) | skip); all_goals (try (refine ⟨rfl, (by first | exact Nat.le_refl _ | exact Nat.le_of_ble_eq_true rfl), rfl, rfl, ?_, (by repeat' (first | exact trivial | rfl | apply And.intro)), rfl, rfl⟩)))
      all_goals (try first | contradiction | exact hd | exact hx _ (by assumption) | exact hin _ (by assumption) | exact ha | exact ha (by assumption) | omega)
      all_goals (first | exact sameA_refl _ | (unfold leftF; omega) | trace_state)
    · have e : leftF (standsP p) (sideL p xs) = sideL p xs := by
        unfold leftF
        refine List.filter_eq_self.2 fun r hr => ?_
        cases hh : standsP p r with
        | false => rfl
        | true => exact absurd (List.any_eq_true.2 ⟨r, hr, hh⟩) ha
      have e2 : openL p xs = sortL cmpH (sideL p xs) := by unfold openL; rw [e]
      rw [e2, e]
      have htb := (TbOk.cons s_sidesOf Try.func100 rfl rfl (TbOk.cons s_delSNoK Try.func132 rfl rfl (TbOk.cons s_sortHur Try.func147 rfl rfl (TbOk.nil : TbOk Try.prog tb0))))
      refine SpecOK.of_goes [1] Try.func102 rfl ?_
      refine Goes.tree Γ_ok htb 1000 false false Try.func102 rfl ?_
      ((try simp only [decide_eq_true_eq, decide_eq_false_iff_not, Bool.not_eq_true', Bool.not_eq_false', Bool.not_true, Bool.not_false, Bool.and_eq_true, Bool.or_eq_true, bne_iff_ne, beq_iff_eq, ne_eq]); (try simp only [rng, lo, hi, mnI, mxI, Int.toNat_natCast, Sg.n, Nat.mul_one, Nat.zero_add, Nat.add_zero, Nat.reduceAdd, List.getD_cons_zero, List.getD_cons_succ]))
      ((repeat' (first | (with_reducible apply And.intro) | intro _)); all_goals (first | exact trivial | (with_reducible assumption) | (show (_ : List Blk) = _; rfl) | (first | exact trivial | (with_reducible assumption) | omega | (split <;> omega) | (split <;> split <;> omega)) | skip); all_goals (try (refine ⟨rfl, (by first | exact Nat.le_refl _ | exact Nat.le_of_ble_eq_true rfl), rfl, rfl, ?_, (by repeat' (first | exact trivial | rfl | apply And.intro)), rfl, rfl⟩)))
      all_goals (try first | contradiction | exact hd | exact hx _ (by assumption) | exact hin _ (by assumption) | exact ha | exact ha (by assumption) | omega)
      all_goals (first | exact sameA_refl _ | trace_state)

def iOpOkS : Fun
  | [.ag .pas p, .fs .spot xs], [] => some (.t2 (.ow 0 (openR p xs).length .hur 113) (.i .i64 0), [.l .hur (openR p xs)], [codeP p xs = 0 ∧ xs.length ≤ 1048576])
  | _, _ => .none
def iOpErrS : Fun
  | [.ag .pas p, .fs .spot xs], [] => some (.t2 .nsl (.i .i64 (codeP p xs)), [], [¬ codeP p xs = 0])
  | _, _ => .none
set_option maxRecDepth 100000 in
theorem s_iOpOk : Sound Try.prog 48 iOpOkS := by
  intro args M r M' vs h hvs
  unfold iOpOkS at h
  split at h
  case h_2 => cases h
  rename_i p xs
  cases h
  refine SpecOK.assume fun hA hM => ?_
  have htb := (TbOk.cons s_cellCode Try.func58 rfl rfl (TbOk.cons s_openSides Try.func102 rfl rfl (TbOk.nil : TbOk Try.prog tb0)))
  refine SpecOK.of_goes [1] Try.func48 rfl ?_
  obtain ⟨⟨hc, hl⟩, -⟩ := hvs
  have hok := codeP_all hc
  clear hA hM
  refine Goes.tree Γ_ok htb 1000 false false Try.func48 rfl ?_
  ((try simp only [decide_eq_true_eq, decide_eq_false_iff_not, Bool.not_eq_true', Bool.not_eq_false', Bool.not_true, Bool.not_false, Bool.and_eq_true, Bool.or_eq_true, bne_iff_ne, beq_iff_eq, ne_eq]); (try simp only [rng, lo, hi, mnI, mxI, Int.toNat_natCast, Sg.n, Nat.mul_one, Nat.zero_add, Nat.add_zero, Nat.reduceAdd, List.getD_cons_zero, List.getD_cons_succ, hc, not_true_eq_false, false_implies]))
  ((repeat' (first | (with_reducible apply And.intro) | intro _)); all_goals (first | exact trivial | (with_reducible assumption) | (show (_ : List Blk) = _; rfl) | (first | exact trivial | (with_reducible assumption) | omega | (split <;> omega) | (split <;> split <;> omega)) | skip); all_goals (try (refine ⟨rfl, (by first | exact Nat.le_refl _ | exact Nat.le_of_ble_eq_true rfl), rfl, rfl, ?_, (by repeat' (first | exact trivial | rfl | apply And.intro)), rfl, rfl⟩)))
  all_goals (first | contradiction | exact hok.1 | exact hok.2 _ (by assumption) | exact sameA_refl _ | omega | trace_state)
set_option maxRecDepth 100000 in
theorem s_iOpErr : Sound Try.prog 48 iOpErrS := by
  intro args M r M' vs h hvs
  unfold iOpErrS at h
  split at h
  case h_2 => cases h
  rename_i p xs
  cases h
  refine SpecOK.assume fun hA hM => ?_
  have htb := (TbOk.cons s_cellCode Try.func58 rfl rfl (TbOk.cons s_openSides Try.func102 rfl rfl (TbOk.nil : TbOk Try.prog tb0)))
  refine SpecOK.of_goes [] Try.func48 rfl ?_
  obtain ⟨hc, -⟩ := hvs
  clear hA hM
  refine Goes.tree Γ_ok htb 1000 false false Try.func48 rfl ?_
  ((try simp only [decide_eq_true_eq, decide_eq_false_iff_not, Bool.not_eq_true', Bool.not_eq_false', Bool.not_true, Bool.not_false, Bool.and_eq_true, Bool.or_eq_true, bne_iff_ne, beq_iff_eq, ne_eq]); (try simp only [rng, lo, hi, mnI, mxI, Int.toNat_natCast, Sg.n, Nat.mul_one, Nat.zero_add, Nat.add_zero, Nat.reduceAdd, List.getD_cons_zero, List.getD_cons_succ]))
  ((repeat' (first | (with_reducible apply And.intro) | intro _)); all_goals (first | exact trivial | (with_reducible assumption) | (show (_ : List Blk) = _; rfl) | (first | exact trivial | (with_reducible assumption) | omega | (split <;> omega) | (split <;> split <;> omega)) | skip); all_goals (try (refine ⟨rfl, (by first | exact Nat.le_refl _ | exact Nat.le_of_ble_eq_true rfl), rfl, rfl, ?_, (by repeat' (first | exact trivial | rfl | apply And.intro)), rfl, rfl⟩)))
  all_goals (first | contradiction | exact sameA_refl _ | trace_state)
def iOpOkLS : Fun
  | [.ag .pas p, .ow 0 _ .spot 37], [.l .spot xs] => some (.t2 (.ow 1 (openR p xs).length .hur 113) (.i .i64 0), [.l .spot xs, .l .hur (openR p xs)], [codeP p xs = 0 ∧ xs.length ≤ 1048576])
  | _, _ => .none
def iOpErrLS : Fun
  | [.ag .pas p, .ow 0 _ .spot 37], [.l .spot xs] => some (.t2 .nsl (.i .i64 (codeP p xs)), [.l .spot xs], [¬ codeP p xs = 0])
  | _, _ => .none
theorem s_iOpOkL : Sound Try.prog 48 iOpOkLS := by
  intro args M r M' vs h hvs
  unfold iOpOkLS at h
  split at h
  case h_2 => cases h
  rename_i p n xs
  cases h
  exact lend (pre := [.ag .pas p]) (post := []) (M := []) (r := .t2 (.ow 0 (openR p xs).length .hur 113) (.i .i64 0)) (N := [.l .hur (openR p xs)]) (s_iOpOk _ _ _ _ _ rfl hvs) rfl (fun x hx => by cases hx) (fun x hx => by rw [List.mem_singleton] at hx; subst hx; rfl)
theorem s_iOpErrL : Sound Try.prog 48 iOpErrLS := by
  intro args M r M' vs h hvs
  unfold iOpErrLS at h
  split at h
  case h_2 => cases h
  rename_i p n xs
  cases h
  exact lend (pre := [.ag .pas p]) (post := []) (M := []) (r := .t2 .nsl (.i .i64 (codeP p xs))) (N := []) (s_iOpErr _ _ _ _ _ rfl hvs) rfl (fun x hx => by cases hx) (fun x hx => by cases hx)
theorem openR_len {p : List Int} (hd : okD p) (xs : List (List Int)) : (openR p xs).length ≤ 200 := by
  rw [openR_filter]
  exact Nat.le_trans (List.length_filter_le _ _) (allH_len hd)
set_option maxRecDepth 100000 in
theorem l_ExactOpenSides (x0 : List Int) (x1 : List (List Int)) : SpecOK Try.prog 13 [.ag .pas x0, .fs .spot x1] [] (.d true) [] := by
  have kz := szN_ok 1048576 x1.length
  by_cases hc : codeP x0 x1 = 0
  · have hlen := openR_len (codeP_all hc).1.1 x1
    have htb := (TbOk.cons s_szSpotS Try.func43 rfl rfl (TbOk.cons s_specOpen Try.func47 rfl rfl (TbOk.cons s_iOpOkL Try.func48 rfl rfl (TbOk.cons s_toPasture Try.func16 rfl rfl (TbOk.cons s_toSpO Try.func45 rfl rfl (TbOk.cons s_eqSpOO Try.func19 rfl rfl (TbOk.cons s_eqHurdleO Try.func49 rfl rfl (TbOk.cons s_markSpotS Try.func20 rfl rfl (TbOk.cons s_markHurdleS Try.func50 rfl rfl (TbOk.cons s_heldHurdleS Try.func51 rfl rfl (TbOk.nil : TbOk Try.prog tb0)))))))))))
    refine SpecOK.of_goes [] Try.func13 rfl ?_
    refine Goes.tree Γ_ok htb 1000 false false Try.func13 rfl ?_
    ((try simp only [decide_eq_true_eq, decide_eq_false_iff_not, Bool.not_eq_true', Bool.not_eq_false', Bool.not_true, Bool.not_false, Bool.and_eq_true, Bool.or_eq_true, bne_iff_ne, beq_iff_eq, ne_eq]); (try simp only [rng, lo, hi, mnI, mxI, Int.toNat_natCast, Sg.n, Nat.mul_one, Nat.zero_add, Nat.add_zero, Nat.reduceAdd, List.getD_cons_zero, List.getD_cons_succ, hc, if_pos]))
    ((repeat' (first | (with_reducible apply And.intro) | intro _)); all_goals (first | exact trivial | (with_reducible assumption) | (show (_ : List Blk) = _; rfl) | (first | exact trivial | (with_reducible assumption) | omega | (split <;> omega) | (split <;> split <;> omega)) | skip); all_goals (try (refine ⟨rfl, (by first | exact Nat.le_refl _ | exact Nat.le_of_ble_eq_true rfl), rfl, rfl, ?_, (by repeat' (first | exact trivial | rfl | apply And.intro)), rfl, rfl⟩)))
    all_goals (first | exact absurd trivial (by assumption) | exact sameA_refl _ | omega | (simp; done) | trace_state)
  · have htb := (TbOk.cons s_szSpotS Try.func43 rfl rfl (TbOk.cons s_specOpen Try.func47 rfl rfl (TbOk.cons s_iOpErrL Try.func48 rfl rfl (TbOk.cons s_toPasture Try.func16 rfl rfl (TbOk.cons s_toSpO Try.func45 rfl rfl (TbOk.cons s_eqSpOO Try.func19 rfl rfl (TbOk.cons s_eqNilHur Try.func49 rfl rfl (TbOk.cons s_markSpotS Try.func20 rfl rfl (TbOk.cons s_markNilH Try.func50 rfl rfl (TbOk.cons s_heldNilH Try.func51 rfl rfl (TbOk.nil : TbOk Try.prog tb0)))))))))))
    refine SpecOK.of_goes [] Try.func13 rfl ?_
    refine Goes.tree Γ_ok htb 1000 false false Try.func13 rfl ?_
    ((try simp only [decide_eq_true_eq, decide_eq_false_iff_not, Bool.not_eq_true', Bool.not_eq_false', Bool.not_true, Bool.not_false, Bool.and_eq_true, Bool.or_eq_true, bne_iff_ne, beq_iff_eq, ne_eq]); (try simp only [rng, lo, hi, mnI, mxI, Int.toNat_natCast, Sg.n, Nat.mul_one, Nat.zero_add, Nat.add_zero, Nat.reduceAdd, List.getD_cons_zero, List.getD_cons_succ, hc, if_neg]))
    ((repeat' (first | (with_reducible apply And.intro) | intro _)); all_goals (first | exact trivial | (with_reducible assumption) | (show (_ : List Blk) = _; rfl) | (first | exact trivial | (with_reducible assumption) | omega | (split <;> omega) | (split <;> split <;> omega)) | skip); all_goals (try (refine ⟨rfl, (by first | exact Nat.le_refl _ | exact Nat.le_of_ble_eq_true rfl), rfl, rfl, ?_, (by repeat' (first | exact trivial | rfl | apply And.intro)), rfl, rfl⟩)))
    all_goals (first | exact absurd trivial (by assumption) | exact sameA_refl _ | omega | (simp; done) | trace_state)
end Go.Proofs.Ytfelemoefhbphaa
namespace Go.Proofs.Ytfelemoefhbphaa.fnExactOpenSides
open Go Go.Eng Go.ChangeShapes Go.WideShapes Go.ChangeAt Go.RowKit
theorem own : ownKnob Try.prog.godebug = none := by kernel_rfl
theorem laidOut : laidOutB Try.prog = true := by kernel_rfl
set_option maxRecDepth 100000 in
theorem lifted (os : Os) (started : os.Started) (H : Type) (enc : TypeId × Value → H) :
    ReturnsInHanded {} Try.checked os 13 .any (Rows.fnExactOpenSidesSpec.pre6 enc Try.prog Try.f13 Rows.fnExactOpenSidesRow.domain false) (Rows.fnExactOpenSidesSpec.post enc Try.prog Try.f13 false true false false) := by
  refine returnsInHanded_of_change_sized (C := Try.checked) own started (by kernel_rfl) Try.func13
    (ChangeSpec.witness6 (enc := enc) (C := Try.checked) false ⟨#[], #[zeroV .pas, .slice none 0 0], []⟩ 8 (by kernel_rfl) (by kernel_rfl) (by kernel_rfl) (by kernel_rfl)) ?_
  intro W base args ds gs before hval0 hW hcnd hsz0 _
  have hval : ∀ (j : Nat) t v, Try.f13.params[j]? = some t → args[j]? = some v → Value.okWide Try.prog W .any base t v := hval0
  have hW' := hW
  obtain ⟨p, q, hA0, hV, rfl, hfz, hnd⟩ := hW
  have hA : DataW.TrodAll enc Try.prog W 0 (fun _ => true) true Try.f13.params.toList args.toList ds p := hA0
  rw [Try.params13] at hA hval
  obtain ⟨v0, vs0, d0, ds0, p0, q0, hargs, rfl, rfl, h0, r0⟩ := trodAll_cons hA
  obtain ⟨v1, vs1, d1, ds1, p1, q1, rfl, rfl, rfl, h1, r1⟩ := trodAll_cons r0
  obtain ⟨rfl, rfl, rfl⟩ := trodAll_nil r1
  obtain rfl : args = #[v0, v1] := by cases args; simp_all
  obtain ⟨rfl, rfl⟩ := trodVars_none hV
  obtain ⟨x0, e0, z0, l0, c0⟩ := open_agg Γ_ok (σ := .pas) rfl rfl (by decide) rfl (hval 0 _ v0 rfl rfl) h0
  obtain ⟨x1, g1, m1⟩ := open_rows Γ_ok (σ := .spot) Try.underlying67 rfl rfl (by decide) (hval 1 _ v1 rfl rfl) h1
  have z1 := trod_lt' h1
  subst z0
  clear hA0 hval0 hsz0
  refine (l_ExactOpenSides x0 x1 ⟨fun _ => ⟨0, 0, 0, .none, 0⟩, fun k => W.heap[k]?⟩ [v0, v1] W ⟨⟨e0, l0, c0, rfl⟩, den_fs g1 rfl, trivial⟩ (mrel_nil fun _ _ h => h) (fun x hx i hi => (by simp at hx; rcases hx with rfl | rfl <;> cases hi))).mono fun e W' ⟨v, ρ', he, hv, hAft, _⟩ => ?_
  subst he
  obtain rfl : v = .bool true := hv
  have bel := hAft.below
  have t0 := Below.trod laidOut (by kernel_rfl) (by decide +kernel) h0 bel (fun x hx => (by cases hx))
  have t1 := Below.trod laidOut (by kernel_rfl) (by decide +kernel) h1 bel z1
  exact ⟨_, rfl, _, _, _, [], _, [], hW', trodAll_mk1 (shut_bool Try.underlying4 _), (trodAll_cons_mk t0 (trodAll_cons_mk t1 trodAll_mk0)), rfl, bel.frame _, fun h => (by cases h)⟩
theorem and_t {a b : Bool} (h : a = true) (h' : b = true) : (a && b) = true := by rw [h, h']; rfl
set_option maxHeartbeats 4000000 in
theorem facts : joinedFacts Try.pinned.checked.prog 13 Try.f13 Rows.fnExactOpenSidesSpec Rows.fnExactOpenSidesRow = true := by
  unfold joinedFacts
  repeat' (with_reducible apply and_t)
  all_goals (as_aux_lemma => kernel_rfl)
theorem over : Rows.fnExactOpenSidesRow.holds Try.pinned (OpenSpec.ofChange Rows.fnExactOpenSidesSpec) :=
  OpenClaim.holds_of_wide 13 Try.f13 rfl rfl rfl rfl rfl rfl rfl ⟨rfl, rfl, rfl, rfl, rfl⟩ rfl rfl rfl rfl rfl (by kernel_rfl) Try.func13 facts
    (of_decide_eq_true (by kernel_rfl)) (by unfold Func.isWrapper; first | (rw [if_pos (by decide +kernel)]; kernel_rfl) | (rw [if_neg (by decide +kernel)]; exact ⟨rfl, rfl⟩))
    (fun os started H enc _ => lifted os started H enc)
end Go.Proofs.Ytfelemoefhbphaa.fnExactOpenSides
namespace Go.Proofs.Ytfelemoefhbphaa
theorem fnExactOpenSides_holds : Rows.FnExactOpenSidesSaid := fnExactOpenSides.over
#print axioms fnExactOpenSides_holds
end Go.Proofs.Ytfelemoefhbphaa

