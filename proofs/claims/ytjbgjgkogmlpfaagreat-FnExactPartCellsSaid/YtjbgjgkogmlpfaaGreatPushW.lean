/- impl.push: one more is sent through the map of flows. -/
import Derived.Test.YtjbgjgkogmlpfaaGreatFlP
namespace Go.Proofs.YtjbgjgkogmlpfaaGreat
open Go Go.Eng
set_option linter.unusedSimpArgs false
set_option linter.unusedVariables false
open Go.Proofs.YtjbgjgkogmlpfaaGreat.Fl (cl isC GoOk FL FlOk pushN pushL un)
set_option maxRecDepth 100000
set_option maxHeartbeats 4000000

def pushS (n : Nat) : Fun
  | [.ag .pas p, .mp 0, .ag .spot s, .fs .spot G, .mp 1], [.m .sp2 .bool f, .m .spot .bool m] => some (.b (pushN (nbQ p) G n f m s).1, [.m .sp2 .bool (pushN (nbQ p) G n f m s).2.1, .m .spot .bool (pushN (nbQ p) G n f m s).2.2],
      [okD p ∧ isP p s = true ∧ s.length = 2 ∧ lkM m s = 0 ∧ un m < n ∧ FlOk (nbQ p) f])
  | _, _ => .none
theorem no_ft {p : Prop} (h : (false : Bool) = true) : p := by cases h
theorem no_tf {p : Prop} (h : (true : Bool) = false) : p := by cases h
theorem nz_eq {x : Int} (h : (x != 0) = false) : x = 0 := by simpa using h
theorem hasR_iff {G : List (List Int)} {s : List Int} : hasR G s = decide (s ∈ G) := by
  unfold hasR isR
  rw [Bool.eq_iff_iff, List.any_eq_true, decide_eq_true_eq]
  constructor
  · rintro ⟨x, hx, h⟩
    rw [decide_eq_true_eq] at h
    rw [h]; exact hx
  · exact fun h => ⟨s, h, by simp⟩
theorem key_sp2 {s t : List Int} (hs : s.length = 2) (ht : t.length = 2) : putSeg (putSeg (List.replicate 4 0) 0 2 s) 2 2 t = s ++ t := by
  obtain ⟨a, b, rfl⟩ := len2 hs
  obtain ⟨c, d, rfl⟩ := len2 ht
  rfl
set_option maxRecDepth 100000 in
theorem s_pushStep {n : Nat} (ih : Sound Tryz.prog 43 (pushS n)) : Sound Tryz.prog 43 (pushS (n + 1)) := by
  intro args M r M' vs h hvs
  unfold pushS at h
  split at h
  case h_2 => cases h
  rename_i p s G f m
  cases h
  refine SpecOK.assume fun hA hM => ?_
  have htb := (TbOk.cons s_hasR Tryz.func59 rfl rfl (TbOk.cons s_beside Tryz.func70 rfl rfl (TbOk.cons ih Tryz.func43 rfl rfl (TbOk.nil : TbOk Tryz.prog tb0))))
  refine SpecOK.of_goes [0, 1] Tryz.func43 rfl ?_
  obtain ⟨⟨hd, hs, hl, h0, hun, hf⟩, -⟩ := hvs
  clear hA hM
  have hsC := isC_of hd hs hl
  by_cases hg : s ∈ G
  · have eR : pushN (nbQ p) G (n + 1) f m s = (true, f, m) := if_pos hg
    have hR : hasR G s = true := by rw [hasR_iff]; exact decide_eq_true hg
    rw [eR]
    refine Goes.tree Γ_ok htb 1000 false false Tryz.func43 rfl ?_
    ((try simp only [decide_eq_true_eq, decide_eq_false_iff_not, Bool.not_eq_true', Bool.not_eq_false', Bool.not_true, Bool.not_false, Bool.and_eq_true, Bool.or_eq_true, bne_iff_ne, beq_iff_eq, ne_eq]); (try simp only [rng, lo, hi, mnI, mxI, Int.toNat_natCast, Sg.n, Nat.mul_one, Nat.zero_add, Nat.add_zero, Nat.reduceAdd, List.getD_cons_zero, List.getD_cons_succ, hR, if_true]))
    (repeat' (first | (with_reducible apply And.intro) | intro _))
    all_goals (try with_reducible first | exact no_tf (by with_reducible assumption) | exact no_ft (by with_reducible assumption))
    ((repeat' (first | (with_reducible apply And.intro) | intro _)); all_goals (first | exact trivial | (with_reducible assumption) | (show (_ : List Blk) = _; rfl) | (first | exact trivial | (with_reducible assumption) | omega | (split <;> omega) | (split <;> split <;> omega)) | skip); all_goals (try (refine ⟨rfl, (by first | exact Nat.le_refl _ | exact Nat.le_of_ble_eq_true rfl), rfl, rfl, ?_, (by repeat' (first | exact trivial | rfl | apply And.intro)), rfl, rfl⟩)))
    all_goals exact sameA_b rfl
  · have eR : pushN (nbQ p) G (n + 1) f m s = pushL (pushN (nbQ p) G n) s (besN p s 4) f (upM m s 1) := by
      rw [← nbQ_of hs]; exact if_neg hg
    have hR : hasR G s = false := by rw [hasR_iff]; exact decide_eq_false hg
    rw [eR]
    have hb4 := besN_len p s 4
    have hms : lkM (upM m s 1) s ≠ 0 := by rw [lkM_upM, if_pos rfl]; decide
    have hu0 : un (upM m s 1) < n := by have := Fl.un_up hsC h0; omega
    have hbs : ∀ t, t ∈ besN p s 4 → isP p t = true ∧ t.length = 2 ∧ t ∈ nbQ p s := fun t ht => by
      have h1 := ht
      rw [← nbQ_of hs] at h1
      obtain ⟨d, d0, d4, d1, rfl⟩ := nbQ_iff.1 h1
      exact ⟨goQ_isP d1, ahead_len s d, h1⟩
    refine Goes.tree Γ_ok htb 1000 false false Tryz.func43 rfl ?_
    ((try simp only [decide_eq_true_eq, decide_eq_false_iff_not, Bool.not_eq_true', Bool.not_eq_false', Bool.not_true, Bool.not_false, Bool.and_eq_true, Bool.or_eq_true, bne_iff_ne, beq_iff_eq, ne_eq]); (try simp only [rng, lo, hi, mnI, mxI, Int.toNat_natCast, Sg.n, Nat.mul_one, Nat.zero_add, Nat.add_zero, Nat.reduceAdd, List.getD_cons_zero, List.getD_cons_succ, hR, if_true]))
    (repeat' (first | (with_reducible apply And.intro) | intro _))
    all_goals (try with_reducible first | exact no_tf (by with_reducible assumption) | exact no_ft (by with_reducible assumption))
    all_goals (try first | exact trivial | (first | exact trivial | (with_reducible assumption) | omega | (split <;> omega) | (split <;> split <;> omega)))
    generalize besN p s 4 = bes at *
    generalize upM m s 1 = m0 at *
    generalize hRR : pushL (pushN (nbQ p) G n) s bes f m0 = R at *
    clear eR
    refine ⟨?_⟩
    refine Goes.loopR (fun st : Nat × FL => bes.length - st.1) (fun st => st.1 ≤ bes.length ∧ lkM st.2 s ≠ 0 ∧ un st.2 < n ∧ pushL (pushN (nbQ p) G n) s (bes.drop st.1) f st.2 = R) (fun st => (.any :: .mp 0 :: .any :: .fs .spot G :: .mp 1 :: .pw 2 .pas :: .any :: .pw 3 .spot :: .any :: .any :: .any :: .any :: .any :: .any :: .any :: .any :: .any :: .any :: .any :: .any :: .ow 4 bes.length .spot 54 :: .i .i64 (bes.length:Int) :: .i .i64 (st.1:Int) :: .any :: .any :: .any :: .any :: .any :: .any :: .any :: .any :: .any :: .any :: .any :: .any :: .any :: .any :: .any :: .any :: .any :: .any :: .any :: .any :: .any :: .any :: .any :: .any :: .any :: .any :: .any :: .any :: .any :: .any :: .any :: .any :: .any :: []))
      (fun st => [.m .sp2 .bool f, .m .spot .bool st.2, .c .pas p, .c .spot s, .l .spot bes]) (0, m0) [0, 1, 2, 3, 4] ⟨Nat.zero_le _, hms, hu0, hRR⟩ ⟨rfl, rfl, rfl, (by repeat' (first | exact trivial | rfl | apply And.intro)), (by repeat' (first | exact trivial | rfl | apply And.intro)), rfl, rfl, rfl⟩ fun st ⟨hle, hms, hun, hst⟩ ih => ?_
    obtain ⟨i, m1⟩ := st
    clear hRR hu0
    dsimp only at hle hms hun hst ⊢
    by_cases hlt : i < bes.length
    · obtain ⟨htp, htl, htn⟩ := hbs _ (Fl.get_mem hlt)
      have htC := isC_of hd htp htl
      have hdr : bes.drop i = bes.getD i [] :: bes.drop (i + 1) := by
        rw [List.drop_eq_getElem_cons hlt, List.getD_eq_getElem?_getD, List.getElem?_eq_getElem hlt]; rfl
      rw [hdr] at hst
      generalize hbt : bes.getD i [] = t at *
      have hk1 := key_sp2 hl htl
      have hk2 := key_sp2 htl hl
      have hP := fun h0 : lkM m1 t = 0 => Fl.push_ok (nbQ_ok hd) (G := G) n f m1 t htC hf h0 hun
      generalize hrr : pushN (nbQ p) G n f m1 t = r at *
      have hskip : ¬ (lkM m1 t = 0 ∧ lkM f (s ++ t) = 0) → pushL (pushN (nbQ p) G n) s (bes.drop (i + 1)) f m1 = R := fun h => by rw [← hst, pushL, if_neg h]
      have hyes : lkM m1 t = 0 → lkM f (s ++ t) = 0 → r.1 = true → R = (true, Fl.updF r.2.1 s t, r.2.2) := fun h1 h2 h3 => by rw [← hst, pushL, if_pos ⟨h1, h2⟩, hrr, if_pos h3]
      have hno : lkM m1 t = 0 → lkM f (s ++ t) = 0 → r.1 = false → pushL (pushN (nbQ p) G n) s (bes.drop (i + 1)) r.2.1 r.2.2 = R := fun h1 h2 h3 => by rw [← hst, pushL, if_pos ⟨h1, h2⟩, hrr, if_neg (by rw [h3]; decide)]
      refine Goes.tree Γ_ok htb 1000 false false Tryz.func43 rfl ?_
      ((try simp only [decide_eq_true_eq, decide_eq_false_iff_not, Bool.not_eq_true', Bool.not_eq_false', Bool.not_true, Bool.not_false, Bool.and_eq_true, Bool.or_eq_true, bne_iff_ne, beq_iff_eq, ne_eq]); (try simp only [rng, lo, hi, mnI, mxI, Int.toNat_natCast, Sg.n, Nat.mul_one, Nat.zero_add, Nat.add_zero, Nat.reduceAdd, List.getD_cons_zero, List.getD_cons_succ, hbt, hk1, hk2, hrr]))
      (repeat' (first | (with_reducible apply And.intro) | intro _))
      all_goals (try with_reducible first | exact no_tf (by with_reducible assumption) | exact no_ft (by with_reducible assumption))
      all_goals (try first | exact trivial | (first | exact trivial | (with_reducible assumption) | omega | (split <;> omega) | (split <;> split <;> omega)))
      · rename_i h1
        refine ⟨ih (i + 1, m1) ⟨hlt, hms, hun, hskip fun g => h1 g.1⟩ (by dsimp only; omega) [0, 1, 2, 3, 4] _ _ ⟨rfl, rfl, rfl, (by repeat' (first | exact trivial | rfl | apply And.intro)), (by repeat' (first | exact trivial | rfl | apply And.intro)), rfl, rfl, rfl⟩⟩
      · rename_i h1
        refine ⟨ih (i + 1, m1) ⟨hlt, hms, hun, hskip fun g => h1 g.2⟩ (by dsimp only; omega) [0, 1, 2, 3, 4] _ _ ⟨rfl, rfl, rfl, (by repeat' (first | exact trivial | rfl | apply And.intro)), (by repeat' (first | exact trivial | rfl | apply And.intro)), rfl, rfl, rfl⟩⟩
      · exact nz_eq ‹(lkM m1 t != 0) = false›
      · rename_i h3 h4
        obtain rfl := hyes (nz_eq ‹(lkM m1 t != 0) = false›) (nz_eq ‹(lkM f (s ++ t) != 0) = false›) h3
        have e : Fl.updF r.2.1 s t = delM r.2.1 (t ++ s) := if_neg h4
        rw [e]
        (refine ⟨rfl, (by first | exact Nat.le_refl _ | exact Nat.le_of_ble_eq_true rfl), rfl, rfl, ?_, (by repeat' (first | exact trivial | rfl | apply And.intro)), rfl, rfl⟩)
        exact sameA_b rfl
      · rename_i h3 h4
        obtain rfl := hyes (nz_eq ‹(lkM m1 t != 0) = false›) (nz_eq ‹(lkM f (s ++ t) != 0) = false›) h3
        have e : Fl.updF r.2.1 s t = upM r.2.1 (s ++ t) 1 := if_pos (nz_eq h4)
        rw [e]
        (refine ⟨rfl, (by first | exact Nat.le_refl _ | exact Nat.le_of_ble_eq_true rfl), rfl, rfl, ?_, (by repeat' (first | exact trivial | rfl | apply And.intro)), rfl, rfl⟩)
        exact sameA_b rfl
      · rename_i h3
        have h1 := nz_eq ‹(lkM m1 t != 0) = false›
        have h2 := nz_eq ‹(lkM f (s ++ t) != 0) = false›
        have hPp := hP h1
        have hno := hno h1 h2 h3
        obtain ⟨hPf, -, -⟩ := hPp.no h3
        rw [hPf] at hno ⊢
        refine ⟨ih (i + 1, r.2.2) ⟨hlt, hPp.gr _ hms, Nat.lt_of_le_of_lt (Fl.un_mono hPp.gr) hun, hno⟩ (by dsimp only; omega) [0, 1, 2, 3, 4] _ _ ⟨rfl, rfl, rfl, (by repeat' (first | exact trivial | rfl | apply And.intro)), (by repeat' (first | exact trivial | rfl | apply And.intro)), rfl, rfl, rfl⟩⟩
    · obtain rfl : i = bes.length := by omega
      clear ih
      rw [List.drop_length] at hst
      obtain rfl : (false, f, m1) = R := hst
      refine Goes.tree Γ_ok htb 1000 false false Tryz.func43 rfl ?_
      ((try simp only [decide_eq_true_eq, decide_eq_false_iff_not, Bool.not_eq_true', Bool.not_eq_false', Bool.not_true, Bool.not_false, Bool.and_eq_true, Bool.or_eq_true, bne_iff_ne, beq_iff_eq, ne_eq]); (try simp only [rng, lo, hi, mnI, mxI, Int.toNat_natCast, Sg.n, Nat.mul_one, Nat.zero_add, Nat.add_zero, Nat.reduceAdd, List.getD_cons_zero, List.getD_cons_succ]))
      ((repeat' (first | (with_reducible apply And.intro) | intro _)); all_goals (first | exact trivial | (with_reducible assumption) | (show (_ : List Blk) = _; rfl) | (first | exact trivial | (with_reducible assumption) | omega | (split <;> omega) | (split <;> split <;> omega)) | skip); all_goals (try (refine ⟨rfl, (by first | exact Nat.le_refl _ | exact Nat.le_of_ble_eq_true rfl), rfl, rfl, ?_, (by repeat' (first | exact trivial | rfl | apply And.intro)), rfl, rfl⟩)))
      all_goals (first | contradiction | exact sameA_b rfl)
theorem s_push : ∀ n, Sound Tryz.prog 43 (pushS n)
  | 0 => by
    intro args M r M' vs h hvs
    unfold pushS at h
    split at h
    case h_2 => cases h
    cases h
    obtain ⟨⟨-, -, -, -, h, -⟩, -⟩ := hvs
    exact absurd h (Nat.not_lt_zero _)
  | n + 1 => s_pushStep (s_push n)
theorem s_push101 : Sound Tryz.prog 43 (pushS 101) := s_push 101
end Go.Proofs.YtjbgjgkogmlpfaaGreat
