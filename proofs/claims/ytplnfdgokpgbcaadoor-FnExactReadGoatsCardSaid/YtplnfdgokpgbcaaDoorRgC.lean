/- A goat read from its line: the spec's walk. -/
import Derived.Test.YtplnfdgokpgbcaaDoorRgJ
namespace Go.Proofs.YtplnfdgokpgbcaaDoor
open Go Go.Eng
set_option linter.unusedSimpArgs false
set_option linter.unusedVariables false
set_option maxRecDepth 100000
set_option maxHeartbeats 8000000

theorem gr_contra {s : ByteArray} (g : goP s)
    (h : (!decide (((splL s 32).length : Int) = 4)) = true ∨ (!spO (gw s 0)) = true ∨ (!numB (gw s 2)) = true ∨ decide (100 < nv (gw s 2)) = true ∨ ((!decide (gw s 3 = richB)) = true ∧ (!decide (gw s 3 = nearB)) = true) ∨
      ((!decide (gw s 1 = freeB)) = true ∧ ((!decide (((splL (gw s 1) 126).length : Int) = 2)) = true ∨ (!spO (tw (gw s 1) 0)) = true ∨ (!numB (tw (gw s 1) 1)) = true ∨ decide (200 < nv (tw (gw s 1) 1)) = true))) : False := by
  obtain ⟨g1, g2, g3, g4, g5, g6⟩ := g
  rcases h with h | h | h | h | ⟨h, h'⟩ | ⟨h, h'⟩
  · exact dn_t h g1
  · have := nb_t h; rw [g3] at this; cases this
  · have := nb_t h; rw [g4] at this; cases this
  · exact g5 (of_decide_eq_true h)
  · rcases g6 with g6 | g6
    · exact dn_t h g6
    · exact dn_t h' g6
  · rcases g2 with g2 | ⟨g2, g7, g8, g9⟩
    · exact dn_t h g2
    · rcases h' with h' | h' | h' | h'
      · exact dn_t h' g2
      · have := nb_t h'; rw [g7] at this; cases this
      · have := nb_t h'; rw [g8] at this; cases this
      · exact g9 (of_decide_eq_true h')
theorem lk_or {w : ByteArray} (h : (!decide (w = richB)) = false ∨ (!decide (w = nearB)) = false) : w = richB ∨ w = nearB := by
  rcases h with h | h
  · exact .inl (dn_f h)
  · exact .inr (dn_f h)
theorem goV_free {s : ByteArray} (hf : gw s 1 = freeB) {z : Int} (hz : (if gw s 3 = nearB then (1:Int) else 0) = z) : goV s = [spX (gw s 0), spY (gw s 0), 0, 0, -1, nv (gw s 2), z] := by
  unfold goV; rw [if_pos hf, hz]
theorem goV_tied {s : ByteArray} (hf : ¬ gw s 1 = freeB) {z : Int} (hz : (if gw s 3 = nearB then (1:Int) else 0) = z) : goV s = [spX (gw s 0), spY (gw s 0), spX (tw (gw s 1) 0), spY (tw (gw s 1) 0), nv (tw (gw s 1) 1), nv (gw s 2), z] := by
  unfold goV; rw [if_neg hf, hz]
theorem four_of {α : Type} {l : List α} (h : (l.length : Int) = 4) : ∃ a b c d, l = [a, b, c, d] := by
  match l, h with
  | [a, b, c, d], _ => exact ⟨a, b, c, d, rfl⟩
  | [], h => simp at h
  | [_], h => simp at h
  | [_, _], h => simp at h
  | [_, _, _], h => simp at h
  | _ :: _ :: _ :: _ :: _ :: r, h => simp at h; omega
theorem two_of {α : Type} {l : List α} (h : (l.length : Int) = 2) : ∃ a b, l = [a, b] := by
  match l, h with
  | [a, b], _ => exact ⟨a, b, rfl⟩
  | [], h => simp at h
  | [_], h => simp at h
  | _ :: _ :: _ :: r, h => simp at h; omega
theorem rng_nv {w : ByteArray} (h : ¬ 100 < nv w) : rng .i16 (nv w) := by
  have := nv_rng w
  simp only [rng, lo, hi]; omega
theorem rng_nv2 {w : ByteArray} (h : ¬ 200 < nv w) : rng .i16 (nv w) := by
  have := nv_rng w
  simp only [rng, lo, hi]; omega
set_option maxRecDepth 100000 in
theorem s_l02Read : Sound Tryd.prog 70 grS := by
  intro args M r M' vs h hvs
  unfold grS at h
  split at h
  case h_2 => cases h
  rename_i s
  cases h
  refine SpecOK.assume fun hA hM => ?_
  have htb := (TbOk.cons s_l01Split Tryd.func64 rfl rfl (TbOk.cons s_l01Number Tryd.func66 rfl rfl (TbOk.cons s_l02ReadSpot Tryd.func97 rfl rfl (TbOk.nil : TbOk Tryd.prog tb0))))
  refine SpecOK.of_goes [] Tryd.func70 rfl ?_
  obtain ⟨hs, -⟩ := hvs
  clear hA hM
  have hszs := splL_size s 32
  by_cases hlen : ((splL s 32).length : Int) = 4
  · obtain ⟨w0, w1, w2, w3, hw⟩ := four_of hlen
    have e0 : gw s 0 = w0 := by unfold gw; rw [hw]; rfl
    have e1 : gw s 1 = w1 := by unfold gw; rw [hw]; rfl
    have e2 : gw s 2 = w2 := by unfold gw; rw [hw]; rfl
    have e3 : gw s 3 = w3 := by unfold gw; rw [hw]; rfl
    have z0 : w0.size ≤ 1073741000 := Nat.le_trans (hszs w0 (by rw [hw]; simp)) hs
    have z1 : w1.size ≤ 1073741000 := Nat.le_trans (hszs w1 (by rw [hw]; simp)) hs
    have z2 : w2.size ≤ 1073741000 := Nat.le_trans (hszs w2 (by rw [hw]; simp)) hs
    have z3 : w3.size ≤ 1073741000 := Nat.le_trans (hszs w3 (by rw [hw]; simp)) hs
    refine Goes.run Γ_ok htb 9 false [false] rfl ⟨hs, by rw [decide_eq_true hlen]; rfl, trivial⟩ ?_
    refine Goes.weak (fr' := (.s s :: .any :: .pw 0 .goat :: .any :: .fstr [w0, w1, w2, w3] :: .any :: .any :: .any :: .any :: .any :: .any :: .any :: .any :: .any :: .any :: .any :: .any :: .any :: .any :: .any :: .any :: .any :: .any :: .any :: .any :: .any :: .any :: .any :: .any :: .any :: .any :: .any :: .any :: .any :: .any :: .any :: .any :: .any :: .any :: .any :: .any :: .any :: .any :: .any :: .any :: .any :: .any :: .any :: .any :: .any :: .any :: .any :: .any :: .any :: .any :: .any :: .any :: .any :: .any :: .any :: .any :: .any :: .any :: .any :: .any :: .any :: .any :: .any :: .any :: .any :: .any :: .any :: .any :: .any :: .any :: .any :: .any :: .any :: .any :: .any :: .any :: .any :: .any :: .any :: .any :: .any :: .any :: .any :: .any :: .any :: .any :: .any :: .any :: .any :: .any :: .any :: .any :: .any :: .any :: .any :: .any :: .any :: .any :: .any :: .any :: .any :: .any :: .any :: .any :: .any :: .any :: .any :: [])) (M' := [.c .goat (List.replicate 7 0)]) ?_ ?_ ?_
    · repeat' (first | exact trivial | rfl | exact congrArg AV.fstr hw.symm | apply And.intro)
    · exact (by repeat' (first | exact trivial | rfl | apply And.intro))
    by_cases hf : w1 = freeB
    · refine Goes.run Γ_ok htb 11 false [false] rfl ⟨⟨by decide, by simp⟩, z0, ⟨by decide, by simp⟩, by show (!decide (w1 = freeB)) = false; rw [decide_eq_true hf]; rfl, trivial⟩ ?_
      refine Goes.ren (fr := (.s s :: .any :: .pw 0 .goat :: .any :: .fstr [w0, w1, w2, w3] :: .pw 1 .goat :: .any :: .b (spO w0) :: .any :: .any :: .any :: .any :: .any :: .any :: .any :: .any :: .any :: .any :: .any :: .any :: .any :: .any :: .any :: .any :: .any :: .any :: .any :: .any :: .any :: .any :: .any :: .any :: .any :: .any :: .any :: .any :: .any :: .any :: .any :: .any :: .any :: .any :: .any :: .any :: .any :: .any :: .any :: .any :: .any :: .any :: .any :: .any :: .any :: .any :: .any :: .any :: .any :: .any :: .any :: .any :: .any :: .any :: .any :: .any :: .any :: .any :: .any :: .any :: .any :: .any :: .any :: .any :: .any :: .any :: .any :: .any :: .any :: .any :: .any :: .any :: .any :: .any :: .any :: .any :: .any :: .any :: .any :: .any :: .any :: .any :: .any :: .any :: .any :: .any :: .any :: .any :: .any :: .any :: .any :: .any :: .any :: .any :: .any :: .any :: .any :: .any :: .any :: .any :: .any :: .any :: .any :: .any :: [])) (M := [.c .goat (List.replicate 7 0), .c .goat [spX w0, spY w0, 0, 0, -1, 0, 0]]) [0, 1] ⟨rfl, rfl, rfl, (by repeat' (first | exact trivial | rfl | apply And.intro)), (by repeat' (first | exact trivial | rfl | apply And.intro)), rfl, rfl, rfl⟩ ?_
      have hG : spO w0 = true → numB w2 = true → ¬ 100 < nv w2 → (w3 = richB ∨ w3 = nearB) → goP s := fun a b c d => ⟨hlen, .inl (by rw [e1]; exact hf), by rw [e0]; exact a, by rw [e2]; exact b, by rw [e2]; exact c, by rw [e3]; exact d⟩
      have hV : ∀ z : Int, (if w3 = nearB then (1:Int) else 0) = z → goV s = [spX w0, spY w0, 0, 0, -1, nv w2, z] := fun z hz => by unfold goV; rw [if_pos (by rw [e1]; exact hf), e0, e2, e3, hz]
      cases k1 : spO w0 with
      | false =>
        refine Goes.run Γ_ok htb 1000 false [true] rfl ?_ ?_
        · repeat' (first | exact trivial | decide | exact z2 | exact z3 | exact z0 | exact (by show (!spO w0) = true; rw [k1]; rfl) | apply And.intro)
          all_goals (first | omega | (simp; done) | trace_state)
        refine Goes.ret Γ_ok Tryd.func70 rfl rfl ?_
        (refine ⟨rfl, (by first | exact Nat.le_refl _ | exact Nat.le_of_ble_eq_true rfl), rfl, rfl, ?_, (by repeat' (first | exact trivial | rfl | apply And.intro)), rfl, rfl⟩)
        exact gr_bad (fun g => by have := g.2.2.1; rw [e0, k1] at this; cases this) rfl
      | true =>
        cases k2 : numB w2 with
        | false =>
          refine Goes.run Γ_ok htb 1000 false [false, true] rfl ?_ ?_
          · repeat' (first | exact trivial | decide | exact z2 | exact z3 | exact z0 | exact (by show (!spO w0) = false; rw [k1]; rfl) | exact (by show (!numB w2) = true; rw [k2]; rfl) | apply And.intro)
            all_goals (first | omega | (simp; done) | trace_state)
          refine Goes.ret Γ_ok Tryd.func70 rfl rfl ?_
          (refine ⟨rfl, (by first | exact Nat.le_refl _ | exact Nat.le_of_ble_eq_true rfl), rfl, rfl, ?_, (by repeat' (first | exact trivial | rfl | apply And.intro)), rfl, rfl⟩)
          exact gr_bad (fun g => by have := g.2.2.2.1; rw [e2, k2] at this; cases this) rfl
        | true =>
          by_cases k3 : 100 < nv w2
          · refine Goes.run Γ_ok htb 1000 false [false, false, true] rfl ?_ ?_
            · repeat' (first | exact trivial | decide | exact z2 | exact z3 | exact z0 | exact (by show (!spO w0) = false; rw [k1]; rfl) | exact (by show (!numB w2) = false; rw [k2]; rfl) | exact (decide_eq_true (show (100 : Int) < nv w2 from k3)) | apply And.intro)
              all_goals (first | omega | (simp; done) | trace_state)
            refine Goes.ret Γ_ok Tryd.func70 rfl rfl ?_
            (refine ⟨rfl, (by first | exact Nat.le_refl _ | exact Nat.le_of_ble_eq_true rfl), rfl, rfl, ?_, (by repeat' (first | exact trivial | rfl | apply And.intro)), rfl, rfl⟩)
            exact gr_bad (fun g => g.2.2.2.2.1 (e2.symm ▸ k3)) rfl
          · by_cases k4 : w3 = richB
            · have k5 : ¬ w3 = nearB := fun h => absurd (k4.symm.trans h) (by decide)
              refine Goes.run Γ_ok htb 1000 false [false, false, false, false, false] rfl ?_ ?_
              · repeat' (first | exact trivial | decide | exact z2 | exact z3 | exact z0 | exact (by show (!spO w0) = false; rw [k1]; rfl) | exact (by show (!numB w2) = false; rw [k2]; rfl) | exact (decide_eq_false (show ¬ (100 : Int) < nv w2 from k3)) | exact (by show (!decide (w3 = richB)) = false; rw [decide_eq_true k4]; rfl) | exact (decide_eq_false (show ¬ w3 = nearB from k5)) | exact (rng_nv k3) | apply And.intro)
                all_goals (first | omega | (simp; done) | trace_state)
              refine Goes.ret Γ_ok Tryd.func70 rfl rfl ?_
              (refine ⟨rfl, (by first | exact Nat.le_refl _ | exact Nat.le_of_ble_eq_true rfl), rfl, rfl, ?_, (by repeat' (first | exact trivial | rfl | apply And.intro)), rfl, rfl⟩)
              exact gr_good (hG k1 k2 k3 (.inl k4)) (hV _ (if_neg k5))
            · by_cases k5 : w3 = nearB
              · refine Goes.run Γ_ok htb 1000 false [false, false, false, true, false, true] rfl ?_ ?_
                · repeat' (first | exact trivial | decide | exact z2 | exact z3 | exact z0 | exact (by show (!spO w0) = false; rw [k1]; rfl) | exact (by show (!numB w2) = false; rw [k2]; rfl) | exact (decide_eq_false (show ¬ (100 : Int) < nv w2 from k3)) | exact (by show (!decide (w3 = richB)) = true; rw [decide_eq_false k4]; rfl) | exact (by show (!decide (w3 = nearB)) = false; rw [decide_eq_true k5]; rfl) | exact (decide_eq_true (show w3 = nearB from k5)) | exact (rng_nv k3) | apply And.intro)
                  all_goals (first | omega | (simp; done) | trace_state)
                refine Goes.ret Γ_ok Tryd.func70 rfl rfl ?_
                (refine ⟨rfl, (by first | exact Nat.le_refl _ | exact Nat.le_of_ble_eq_true rfl), rfl, rfl, ?_, (by repeat' (first | exact trivial | rfl | apply And.intro)), rfl, rfl⟩)
                exact gr_good (hG k1 k2 k3 (.inr k5)) (hV _ (if_pos k5))
              · refine Goes.run Γ_ok htb 1000 false [false, false, false, true, true] rfl ?_ ?_
                · repeat' (first | exact trivial | decide | exact z2 | exact z3 | exact z0 | exact (by show (!spO w0) = false; rw [k1]; rfl) | exact (by show (!numB w2) = false; rw [k2]; rfl) | exact (decide_eq_false (show ¬ (100 : Int) < nv w2 from k3)) | exact (by show (!decide (w3 = richB)) = true; rw [decide_eq_false k4]; rfl) | exact (by show (!decide (w3 = nearB)) = true; rw [decide_eq_false k5]; rfl) | apply And.intro)
                  all_goals (first | omega | (simp; done) | trace_state)
                refine Goes.ret Γ_ok Tryd.func70 rfl rfl ?_
                (refine ⟨rfl, (by first | exact Nat.le_refl _ | exact Nat.le_of_ble_eq_true rfl), rfl, rfl, ?_, (by repeat' (first | exact trivial | rfl | apply And.intro)), rfl, rfl⟩)
                exact gr_bad (fun g => by
                  rcases g.2.2.2.2.2 with g | g
                  · exact k4 (e3 ▸ g)
                  · exact k5 (e3 ▸ g)) rfl
    · refine Goes.run Γ_ok htb 10 false [true] rfl ⟨⟨by decide, by simp⟩, z0, ⟨by decide, by simp⟩, by show (!decide (w1 = freeB)) = true; rw [decide_eq_false hf]; rfl, trivial⟩ ?_
      refine Goes.ren (fr := (.s s :: .any :: .pw 0 .goat :: .any :: .fstr [w0, w1, w2, w3] :: .pw 1 .goat :: .any :: .b (spO w0) :: .any :: .any :: .any :: .any :: .any :: .any :: .any :: .any :: .any :: .any :: .any :: .any :: .any :: .any :: .any :: .any :: .any :: .any :: .any :: .any :: .any :: .any :: .any :: .any :: .any :: .any :: .any :: .any :: .any :: .any :: .any :: .any :: .any :: .any :: .any :: .any :: .any :: .any :: .any :: .any :: .any :: .any :: .any :: .any :: .any :: .any :: .any :: .any :: .any :: .any :: .any :: .any :: .any :: .any :: .any :: .any :: .any :: .any :: .any :: .any :: .any :: .any :: .any :: .any :: .any :: .any :: .any :: .any :: .any :: .any :: .any :: .any :: .any :: .any :: .any :: .any :: .any :: .any :: .any :: .any :: .any :: .any :: .any :: .any :: .any :: .any :: .any :: .any :: .any :: .any :: .any :: .any :: .any :: .any :: .any :: .any :: .any :: .any :: .any :: .any :: .any :: .any :: .any :: .any :: [])) (M := [.c .goat (List.replicate 7 0), .c .goat [spX w0, spY w0, 0, 0, -1, 0, 0]]) [0, 1] ⟨rfl, rfl, rfl, (by repeat' (first | exact trivial | rfl | apply And.intro)), (by repeat' (first | exact trivial | rfl | apply And.intro)), rfl, rfl, rfl⟩ ?_
      by_cases ht : ((splL w1 126).length : Int) = 2
      · obtain ⟨t0, t1, htw⟩ := two_of ht
        have hsz1 := splL_size w1 126
        have y0 : t0.size ≤ 1073741000 := Nat.le_trans (hsz1 t0 (by rw [htw]; simp)) z1
        have y1 : t1.size ≤ 1073741000 := Nat.le_trans (hsz1 t1 (by rw [htw]; simp)) z1
        have f0 : tw w1 0 = t0 := by unfold tw; rw [htw]; rfl
        have f1 : tw w1 1 = t1 := by unfold tw; rw [htw]; rfl
        refine Goes.run Γ_ok htb 7 false [false] rfl ⟨⟨by decide, by simp⟩, z1, by show (!decide (((splL w1 126).length : Int) = 2)) = false; rw [decide_eq_true ht]; rfl, trivial⟩ ?_
        refine Goes.weak (fr' := (.s s :: .any :: .pw 0 .goat :: .any :: .fstr [w0, w1, w2, w3] :: .pw 1 .goat :: .any :: .b (spO w0) :: .fstr [t0, t1] :: .any :: .any :: .any :: .any :: .any :: .any :: .any :: .any :: .any :: .any :: .any :: .any :: .any :: .any :: .any :: .any :: .any :: .any :: .any :: .any :: .any :: .any :: .any :: .any :: .any :: .any :: .any :: .any :: .any :: .any :: .any :: .any :: .any :: .any :: .any :: .any :: .any :: .any :: .any :: .any :: .any :: .any :: .any :: .any :: .any :: .any :: .any :: .any :: .any :: .any :: .any :: .any :: .any :: .any :: .any :: .any :: .any :: .any :: .any :: .any :: .any :: .any :: .any :: .any :: .any :: .any :: .any :: .any :: .any :: .any :: .any :: .any :: .any :: .any :: .any :: .any :: .any :: .any :: .any :: .any :: .any :: .any :: .any :: .any :: .any :: .any :: .any :: .any :: .any :: .any :: .any :: .any :: .any :: .any :: .any :: .any :: .any :: .any :: .any :: .any :: .any :: .any :: .any :: [])) (M' := [.c .goat (List.replicate 7 0), .c .goat [spX w0, spY w0, 0, 0, -1, 0, 0]]) ?_ ?_ ?_
        · repeat' (first | exact trivial | rfl | exact congrArg AV.fstr htw.symm | apply And.intro)
        · exact (by repeat' (first | exact trivial | rfl | apply And.intro))
        cases k1 : spO t0 with
        | false =>
          refine Goes.run Γ_ok htb 1000 false [true] rfl ?_ ?_
          · repeat' (first | exact trivial | decide | exact y0 | exact y1 | exact (by show (!spO t0) = true; rw [k1]; rfl) | apply And.intro)
            all_goals (first | omega | (simp; done) | trace_state)
          refine Goes.ret Γ_ok Tryd.func70 rfl rfl ?_
          (refine ⟨rfl, (by first | exact Nat.le_refl _ | exact Nat.le_of_ble_eq_true rfl), rfl, rfl, ?_, (by repeat' (first | exact trivial | rfl | apply And.intro)), rfl, rfl⟩)
          exact gr_bad (fun g => by
            rcases g.2.1 with g | g
            · exact hf (e1 ▸ g)
            · have := g.2.1; rw [e1, f0, k1] at this; cases this) rfl
        | true =>
          cases k2 : numB t1 with
          | false =>
            refine Goes.run Γ_ok htb 1000 false [false, true] rfl ?_ ?_
            · repeat' (first | exact trivial | decide | exact y0 | exact y1 | exact (by show (!spO t0) = false; rw [k1]; rfl) | exact (by show (!numB t1) = true; rw [k2]; rfl) | apply And.intro)
              all_goals (first | omega | (simp; done) | trace_state)
            refine Goes.ret Γ_ok Tryd.func70 rfl rfl ?_
            (refine ⟨rfl, (by first | exact Nat.le_refl _ | exact Nat.le_of_ble_eq_true rfl), rfl, rfl, ?_, (by repeat' (first | exact trivial | rfl | apply And.intro)), rfl, rfl⟩)
            exact gr_bad (fun g => by
              rcases g.2.1 with g | g
              · exact hf (e1 ▸ g)
              · have := g.2.2.1; rw [e1, f1, k2] at this; cases this) rfl
          | true =>
            by_cases k3 : 200 < nv t1
            · refine Goes.run Γ_ok htb 1000 false [false, false, true] rfl ?_ ?_
              · repeat' (first | exact trivial | decide | exact y0 | exact y1 | exact (by show (!spO t0) = false; rw [k1]; rfl) | exact (by show (!numB t1) = false; rw [k2]; rfl) | exact (decide_eq_true (show (200 : Int) < nv t1 from k3)) | apply And.intro)
                all_goals (first | omega | (simp; done) | trace_state)
              refine Goes.ret Γ_ok Tryd.func70 rfl rfl ?_
              (refine ⟨rfl, (by first | exact Nat.le_refl _ | exact Nat.le_of_ble_eq_true rfl), rfl, rfl, ?_, (by repeat' (first | exact trivial | rfl | apply And.intro)), rfl, rfl⟩)
              exact gr_bad (fun g => by
                rcases g.2.1 with g | g
                · exact hf (e1 ▸ g)
                · have g9 := g.2.2.2; rw [e1, f1] at g9; exact g9 k3) rfl
            · refine Goes.run Γ_ok htb 12 false [false, false, false] rfl ?_ ?_
              · repeat' (first | exact trivial | decide | exact y0 | exact y1 | exact (by show (!spO t0) = false; rw [k1]; rfl) | exact (by show (!numB t1) = false; rw [k2]; rfl) | exact (decide_eq_false (show ¬ (200 : Int) < nv t1 from k3)) | exact (rng_nv2 k3) | apply And.intro)
                all_goals (first | omega | (simp; done) | trace_state)
              refine Goes.ren (fr := (.s s :: .any :: .pw 0 .goat :: .any :: .fstr [w0, w1, w2, w3] :: .pw 1 .goat :: .any :: .b (spO w0) :: .any :: .any :: .any :: .any :: .any :: .any :: .any :: .any :: .any :: .any :: .any :: .any :: .any :: .any :: .any :: .any :: .any :: .any :: .any :: .any :: .any :: .any :: .any :: .any :: .any :: .any :: .any :: .any :: .any :: .any :: .any :: .any :: .any :: .any :: .any :: .any :: .any :: .any :: .any :: .any :: .any :: .any :: .any :: .any :: .any :: .any :: .any :: .any :: .any :: .any :: .any :: .any :: .any :: .any :: .any :: .any :: .any :: .any :: .any :: .any :: .any :: .any :: .any :: .any :: .any :: .any :: .any :: .any :: .any :: .any :: .any :: .any :: .any :: .any :: .any :: .any :: .any :: .any :: .any :: .any :: .any :: .any :: .any :: .any :: .any :: .any :: .any :: .any :: .any :: .any :: .any :: .any :: .any :: .any :: .any :: .any :: .any :: .any :: .any :: .any :: .any :: .any :: .any :: .any :: [])) (M := [.c .goat (List.replicate 7 0), .c .goat [spX w0, spY w0, spX t0, spY t0, nv t1, 0, 0]]) [0, 1] ⟨rfl, rfl, rfl, (by repeat' (first | exact trivial | rfl | apply And.intro)), (by repeat' (first | exact trivial | rfl | apply And.intro)), rfl, rfl, rfl⟩ ?_
              have hT : tieP w1 := ⟨ht, by rw [f0]; exact k1, by rw [f1]; exact k2, by rw [f1]; exact k3⟩
              have hG : spO w0 = true → numB w2 = true → ¬ 100 < nv w2 → (w3 = richB ∨ w3 = nearB) → goP s := fun a b c d => ⟨hlen, .inr (by rw [e1]; exact hT), by rw [e0]; exact a, by rw [e2]; exact b, by rw [e2]; exact c, by rw [e3]; exact d⟩
              have hV : ∀ z : Int, (if w3 = nearB then (1:Int) else 0) = z → goV s = [spX w0, spY w0, spX t0, spY t0, nv t1, nv w2, z] := fun z hz => by unfold goV; rw [if_neg (by rw [e1]; exact hf), e0, e1, e2, e3, f0, f1, hz]
              clear hT k1 k2 k3
              cases k1 : spO w0 with
              | false =>
                refine Goes.run Γ_ok htb 1000 false [true] rfl ?_ ?_
                · repeat' (first | exact trivial | decide | exact z2 | exact z3 | exact z0 | exact (by show (!spO w0) = true; rw [k1]; rfl) | apply And.intro)
                  all_goals (first | omega | (simp; done) | trace_state)
                refine Goes.ret Γ_ok Tryd.func70 rfl rfl ?_
                (refine ⟨rfl, (by first | exact Nat.le_refl _ | exact Nat.le_of_ble_eq_true rfl), rfl, rfl, ?_, (by repeat' (first | exact trivial | rfl | apply And.intro)), rfl, rfl⟩)
                exact gr_bad (fun g => by have := g.2.2.1; rw [e0, k1] at this; cases this) rfl
              | true =>
                cases k2 : numB w2 with
                | false =>
                  refine Goes.run Γ_ok htb 1000 false [false, true] rfl ?_ ?_
                  · repeat' (first | exact trivial | decide | exact z2 | exact z3 | exact z0 | exact (by show (!spO w0) = false; rw [k1]; rfl) | exact (by show (!numB w2) = true; rw [k2]; rfl) | apply And.intro)
                    all_goals (first | omega | (simp; done) | trace_state)
                  refine Goes.ret Γ_ok Tryd.func70 rfl rfl ?_
                  (refine ⟨rfl, (by first | exact Nat.le_refl _ | exact Nat.le_of_ble_eq_true rfl), rfl, rfl, ?_, (by repeat' (first | exact trivial | rfl | apply And.intro)), rfl, rfl⟩)
                  exact gr_bad (fun g => by have := g.2.2.2.1; rw [e2, k2] at this; cases this) rfl
                | true =>
                  by_cases k3 : 100 < nv w2
                  · refine Goes.run Γ_ok htb 1000 false [false, false, true] rfl ?_ ?_
                    · repeat' (first | exact trivial | decide | exact z2 | exact z3 | exact z0 | exact (by show (!spO w0) = false; rw [k1]; rfl) | exact (by show (!numB w2) = false; rw [k2]; rfl) | exact (decide_eq_true (show (100 : Int) < nv w2 from k3)) | apply And.intro)
                      all_goals (first | omega | (simp; done) | trace_state)
                    refine Goes.ret Γ_ok Tryd.func70 rfl rfl ?_
                    (refine ⟨rfl, (by first | exact Nat.le_refl _ | exact Nat.le_of_ble_eq_true rfl), rfl, rfl, ?_, (by repeat' (first | exact trivial | rfl | apply And.intro)), rfl, rfl⟩)
                    exact gr_bad (fun g => g.2.2.2.2.1 (e2.symm ▸ k3)) rfl
                  · by_cases k4 : w3 = richB
                    · have k5 : ¬ w3 = nearB := fun h => absurd (k4.symm.trans h) (by decide)
                      refine Goes.run Γ_ok htb 1000 false [false, false, false, false, false] rfl ?_ ?_
                      · repeat' (first | exact trivial | decide | exact z2 | exact z3 | exact z0 | exact (by show (!spO w0) = false; rw [k1]; rfl) | exact (by show (!numB w2) = false; rw [k2]; rfl) | exact (decide_eq_false (show ¬ (100 : Int) < nv w2 from k3)) | exact (by show (!decide (w3 = richB)) = false; rw [decide_eq_true k4]; rfl) | exact (decide_eq_false (show ¬ w3 = nearB from k5)) | exact (rng_nv k3) | apply And.intro)
                        all_goals (first | omega | (simp; done) | trace_state)
                      refine Goes.ret Γ_ok Tryd.func70 rfl rfl ?_
                      (refine ⟨rfl, (by first | exact Nat.le_refl _ | exact Nat.le_of_ble_eq_true rfl), rfl, rfl, ?_, (by repeat' (first | exact trivial | rfl | apply And.intro)), rfl, rfl⟩)
                      exact gr_good (hG k1 k2 k3 (.inl k4)) (hV _ (if_neg k5))
                    · by_cases k5 : w3 = nearB
                      · refine Goes.run Γ_ok htb 1000 false [false, false, false, true, false, true] rfl ?_ ?_
                        · repeat' (first | exact trivial | decide | exact z2 | exact z3 | exact z0 | exact (by show (!spO w0) = false; rw [k1]; rfl) | exact (by show (!numB w2) = false; rw [k2]; rfl) | exact (decide_eq_false (show ¬ (100 : Int) < nv w2 from k3)) | exact (by show (!decide (w3 = richB)) = true; rw [decide_eq_false k4]; rfl) | exact (by show (!decide (w3 = nearB)) = false; rw [decide_eq_true k5]; rfl) | exact (decide_eq_true (show w3 = nearB from k5)) | exact (rng_nv k3) | apply And.intro)
                          all_goals (first | omega | (simp; done) | trace_state)
                        refine Goes.ret Γ_ok Tryd.func70 rfl rfl ?_
                        (refine ⟨rfl, (by first | exact Nat.le_refl _ | exact Nat.le_of_ble_eq_true rfl), rfl, rfl, ?_, (by repeat' (first | exact trivial | rfl | apply And.intro)), rfl, rfl⟩)
                        exact gr_good (hG k1 k2 k3 (.inr k5)) (hV _ (if_pos k5))
                      · refine Goes.run Γ_ok htb 1000 false [false, false, false, true, true] rfl ?_ ?_
                        · repeat' (first | exact trivial | decide | exact z2 | exact z3 | exact z0 | exact (by show (!spO w0) = false; rw [k1]; rfl) | exact (by show (!numB w2) = false; rw [k2]; rfl) | exact (decide_eq_false (show ¬ (100 : Int) < nv w2 from k3)) | exact (by show (!decide (w3 = richB)) = true; rw [decide_eq_false k4]; rfl) | exact (by show (!decide (w3 = nearB)) = true; rw [decide_eq_false k5]; rfl) | apply And.intro)
                          all_goals (first | omega | (simp; done) | trace_state)
                        refine Goes.ret Γ_ok Tryd.func70 rfl rfl ?_
                        (refine ⟨rfl, (by first | exact Nat.le_refl _ | exact Nat.le_of_ble_eq_true rfl), rfl, rfl, ?_, (by repeat' (first | exact trivial | rfl | apply And.intro)), rfl, rfl⟩)
                        exact gr_bad (fun g => by
                          rcases g.2.2.2.2.2 with g | g
                          · exact k4 (e3 ▸ g)
                          · exact k5 (e3 ▸ g)) rfl
      · refine Goes.run Γ_ok htb 1000 false [true] rfl ⟨⟨by decide, by simp⟩, z1, by show (!decide (((splL w1 126).length : Int) = 2)) = true; rw [decide_eq_false ht]; rfl, trivial⟩ ?_
        refine Goes.ret Γ_ok Tryd.func70 rfl rfl ?_
        (refine ⟨rfl, (by first | exact Nat.le_refl _ | exact Nat.le_of_ble_eq_true rfl), rfl, rfl, ?_, (by repeat' (first | exact trivial | rfl | apply And.intro)), rfl, rfl⟩)
        exact gr_bad (fun g => by
          rcases g.2.1 with g | g
          · exact hf (e1 ▸ g)
          · exact ht (e1 ▸ g.1)) rfl
  · refine Goes.run Γ_ok htb 1000 false [true] rfl ⟨hs, by rw [decide_eq_false hlen]; rfl, trivial⟩ ?_
    refine Goes.ret Γ_ok Tryd.func70 rfl rfl ?_
    (refine ⟨rfl, (by first | exact Nat.le_refl _ | exact Nat.le_of_ble_eq_true rfl), rfl, rfl, ?_, (by repeat' (first | exact trivial | rfl | apply And.intro)), rfl, rfl⟩)
    exact gr_bad (fun g => hlen g.1) rfl
end Go.Proofs.YtplnfdgokpgbcaaDoor
