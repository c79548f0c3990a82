/- A goat read from its line: the program's walk. -/
import Derived.Test.YtplnfdgokpgbcaaDoorRgI
namespace Go.Proofs.YtplnfdgokpgbcaaDoor
open Go Go.Eng
set_option linter.unusedSimpArgs false
set_option linter.unusedVariables false
set_option maxRecDepth 100000
set_option maxHeartbeats 8000000

def wd (ws : List ByteArray) (i : Nat) : ByteArray := ws.getD i ⟨#[]⟩
def nI (x : ByteArray) (m : Int) : Int := if numI x m = true then numK x x.size else 0
theorem nI_eq (x : ByteArray) (m : Int) : (if numI x m = true then numK x x.size else 0) = nI x m := rfl
theorem nI_rng (x : ByteArray) (m : Int) (hm : 0 ≤ m) : 0 ≤ nI x m ∧ nI x m ≤ m := by
  unfold nI
  split
  · rename_i h
    unfold numI at h
    rw [Bool.and_eq_true, decide_eq_true_eq] at h
    have := numK_val x h.1
    omega
  · omega
def likV (x : ByteArray) : Int := if x = richB then 0 else if x = nearB then 1 else -1
theorem likV_rng (x : ByteArray) : -1 ≤ likV x ∧ likV x ≤ 1 := by
  unfold likV
  split
  · omega
  · split <;> omega
/-- What the program asks of the tie. -/
def tiI (w : ByteArray) : Prop := numI (cutZ w 126) 200 = true ∧ rsO (cutA w 126) = true
def giT (ws : List ByteArray) : Prop := (ws.length : Int) = 4 ∧ (wd ws 1 = freeB ∨ tiI (wd ws 1))
def giP (ws : List ByteArray) : Prop := giT ws ∧ rsO (wd ws 0) = true ∧ numI (wd ws 2) 100 = true
noncomputable def giO (ws : List ByteArray) : Bool := @decide (giP ws) (Classical.propDecidable _)
theorem giO_iff {ws : List ByteArray} : giO ws = true ↔ giP ws := by unfold giO; exact @decide_eq_true_iff _ (Classical.propDecidable _)
def giV (ws : List ByteArray) : List Int := if wd ws 1 = freeB then [rsV (cutA (wd ws 0) 44), rsV (cutZ (wd ws 0) 44), 0, 0, -1, nI (wd ws 2) 100, likV (wd ws 3)]
  else [rsV (cutA (wd ws 0) 44), rsV (cutZ (wd ws 0) 44), rsV (cutA (cutA (wd ws 1) 126) 44), rsV (cutZ (cutA (wd ws 1) 126) 44), nI (cutZ (wd ws 1) 126) 200, nI (wd ws 2) 100, likV (wd ws 3)]
noncomputable def giW (ws : List ByteArray) : List Int := @ite _ (giT ws) (Classical.propDecidable _) (giV ws) (List.replicate 7 0)
noncomputable def giS : Fun
  | [.fstr ws], [] => some (.t2 (.ag .goat (giW ws)) (.b (giO ws)), [], [∀ x ∈ ws, x.size ≤ 1073741000])
  | _, _ => .none
theorem dn_f {q : Prop} [Decidable q] (h : (!decide q) = false) : q := by
  rw [Bool.not_eq_false', decide_eq_true_eq] at h; exact h
theorem dn_t {q : Prop} [Decidable q] (h : (!decide q) = true) : ¬ q := by
  rw [Bool.not_eq_true', decide_eq_false_iff_not] at h; exact h
theorem nb_f {q : Bool} (h : (!q) = false) : q = true := by cases q <;> simp_all
theorem nb_t {q : Bool} (h : (!q) = true) : q = false := by cases q <;> simp_all
theorem gi_bad {f : Nat → Nat} {ws : List ByteArray} (h : ¬ giT ws) : sameA (AV.mapI f ((AV.ag .goat (giW ws)).t2 (AV.b (giO ws)))) ((AV.ag .goat (List.replicate Sg.goat.n 0)).t2 (AV.d false)) := by
  have e : giO ws = false := by
    cases hh : giO ws with
    | false => rfl
    | true => exact absurd (giO_iff.1 hh).1 h
  have e2 : giW ws = List.replicate 7 0 := if_neg h
  rw [e, e2]
  exact ⟨⟨rfl, rfl⟩, rfl⟩
theorem gi_end {f : Nat → Nat} {ws : List ByteArray} (h : giT ws) {v : List Int} (hv : giV ws = v) {x : AV} (hx : sameA (.b (giO ws)) x) : sameA (AV.mapI f ((AV.ag .goat (giW ws)).t2 (AV.b (giO ws)))) ((AV.ag .goat v).t2 x) := by
  have e2 : giW ws = giV ws := if_pos h
  rw [e2, hv]
  exact ⟨⟨rfl, rfl⟩, hx⟩
theorem gi_f {ws : List ByteArray} (h : rsO (wd ws 0) = false) : sameA (.b (giO ws)) (.d false) := by
  have e : giO ws = false := by
    cases hh : giO ws with
    | false => rfl
    | true => have := (giO_iff.1 hh).2.1; rw [h] at this; cases this
  rw [e]; rfl
theorem gi_t {ws : List ByteArray} (hT : giT ws) (h : rsO (wd ws 0) = true) : sameA (.b (giO ws)) (.b (numI (wd ws 2) 100)) := by
  have e : giO ws = numI (wd ws 2) 100 := by
    cases hh : numI (wd ws 2) 100 with
    | true => exact giO_iff.2 ⟨hT, h, hh⟩
    | false =>
      cases hg : giO ws with
      | false => rfl
      | true => have := (giO_iff.1 hg).2.2; rw [hh] at this; cases this
  rw [e]; exact sameA_refl _
set_option maxRecDepth 100000 in
theorem s_readGoat : Sound Tryd.prog 72 giS := by
  intro args M r M' vs h hvs
  unfold giS at h
  split at h
  case h_2 => cases h
  rename_i ws
  cases h
  refine SpecOK.assume fun hA hM => ?_
  have htb := (TbOk.cons s_readSpot Tryd.func69 rfl rfl (TbOk.cons s_number Tryd.func96 rfl rfl (TbOk.cons s_likings Tryd.func48 rfl rfl (TbOk.cons s_idx2 Tryd.func100 rfl rfl (TbOk.cons s_cut Tryd.func95 rfl rfl (TbOk.nil : TbOk Tryd.prog tb0))))))
  refine SpecOK.of_goes [] Tryd.func72 rfl ?_
  obtain ⟨hs, -⟩ := hvs
  clear hA hM
  have hm : (ws.length : Int) = 4 → ∀ i, i < 4 → (wd ws i).size ≤ 1073741000 := fun h i hi => hs _ (by unfold wd; rw [List.getD_eq_getElem?_getD, List.getElem?_eq_getElem (by omega)]; exact List.getElem_mem _)
  have hc := cut_size (wd ws 1) 126
  have r2 := nI_rng (wd ws 2) 100 (by decide)
  have r1 := nI_rng (cutZ (wd ws 1) 126) 200 (by decide)
  have rl := likV_rng (wd ws 3)
  refine Goes.tree Γ_ok htb 1000 false false Tryd.func72 rfl ?_
  (repeat' (first | (with_reducible apply And.intro) | intro _))
  all_goals (try first | exact trivial | (with_reducible assumption) | contradiction | rfl | omega)
  all_goals (try with_reducible first | exact no_tf (by with_reducible assumption) | exact no_ft (by with_reducible assumption))
  · (refine ⟨rfl, (by first | exact Nat.le_refl _ | exact Nat.le_of_ble_eq_true rfl), rfl, rfl, ?_, (by repeat' (first | exact trivial | rfl | apply And.intro)), rfl, rfl⟩)
    exact gi_bad fun g => dn_t (q := (ws.length : Int) = 4) (by assumption) g.1
  all_goals have h4 : (ws.length : Int) = 4 := dn_f (by assumption)
  all_goals (try first | omega | exact hm h4 0 (by decide) | exact hm h4 1 (by decide) | exact hm h4 2 (by decide) | exact hm h4 3 (by decide) | exact Nat.le_trans hc.1 (hm h4 1 (by decide)) | exact Nat.le_trans hc.2 (hm h4 1 (by decide)))
  all_goals (try first | (show rng _ (nI (wd ws 2) 100); simp only [rng, lo, hi]; omega) | (show rng _ (nI (cutZ (wd ws 1) 126) 200); simp only [rng, lo, hi]; omega) | (show rng _ (likV (wd ws 3)); simp only [rng, lo, hi]; omega))
  all_goals (try (refine ⟨rfl, (by first | exact Nat.le_refl _ | exact Nat.le_of_ble_eq_true rfl), rfl, rfl, ?_, (by repeat' (first | exact trivial | rfl | apply And.intro)), rfl, rfl⟩))
  · have hf : ¬ wd ws 1 = freeB := dn_t (q := wd ws 1 = freeB) (by assumption)
    have h2 : numI (cutZ (wd ws 1) 126) 200 = false := nb_t (q := numI (cutZ (wd ws 1) 126) 200) (by assumption)
    refine gi_bad fun g => ?_
    rcases g.2 with g | g
    · exact hf g
    · have := g.1; rw [h2] at this; cases this
  · have hf : ¬ wd ws 1 = freeB := dn_t (q := wd ws 1 = freeB) (by assumption)
    have h2 : rsO (cutA (wd ws 1) 126) = false := nb_t (q := rsO (cutA (wd ws 1) 126)) (by assumption)
    refine gi_bad fun g => ?_
    rcases g.2 with g | g
    · exact hf g
    · have := g.2; rw [h2] at this; cases this
  · have hf : ¬ wd ws 1 = freeB := dn_t (q := wd ws 1 = freeB) (by assumption)
    have h2 : numI (cutZ (wd ws 1) 126) 200 = true := nb_f (q := numI (cutZ (wd ws 1) 126) 200) (by assumption)
    have h3 : rsO (cutA (wd ws 1) 126) = true := nb_f (q := rsO (cutA (wd ws 1) 126)) (by assumption)
    have hT : giT ws := ⟨h4, .inr ⟨h2, h3⟩⟩
    exact gi_end hT (by unfold giV; rw [if_neg hf]; rfl) (gi_t hT (by assumption))
  · have hf : ¬ wd ws 1 = freeB := dn_t (q := wd ws 1 = freeB) (by assumption)
    have h2 : numI (cutZ (wd ws 1) 126) 200 = true := nb_f (q := numI (cutZ (wd ws 1) 126) 200) (by assumption)
    have h3 : rsO (cutA (wd ws 1) 126) = true := nb_f (q := rsO (cutA (wd ws 1) 126)) (by assumption)
    have hT : giT ws := ⟨h4, .inr ⟨h2, h3⟩⟩
    exact gi_end hT (by unfold giV; rw [if_neg hf]; rfl) (gi_f (by assumption))
  · have hf : wd ws 1 = freeB := dn_f (q := wd ws 1 = freeB) (by assumption)
    have hT : giT ws := ⟨h4, .inl hf⟩
    exact gi_end hT (by unfold giV; rw [if_pos hf]; rfl) (gi_t hT (by assumption))
  · have hf : wd ws 1 = freeB := dn_f (q := wd ws 1 = freeB) (by assumption)
    have hT : giT ws := ⟨h4, .inl hf⟩
    exact gi_end hT (by unfold giV; rw [if_pos hf]; rfl) (gi_f (by assumption))
end Go.Proofs.YtplnfdgokpgbcaaDoor
