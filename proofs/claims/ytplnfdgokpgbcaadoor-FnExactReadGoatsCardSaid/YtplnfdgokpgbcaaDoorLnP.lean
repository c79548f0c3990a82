/- The lines of a text, as the program's range over them gives them: plain. -/
import Derived.Test.YtplnfdgokpgbcaaDoorRgK
import Derived.Test.YtplnfdgokpgbcaaDoorRgD
namespace Go.Proofs.YtplnfdgokpgbcaaDoor
open Go Go.Eng
set_option linter.unusedSimpArgs false
set_option linter.unusedVariables false
set_option maxRecDepth 100000
set_option maxHeartbeats 4000000

/-- Where the line ends; the line, with its end; the rest; the line without its end. -/
def ixL (t : ByteArray) : Int := Lib.indexByte t.data.toList 10
def lnN (t : ByteArray) : ByteArray := if 0 ≤ ixL t then t.extract 0 (ixL t + 1).toNat else t
def lnR (t : ByteArray) : ByteArray := if 0 ≤ ixL t then t.extract (ixL t + 1).toNat t.size else ⟨#[]⟩
def lnC (x : ByteArray) : ByteArray := if cutB x 10 = true then x.extract 0 (x.size - 1) else x
def dropE : List ByteArray → List ByteArray
  | [] => []
  | [x] => if x = ⟨#[]⟩ then [] else [x]
  | x :: y :: r => x :: dropE (y :: r)
/-- All lines without their ends. -/
def lnL (t : ByteArray) : List ByteArray := dropE (splL t 10)
theorem ixL_bounds (t : ByteArray) : -1 ≤ ixL t ∧ ixL t < t.size := by
  unfold ixL
  have h1 := Lib.indexByte_ge t.data.toList 10
  refine ⟨h1, ?_⟩
  by_cases h : Lib.indexByte t.data.toList 10 = -1
  · omega
  · obtain ⟨i, hi⟩ : ∃ i : Nat, Lib.indexByte t.data.toList 10 = i := ⟨_, (Int.toNat_of_nonneg (by omega)).symm⟩
    have := (List.getElem?_eq_some_iff.1 (Lib.indexByte_some hi).1).1
    rw [size_list]; omega
theorem ln_step {t : ByteArray} (h : 0 < t.size) : lnL t = lnC (lnN t) :: lnL (lnR t) ∧ (lnR t).size < t.size ∧ (lnN t).size ≤ t.size := by
  have hb := ixL_bounds t
  have e10 : (((10 : UInt8).toNat : Nat) : Int) = 10 := rfl
  by_cases hi : 0 ≤ ixL t
  · have eN : lnN t = t.extract 0 (ixL t + 1).toNat := if_pos hi
    have eR : lnR t = t.extract (ixL t + 1).toNat t.size := if_pos hi
    obtain ⟨i, hx⟩ : ∃ i : Nat, ixL t = i := ⟨_, (Int.toNat_of_nonneg hi).symm⟩
    rw [hx] at eN eR hb
    have e1 : ((i : Int) + 1).toNat = i + 1 := by omega
    rw [e1] at eN eR
    have hlt : i < t.size := by omega
    have hh : Lib.index t.data.toList [10] = (i : Int) := by rw [Lib.index_one]; exact hx
    have hs := spB_hit hh
    have hat : t.data.toList[i]? = some 10 := (Lib.indexByte_some hx).1
    have hsz : (t.extract 0 (i + 1)).size = i + 1 := by rw [ByteArray.size_extract]; omega
    have hdR : (lnR t).data.toList = t.data.toList.drop (i + 1) := by
      rw [eR, ext_list, List.take_of_length_le (by rw [List.length_drop, ← size_list]; exact Nat.le_refl _)]
    have hlast : byA (t.extract 0 (i + 1)) i = 10 := by
      rw [byA_list, ext_list, List.drop_zero, List.getD_eq_getElem?_getD, List.getElem?_take_of_lt (by omega), hat]; rfl
    have hcut : cutB (lnN t) 10 = true := by
      rw [eN]
      unfold cutB
      rw [hsz]
      exact decide_eq_true ⟨by omega, hlast⟩
    have hC : lnC (lnN t) = t.extract 0 i := by
      unfold lnC
      rw [if_pos hcut, eN, hsz]
      refine ba_ext ?_
      rw [ext_list, ext_list, ext_list, List.drop_zero, List.drop_zero, List.take_take]
      congr 1; omega
    have hL : splL t 10 = t.extract 0 i :: splL (lnR t) 10 := by
      rw [← e10]
      refine splL_of ?_
      rw [hs, List.map_cons, splL_spB, hdR, ext_list, List.drop_zero]; rfl
    refine ⟨?_, by rw [eR, ByteArray.size_extract]; omega, by rw [eN, hsz]; omega⟩
    unfold lnL
    rw [hL, hC]
    have hne : splL (lnR t) 10 ≠ [] := fun e => by have := splL_pos (lnR t) 10; rw [e] at this; simp at this
    cases hq : splL (lnR t) 10 with
    | nil => exact absurd hq hne
    | cons y r => rfl
  · have eN : lnN t = t := if_neg hi
    have eR : lnR t = ⟨#[]⟩ := if_neg hi
    have hm : Lib.index t.data.toList [10] = -1 := by
      rw [Lib.index_one]
      have : ixL t = -1 := by omega
      exact this
    have hs := spB_miss hm
    have hL : splL t 10 = [t] := by
      rw [← e10]
      refine splL_of ?_
      rw [hs]; rfl
    have hno : cutB t 10 = false := by
      unfold cutB
      refine decide_eq_false fun ⟨h1, h2⟩ => ?_
      rw [byA_list] at h2
      have hlt : t.size - 1 < t.data.toList.length := by rw [← size_list]; omega
      rw [List.getD_eq_getElem?_getD, List.getElem?_eq_getElem hlt] at h2
      have hx : Lib.indexByte t.data.toList 10 = -1 := by rw [← Lib.index_one]; exact hm
      refine Lib.indexByte_none hx (t.size - 1) ?_
      rw [List.getElem?_eq_getElem hlt]
      have : t.data.toList[t.size - 1].toNat = 10 := by
        have h3 : ((t.data.toList[t.size - 1].toNat : Nat) : Int) = 10 := h2
        omega
      exact congrArg some (UInt8.toNat_inj.1 this)
    have hne : t ≠ ⟨#[]⟩ := fun e => by rw [e] at h; exact absurd h (by decide)
    refine ⟨?_, by rw [eR]; exact h, by rw [eN]; exact Nat.le_refl _⟩
    unfold lnL
    rw [hL, eN, eR]
    show (if t = ⟨#[]⟩ then [] else [t]) = _
    rw [if_neg hne]
    unfold lnC
    rw [if_neg (by rw [hno]; decide)]
    rfl
theorem ln_nil {t : ByteArray} (h : t.size = 0) : t = ⟨#[]⟩ ∧ lnL t = [] := by
  obtain ⟨⟨l⟩⟩ := t
  have : l = [] := List.eq_nil_of_length_eq_zero h
  subst this
  exact ⟨rfl, rfl⟩
theorem dropE_last : ∀ (L : List ByteArray), 0 < L.length → L.getD (L.length - 1) ⟨#[]⟩ = ⟨#[]⟩ → dropE L = L.take (L.length - 1)
  | [x], _, h => by
    have h' : x = ⟨#[]⟩ := h
    show (if x = ⟨#[]⟩ then [] else [x]) = []
    rw [if_pos h']
  | x :: y :: r, _, h => by
    have := dropE_last (y :: r) (by simp) (by
      simp only [List.length_cons, Nat.add_sub_cancel] at h ⊢
      exact h)
    show x :: dropE (y :: r) = _
    rw [this]
    rfl
theorem dropE_sub : ∀ (L : List ByteArray), ∀ w ∈ dropE L, w ∈ L
  | [], w, h => h
  | [x], w, h => by
    unfold dropE at h
    split at h
    · cases h
    · exact h
  | x :: y :: r, w, h => by
    rcases List.mem_cons.1 h with rfl | h
    · exact List.mem_cons_self
    · exact List.mem_cons_of_mem _ (dropE_sub (y :: r) w h)
theorem lnL_size (t : ByteArray) : ∀ w ∈ lnL t, w.size ≤ t.size := fun w hw => splL_size t 10 w (dropE_sub _ w hw)
theorem dropE_len : ∀ (L : List ByteArray), (dropE L).length ≤ L.length
  | [] => Nat.le_refl _
  | [x] => by
    unfold dropE
    split
    · exact Nat.zero_le _
    · exact Nat.le_refl _
  | x :: y :: r => Nat.succ_le_succ (dropE_len (y :: r))
/-- What the program reads of a line. -/
noncomputable def rdO (w : ByteArray) : Bool := giO (splL w 32)
noncomputable def rdV (w : ByteArray) : List Int := giW (splL w 32)
theorem rd_go {w : ByteArray} (h : goP w) : rdO w = true ∧ rdV w = goV w := by
  obtain ⟨h1, h2⟩ := go_gi h
  exact ⟨giO_iff.2 h1, by unfold rdV giW; rw [if_pos h1.1]; exact h2⟩
theorem giW_len (ws : List ByteArray) : (giW ws).length = 7 := by
  unfold giW
  split
  · unfold giV; split <;> rfl
  · rfl
theorem gs_lines {s : ByteArray} (h : gsP s) : lnL s = (splL s 10).take (gsN s) ∧ ∀ w ∈ lnL s, goP w := by
  obtain ⟨h1, h2, h3⟩ := h
  have hpos := splL_pos s 10
  have e : lnL s = (splL s 10).take (gsN s) := dropE_last _ (by omega) h1
  refine ⟨e, fun w hw => ?_⟩
  rw [e] at hw
  obtain ⟨i, hi, e⟩ := List.getElem_of_mem hw
  rw [List.length_take] at hi
  have := h3 i (by omega)
  rw [List.getD_eq_getElem?_getD, List.getElem?_eq_getElem (by omega)] at this
  rw [List.getElem_take] at e
  rw [← e]; exact this
/-- A line that the program does not read: the spec reads no goats. -/
theorem rg_stop {s : ByteArray} {ls rest : List ByteArray} {w : ByteArray} (h : lnL s = ls ++ w :: rest) (hw : rdO w = false) : ¬ gsP s := fun g => by
  have := (gs_lines g).2 w (by rw [h]; simp)
  have := (rd_go this).1
  rw [hw] at this; cases this
theorem gs_rows {s : ByteArray} (h : gsP s) : (lnL s).map rdV = gsV (splL s 10) (gsN s) := by
  obtain ⟨h1, h2⟩ := gs_lines h
  unfold gsV
  rw [← h1]
  exact List.map_congr_left fun w hw => (rd_go (h2 w hw)).2
/-- All lines read: the spec reads goats just where their text is the text. -/
theorem rg_done {s : ByteArray} : (goaT ((lnL s).map rdV) = s ↔ gsP s) ∧ (gsP s → (lnL s).map rdV = gsV (splL s 10) (gsN s)) := by
  refine ⟨⟨fun h => (gs_back (rows := (lnL s).map rdV) (fun g hg => ?_) h fun e => ?_).1, fun h => by rw [gs_rows h]; exact gs_text h⟩, gs_rows⟩
  · obtain ⟨w, -, rfl⟩ := List.mem_map.1 hg
    exact giW_len _
  · rw [(ln_nil (t := s) (by rw [e]; rfl)).2]; rfl
end Go.Proofs.YtplnfdgokpgbcaaDoor
