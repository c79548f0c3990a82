/- A line that the spec reads is the text of what it reads: plain. -/
import Derived.Test.YtplnfdgokpgbcaaDoorRgB
import Derived.Test.YtplnfdgokpgbcaaDoorGoI
namespace Go.Proofs.YtplnfdgokpgbcaaDoor
open Go Go.Eng
set_option linter.unusedSimpArgs false
set_option linter.unusedVariables false
set_option maxRecDepth 100000
set_option maxHeartbeats 4000000

def joinB (b : UInt8) : List (List UInt8) → List UInt8
  | [] => []
  | [x] => x
  | x :: y :: r => x ++ b :: joinB b (y :: r)
theorem joinB_cons (b : UInt8) (x : List UInt8) {r : List (List UInt8)} (h : r ≠ []) : joinB b (x :: r) = x ++ b :: joinB b r := by
  cases r with
  | nil => exact absurd rfl h
  | cons y t => rfl
theorem join_spB (b : UInt8) : ∀ l, joinB b (spB b l) = l
  | [] => rfl
  | c :: l => by
    have ih := join_spB b l
    have hne := spB_ne b l
    unfold spB
    split
    · rename_i e
      rw [joinB_cons b [] hne, ih, e]; rfl
    · cases hs : spB b l with
      | nil => exact absurd hs hne
      | cons m r =>
        rw [hs] at ih
        show joinB b ((c :: m) :: r) = c :: l
        cases r with
        | nil => exact congrArg (c :: ·) ih
        | cons y t =>
          rw [joinB_cons b _ (by simp)] at ih ⊢
          rw [← ih]; rfl
theorem join_splL (s : ByteArray) (b : UInt8) : s.data.toList = joinB b ((splL s (b.toNat : Int)).map (·.data.toList)) := by rw [splL_spB, join_spB]
theorem cat_list (x y : ByteArray) : (x ++ y).data.toList = x.data.toList ++ y.data.toList := by simp
theorem bytes2 {s : ByteArray} {b : UInt8} (h : (splL s (b.toNat : Int)).length = 2) : s = (splL s (b.toNat : Int)).getD 0 ⟨#[]⟩ ++ ⟨#[b]⟩ ++ (splL s (b.toNat : Int)).getD 1 ⟨#[]⟩ := by
  have hj := join_splL s b
  obtain ⟨x, y, hs⟩ : ∃ x y, splL s (b.toNat : Int) = [x, y] := by
    match splL s (b.toNat : Int), h with
    | [x, y], _ => exact ⟨x, y, rfl⟩
  rw [hs] at hj ⊢
  refine ba_ext ?_
  rw [hj]
  show x.data.toList ++ b :: y.data.toList = (x ++ ⟨#[b]⟩ ++ y).data.toList
  rw [cat_list, cat_list, List.append_assoc]; rfl
theorem bytes4 {s : ByteArray} {b : UInt8} (h : (splL s (b.toNat : Int)).length = 4) : s = (splL s (b.toNat : Int)).getD 0 ⟨#[]⟩ ++ ⟨#[b]⟩ ++ (splL s (b.toNat : Int)).getD 1 ⟨#[]⟩ ++ ⟨#[b]⟩ ++ (splL s (b.toNat : Int)).getD 2 ⟨#[]⟩ ++ ⟨#[b]⟩ ++ (splL s (b.toNat : Int)).getD 3 ⟨#[]⟩ := by
  have hj := join_splL s b
  obtain ⟨x, y, z, u, hs⟩ : ∃ x y z u, splL s (b.toNat : Int) = [x, y, z, u] := by
    match splL s (b.toNat : Int), h with
    | [x, y, z, u], _ => exact ⟨x, y, z, u, rfl⟩
  rw [hs] at hj ⊢
  refine ba_ext ?_
  rw [hj]
  show x.data.toList ++ b :: (y.data.toList ++ b :: (z.data.toList ++ b :: u.data.toList)) = (x ++ ⟨#[b]⟩ ++ y ++ ⟨#[b]⟩ ++ z ++ ⟨#[b]⟩ ++ u).data.toList
  simp only [cat_list, List.append_assoc]; rfl
/-- A spot's text, and what was read from it. -/
theorem spot_text {s : ByteArray} (h : spO s = true) : s = spT [spX s, spY s] := by
  obtain ⟨h1, h2, h3, -, -⟩ := (spO_iff s).1 h
  have e44 : (((44 : UInt8).toNat : Nat) : Int) = 44 := rfl
  have hb := bytes2 (s := s) (b := 44) (by rw [e44]; omega)
  rw [e44] at hb
  have x1 : spX s = numK (pa s) (pa s).size := (if_pos h).trans (if_pos h2)
  have x2 : spY s = numK (pb s) (pb s).size := (if_pos h).trans (if_pos h3)
  have d1 := num_dig h2
  have d2 := num_dig h3
  unfold spT
  simp only [List.getD_cons_zero, List.getD_cons_succ]
  rw [x1, x2, ← d1, ← d2]
  exact hb
theorem num_text {x : ByteArray} (h : numB x = true) : x = digS (nv x).toNat := by
  have e : nv x = numK x x.size := if_pos h
  rw [e]; exact num_dig h
theorem tie_text {w : ByteArray} (h : tieP w) : w = spT [spX (tw w 0), spY (tw w 0)] ++ ⟨#[126]⟩ ++ digS (nv (tw w 1)).toNat := by
  obtain ⟨h1, h2, h3, -⟩ := h
  have e126 : (((126 : UInt8).toNat : Nat) : Int) = 126 := rfl
  have hb := bytes2 (s := w) (b := 126) (by rw [e126]; omega)
  rw [e126] at hb
  rw [← spot_text h2, ← num_text h3]
  exact hb
theorem goV_free' {s : ByteArray} (hf : gw s 1 = freeB) : goV s = [spX (gw s 0), spY (gw s 0), 0, 0, -1, nv (gw s 2), if gw s 3 = nearB then 1 else 0] := if_pos hf
theorem goV_tied' {s : ByteArray} (hf : ¬ gw s 1 = freeB) : goV s = [spX (gw s 0), spY (gw s 0), spX (tw (gw s 1) 0), spY (tw (gw s 1) 0), nv (tw (gw s 1) 1), nv (gw s 2), if gw s 3 = nearB then 1 else 0] := if_neg hf
/-- What the spec reads from a line has that line for its text. -/
theorem line_text {s : ByteArray} (h : goP s) : linT (goV s) = s ++ ⟨#[10]⟩ ∧ nogG (goV s) = false := by
  obtain ⟨g1, g2, g3, g4, g5, g6⟩ := h
  have e32 : (((32 : UInt8).toNat : Nat) : Int) = 32 := rfl
  have hb := bytes4 (s := s) (b := 32) (by rw [e32]; omega)
  rw [e32] at hb
  have r0 := sp_rng (gw s 0)
  have r1 := sp_rng (tw (gw s 1) 0)
  have n2 := nv_rng (gw s 2)
  have n1 := nv_rng (tw (gw s 1) 1)
  have hl : ∀ z : Int, z = (if gw s 3 = nearB then 1 else 0) → (0 ≤ z ∧ z ≤ 1) ∧ gw s 3 = if z = 0 then richB else nearB := fun z hz => by
    rcases g6 with g6 | g6
    · rw [if_neg (by rw [g6]; decide)] at hz
      subst hz
      exact ⟨by omega, g6⟩
    · rw [if_pos g6] at hz
      subst hz
      exact ⟨by omega, g6⟩
  obtain ⟨hz, hlt⟩ := hl _ rfl
  by_cases hf : gw s 1 = freeB
  · rw [goV_free' hf]
    generalize hzz : (if gw s 3 = nearB then (1:Int) else 0) = z at *
    refine ⟨?_, nog_iff.2 ⟨by omega, by omega, plG_iff.2 ⟨by omega, by omega, by omega, .inr ⟨rfl, rfl⟩⟩⟩⟩
    have ht : tieT [spX (gw s 0), spY (gw s 0), 0, 0, -1, nv (gw s 2), z] = freeB := rfl
    have hs0 : spT [spX (gw s 0), spY (gw s 0), 0, 0, -1, nv (gw s 2), z] = gw s 0 := (spot_text g3).symm
    unfold linT
    rw [ht, hs0, show digS ([spX (gw s 0), spY (gw s 0), 0, 0, -1, nv (gw s 2), z].getD 5 0).toNat = gw s 2 from (num_text g4).symm, show likW [spX (gw s 0), spY (gw s 0), 0, 0, -1, nv (gw s 2), z] = gw s 3 from hlt.symm, ← hf]
    exact congrArg (· ++ (⟨#[10]⟩ : ByteArray)) hb.symm
  · have ht := g2.resolve_left hf
    have ht' := ht
    obtain ⟨t1, t2, t3, t4⟩ := ht'
    rw [goV_tied' hf]
    generalize hzz : (if gw s 3 = nearB then (1:Int) else 0) = z at *
    refine ⟨?_, nog_iff.2 ⟨by omega, by omega, plG_iff.2 ⟨by omega, by omega, by omega, .inl (by omega)⟩⟩⟩
    have htt : tieT [spX (gw s 0), spY (gw s 0), spX (tw (gw s 1) 0), spY (tw (gw s 1) 0), nv (tw (gw s 1) 1), nv (gw s 2), z] = gw s 1 := Eq.trans (if_pos (c := 0 ≤ nv (tw (gw s 1) 1)) n1.1) (tie_text ht).symm
    have hs0 : spT [spX (gw s 0), spY (gw s 0), spX (tw (gw s 1) 0), spY (tw (gw s 1) 0), nv (tw (gw s 1) 1), nv (gw s 2), z] = gw s 0 := (spot_text g3).symm
    unfold linT
    rw [htt, hs0, show digS ([spX (gw s 0), spY (gw s 0), spX (tw (gw s 1) 0), spY (tw (gw s 1) 0), nv (tw (gw s 1) 1), nv (gw s 2), z].getD 5 0).toNat = gw s 2 from (num_text g4).symm, show likW [spX (gw s 0), spY (gw s 0), spX (tw (gw s 1) 0), spY (tw (gw s 1) 0), nv (tw (gw s 1) 1), nv (gw s 2), z] = gw s 3 from hlt.symm]
    exact congrArg (· ++ (⟨#[10]⟩ : ByteArray)) hb.symm
end Go.Proofs.YtplnfdgokpgbcaaDoor
