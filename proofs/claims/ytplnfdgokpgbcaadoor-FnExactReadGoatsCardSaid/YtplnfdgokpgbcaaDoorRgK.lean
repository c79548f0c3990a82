/- The text of goats and the goats read from a text: plain. -/
import Derived.Test.YtplnfdgokpgbcaaDoorRgG
namespace Go.Proofs.YtplnfdgokpgbcaaDoor
open Go Go.Eng
set_option linter.unusedSimpArgs false
set_option linter.unusedVariables false
set_option maxRecDepth 100000
set_option maxHeartbeats 4000000

def gsN (s : ByteArray) : Nat := (splL s 10).length - 1
def gsP (s : ByteArray) : Prop := (splL s 10).getD (gsN s) ⟨#[]⟩ = ⟨#[]⟩ ∧ gsN s ≤ 20 ∧ ∀ i, i < gsN s → goP ((splL s 10).getD i ⟨#[]⟩)
def gsV (ws : List ByteArray) (i : Nat) : List (List Int) := (ws.take i).map goV
theorem gsV_len {ws : List ByteArray} {i : Nat} (h : i ≤ ws.length) : (gsV ws i).length = i := by unfold gsV; rw [List.length_map, List.length_take]; omega
theorem gsV_succ {ws : List ByteArray} {i : Nat} (h : i < ws.length) : gsV ws (i + 1) = gsV ws i ++ [goV (ws.getD i ⟨#[]⟩)] := by
  unfold gsV
  rw [List.take_add_one, List.getElem?_eq_getElem h, List.getD_eq_getElem?_getD, List.getElem?_eq_getElem h, List.map_append]; rfl
/-- Lines, each with its end. -/
def catL : List (List UInt8) → List UInt8
  | [] => []
  | l :: r => l ++ 10 :: catL r
theorem catL_snoc (x : List UInt8) : ∀ L, catL (L ++ [x]) = catL L ++ (x ++ [10])
  | [] => by show x ++ 10 :: [] = [] ++ (x ++ [10]); rfl
  | l :: r => by
    show l ++ 10 :: catL (r ++ [x]) = (l ++ 10 :: catL r) ++ (x ++ [10])
    rw [catL_snoc x r, List.append_assoc]; rfl
theorem catL_split : ∀ L : List (List UInt8), (∀ l ∈ L, (10 : UInt8) ∉ l) → spB 10 (catL L) = L ++ [[]]
  | [], _ => rfl
  | l :: r, h => by
    show spB 10 (l ++ 10 :: catL r) = _
    rw [spB_sep (h l List.mem_cons_self), catL_split r fun m hm => h m (List.mem_cons_of_mem _ hm)]; rfl
theorem catL_join : ∀ L : List (List UInt8), joinB 10 (L ++ [[]]) = catL L
  | [] => rfl
  | l :: r => by
    rw [List.cons_append, joinB_cons 10 l (by simp), catL_join r]; rfl
theorem goT_list {rows : List (List Int)} : ∀ n, n ≤ rows.length → (goT rows n).data.toList = catL ((rows.take n).map fun g => (lnT g).data.toList) := by
  intro n
  induction n with
  | zero => intro _; rfl
  | succ n ih =>
    intro h
    have e : goT rows (n + 1) = goT rows n ++ linT (rows.getD n []) := by
      rw [← lin_go rows (n + 1), ← lin_go rows n]; rfl
    rw [e, cat_list, ih (by omega), List.take_add_one, List.getElem?_eq_getElem (by omega), List.map_append]
    show _ = catL (_ ++ [(lnT rows[n]).data.toList])
    rw [catL_snoc, linT_eq, cat_list, List.getD_eq_getElem?_getD, List.getElem?_eq_getElem (by omega)]; rfl
theorem ln_no (g : List Int) : (10 : UInt8) ∉ (lnT g).data.toList := by
  have n10 : ¬ isD (10 : UInt8) := not_D (.inl (by decide))
  rw [ln_list]
  simp only [List.mem_append, List.mem_cons]
  rintro (h | h | h | h | h | h | h)
  · exact spT_no n10 (by decide) h
  · revert h; decide
  · exact tie_no n10 (by decide) (by decide) (by decide) h
  · revert h; decide
  · exact dig_no n10 h
  · revert h; decide
  · exact lik_no (by decide) g h
/-- The goats that the spec reads have that text. -/
theorem gs_text {s : ByteArray} (h : gsP s) : goaT (gsV (splL s 10) (gsN s)) = s := by
  obtain ⟨h1, h2, h3⟩ := h
  have e10 : (((10 : UInt8).toNat : Nat) : Int) = 10 := rfl
  have hpos := splL_pos s 10
  have hj := join_splL s 10
  rw [e10] at hj
  unfold gsN at *
  generalize splL s 10 = ws at *
  have hn : ws.length - 1 < ws.length := by omega
  have hlen := gsV_len (ws := ws) (i := ws.length - 1) (by omega)
  have hat : ∀ w ∈ ws.take (ws.length - 1), goP w := fun w hw => by
    obtain ⟨i, hi, e⟩ := List.getElem_of_mem hw
    rw [List.length_take] at hi
    have := h3 i (by omega)
    rw [List.getD_eq_getElem?_getD, List.getElem?_eq_getElem (by omega)] at this
    rw [List.getElem_take] at e
    rw [← e]; exact this
  have hany : (gsV ws (ws.length - 1)).any nogG = false := by
    rw [List.any_eq_false]
    intro g hg
    unfold gsV at hg
    obtain ⟨w, hw, rfl⟩ := List.mem_map.1 hg
    rw [(line_text (hat w hw)).2]; decide
  have hw : ws = ws.take (ws.length - 1) ++ [⟨#[]⟩] := by
    conv => lhs; rw [← List.take_append_drop (ws.length - 1) ws]
    congr 1
    rw [List.drop_eq_getElem_cons hn, List.drop_eq_nil_of_le (by omega)]
    rw [List.getD_eq_getElem?_getD, List.getElem?_eq_getElem hn] at h1
    exact congrArg (fun x => [x]) h1
  have hgo : goaT (gsV ws (ws.length - 1)) = goT (gsV ws (ws.length - 1)) (gsV ws (ws.length - 1)).length := if_pos ⟨by omega, hany⟩
  rw [hgo]
  refine ba_ext ?_
  rw [goT_list _ (Nat.le_refl _), List.take_length]
  have hm : (gsV ws (ws.length - 1)).map (fun g => (lnT g).data.toList) = (ws.take (ws.length - 1)).map (·.data.toList) := by
    unfold gsV
    rw [List.map_map]
    refine List.map_congr_left fun w hw => ?_
    have := congrArg (fun x : ByteArray => x.data.toList) (line_text (hat w hw)).1
    rw [linT_eq] at this
    simp only [cat_list] at this
    exact List.append_cancel_right this
  rw [hm, ← catL_join, hj]
  conv => rhs; rw [hw]
  rw [List.map_append]; rfl
/-- And back. -/
theorem gs_back {rows : List (List Int)} {s : ByteArray} (h7 : ∀ g ∈ rows, g.length = 7) (hs : goaT rows = s) (h0 : s = ⟨#[]⟩ → rows = []) : gsP s ∧ gsV (splL s 10) (gsN s) = rows := by
  have e10 : (((10 : UInt8).toNat : Nat) : Int) = 10 := rfl
  have hcond : rows.length ≤ 20 ∧ rows.any nogG = false := by
    by_cases hc : rows.length ≤ 20 ∧ rows.any nogG = false
    · exact hc
    · have : goaT rows = ⟨#[]⟩ := if_neg hc
      have := h0 (hs.symm.trans this)
      subst this
      exact ⟨by decide, rfl⟩
  have hgo : s = goT rows rows.length := hs.symm.trans (if_pos hcond)
  have hl := goT_list (rows := rows) _ (Nat.le_refl _)
  rw [← hgo, List.take_length] at hl
  have hsp := splL_of (s := s) (b := 10) (L := rows.map lnT ++ [⟨#[]⟩]) (by
    rw [hl, catL_split _ (fun l hl => by
      obtain ⟨g, -, rfl⟩ := List.mem_map.1 hl
      exact ln_no g), List.map_append, List.map_map]; rfl)
  rw [e10] at hsp
  have hn : gsN s = rows.length := by unfold gsN; rw [hsp, List.length_append, List.length_map]; simp
  have hg : ∀ g ∈ rows, nogG g = false := fun g hg => by
    have := List.any_eq_false.1 hcond.2 g hg
    cases h : nogG g with
    | false => rfl
    | true => exact absurd h this
  have hget : ∀ i (hi : i < rows.length), (splL s 10).getD i ⟨#[]⟩ = lnT rows[i] := fun i hi => by
    rw [hsp, List.getD_eq_getElem?_getD, List.getElem?_append_left (by rw [List.length_map]; exact hi), List.getElem?_map, List.getElem?_eq_getElem hi]; rfl
  refine ⟨⟨?_, by rw [hn]; exact hcond.1, fun i hi => ?_⟩, ?_⟩
  · rw [hn, hsp, List.getD_eq_getElem?_getD, List.getElem?_append_right (by rw [List.length_map]; exact Nat.le_refl _), List.length_map, Nat.sub_self]; rfl
  · rw [hn] at hi
    rw [hget i hi]
    exact (line_back (h7 _ (List.getElem_mem hi)) (hg _ (List.getElem_mem hi))).1
  · rw [hn]
    unfold gsV
    rw [hsp, List.take_append_of_le_length (by rw [List.length_map]; exact Nat.le_refl _), List.take_of_length_le (by rw [List.length_map]; exact Nat.le_refl _), List.map_map]
    conv => rhs; rw [← List.map_id rows]
    exact List.map_congr_left fun g hgm => (line_back (h7 g hgm) (hg g hgm)).2
end Go.Proofs.YtplnfdgokpgbcaaDoor
