/- Is a cell in a list? -/
import Derived.Test.YtfelemoefhbphaaBfs0
namespace Go.Proofs.Ytfelemoefhbphaa
open Go Go.Eng
set_option linter.unusedSimpArgs false
set_option linter.unusedVariables false
set_option maxRecDepth 100000
set_option maxHeartbeats 4000000

def isR (s r : List Int) : Bool := decide (s = r)
def hasR (rows : List (List Int)) (s : List Int) : Bool := rows.any (isR s)

def idxRS : Fun
  | [.fs .spot rows, .ag .spot s], [] => some (.i .i64 (findI (isR s) rows), [], [])
  | _, _ => .none
set_option maxRecDepth 100000 in
theorem s_idxR : Sound Try.prog 149 idxRS := by
  intro args M r M' vs h hvs
  unfold idxRS at h
  split at h
  case h_2 => cases h
  rename_i rows s
  cases h
  refine SpecOK.assume fun hA hM => ?_
  have htb := (TbOk.nil : TbOk Try.prog tb0)
  refine SpecOK.of_goes [] Try.func149 rfl ?_
  have hl : rows.length ≤ maxLen := hA.1
  have hm : maxLen = 9223372036854775807 := rfl
  clear hA hM
  refine Goes.tree Γ_ok htb 1000 false false Try.func149 rfl ?_
  refine ⟨?_⟩
  refine Goes.loopR (fun i : Nat => rows.length - i) (fun i => i ≤ rows.length ∧ ∀ j, j < i → isR s (rows.getD j []) = false) (fun i => (.fs .spot rows :: .any :: .any :: .pw 0 .spot :: .any :: .any :: .any :: .i .i64 (rows.length:Int) :: .i .i64 (i:Int) :: .any :: .any :: .any :: .any :: .any :: .any :: .any :: .any :: .any :: .any :: [])) (fun _ => [.c .spot s]) 0 [0] ⟨Nat.zero_le _, fun j hj => by omega⟩ ⟨rfl, rfl, rfl, (by repeat' (first | exact trivial | rfl | apply And.intro)), (by repeat' (first | exact trivial | rfl | apply And.intro)), rfl, rfl, rfl⟩ fun i ⟨hle, hno⟩ ih => ?_
  refine Goes.tree Γ_ok htb 1000 false false Try.func149 rfl ?_
  ((try simp only [decide_eq_true_eq, decide_eq_false_iff_not, Bool.not_eq_true', Bool.not_eq_false', Bool.not_true, Bool.not_false, Bool.and_eq_true, Bool.or_eq_true, bne_iff_ne, beq_iff_eq, ne_eq]); (try simp only [rng, lo, hi, mnI, mxI, Int.toNat_natCast, Sg.n, Nat.mul_one, Nat.zero_add, Nat.add_zero, Nat.reduceAdd, List.getD_cons_zero, List.getD_cons_succ]))
  ((repeat' (first | (with_reducible apply And.intro) | intro _)); all_goals (first | exact trivial | (with_reducible assumption) | (show (_ : List Blk) = _; rfl) | (first | exact trivial | (with_reducible assumption) | omega | (split <;> omega) | (split <;> split <;> omega)) | skip); all_goals (try (refine ⟨rfl, (by first | exact Nat.le_refl _ | exact Nat.le_of_ble_eq_true rfl), rfl, rfl, ?_, (by repeat' (first | exact trivial | rfl | apply And.intro)), rfl, rfl⟩)))
  · rename_i h1 h2
    rw [findI_some (i := i) (by omega) (decide_eq_true h2) hno]
    exact sameA_refl _
  · rename_i h1 h2
    refine ⟨ih (i + 1) ⟨by omega, fun j hj => ?_⟩ (by omega) [0] _ _ ⟨rfl, rfl, rfl, (by repeat' (first | exact trivial | rfl | apply And.intro)), (by repeat' (first | exact trivial | rfl | apply And.intro)), rfl, rfl, rfl⟩⟩
    by_cases hji : j = i
    · subst hji; exact decide_eq_false h2
    · exact hno j (by omega)
  · obtain rfl : i = rows.length := by omega
    rw [findI_none hno]
    exact sameA_refl _

def hasRS : Fun
  | [.fs .spot rows, .ag .spot s], [] => some (.b (hasR rows s), [], [])
  | _, _ => .none
set_option maxRecDepth 100000 in
theorem s_hasR : Sound Try.prog 105 hasRS := by
  intro args M r M' vs h hvs
  unfold hasRS at h
  split at h
  case h_2 => cases h
  rename_i rows s
  cases h
  refine SpecOK.assume fun hA hM => ?_
  have htb := (TbOk.cons s_idxR Try.func149 rfl rfl (TbOk.nil : TbOk Try.prog tb0))
  refine SpecOK.of_goes [] Try.func105 rfl ?_
  refine Goes.tree Γ_ok htb 1000 false false Try.func105 rfl ?_
  ((try simp only [decide_eq_true_eq, decide_eq_false_iff_not, Bool.not_eq_true', Bool.not_eq_false', Bool.not_true, Bool.not_false, Bool.and_eq_true, Bool.or_eq_true, bne_iff_ne, beq_iff_eq, ne_eq]); (try simp only [rng, lo, hi, mnI, mxI, Int.toNat_natCast, Sg.n, Nat.mul_one, Nat.zero_add, Nat.add_zero, Nat.reduceAdd, List.getD_cons_zero, List.getD_cons_succ]))
  ((repeat' (first | (with_reducible apply And.intro) | intro _)); all_goals (first | exact trivial | (with_reducible assumption) | (show (_ : List Blk) = _; rfl) | (first | exact trivial | (with_reducible assumption) | omega | (split <;> omega) | (split <;> split <;> omega)) | skip); all_goals (try (refine ⟨rfl, (by first | exact Nat.le_refl _ | exact Nat.le_of_ble_eq_true rfl), rfl, rfl, ?_, (by repeat' (first | exact trivial | rfl | apply And.intro)), rfl, rfl⟩)))
  unfold hasR
  rw [← findI_any]
  exact sameA_refl _
theorem s_hasRN : Sound Try.prog 105 (nilS .spot hasRS) := nil_sound rfl (by decide) s_hasR

/-! A table of the cells of a list. -/
theorem mask_get {rows : List (List Int)} (hs : ∀ s ∈ rows, inG s) : ∀ i, i ≤ rows.length → ∀ j, ((srcD rows i).getD j 0 = 0 ∨ (srcD rows i).getD j 0 = 1) ∧ ((srcD rows i).getD j 0 = 1 ↔ ∃ k, k < i ∧ cx (rows.getD k []) = j) := by
  intro i
  induction i with
  | zero =>
    intro _ j
    have : (srcD rows 0).getD j 0 = 0 := by
      unfold srcD
      rw [List.getD_eq_getElem?_getD, List.getElem?_replicate]; split <;> rfl
    rw [this]
    simp
  | succ i ih =>
    intro h j
    have hlt := cx_lt (hs (rows.getD i []) (by rw [List.getD_eq_getElem?_getD, List.getElem?_eq_getElem (by omega)]; exact List.getElem_mem _))
    obtain ⟨h1, h2⟩ := ih (by omega) j
    unfold srcD
    rw [set_get, srcD_len]
    split
    · rename_i hc
      exact ⟨.inr rfl, fun _ => ⟨i, by omega, hc.1⟩, fun _ => rfl⟩
    · rename_i hc
      refine ⟨h1, h2.trans ⟨?_, ?_⟩⟩
      · rintro ⟨k, hk, e⟩; exact ⟨k, by omega, e⟩
      · rintro ⟨k, hk, e⟩
        by_cases hki : k = i
        · subst hki; exact absurd ⟨e, by omega⟩ hc
        · exact ⟨k, by omega, e⟩

theorem cx_inj {r s : List Int} (hr : inG r) (hs : inG s) (lr : r.length = 2) (ls : s.length = 2) (h : cx r = cx s) : r = s := by
  obtain ⟨a, b, rfl⟩ := len2 lr
  obtain ⟨c, d, rfl⟩ := len2 ls
  unfold inG at hr hs
  unfold cx at h
  simp only [List.getD_cons_zero, List.getD_cons_succ] at hr hs h
  have h1 : a = c := by omega
  have h2 : b = d := by omega
  rw [h1, h2]

/-- Cells that are well formed. -/
def cellsR (rows : List (List Int)) : Prop := ∀ s ∈ rows, inG s ∧ s.length = 2

theorem mask_has {rows : List (List Int)} {s : List Int} (hr : cellsR rows) (hs : inG s) (ls : s.length = 2) : ((srcD rows rows.length).getD (cx s) 0 = 1 ↔ hasR rows s = true) ∧ ((srcD rows rows.length).getD (cx s) 0 = 0 ↔ hasR rows s = false) := by
  have hg := mask_get (fun s h => (hr s h).1) rows.length (Nat.le_refl _) (cx s)
  have h1 : (srcD rows rows.length).getD (cx s) 0 = 1 ↔ hasR rows s = true := by
    rw [hg.2]
    unfold hasR
    rw [List.any_eq_true]
    constructor
    · rintro ⟨k, hk, e⟩
      have hm : rows.getD k [] ∈ rows := by rw [List.getD_eq_getElem?_getD, List.getElem?_eq_getElem hk]; exact List.getElem_mem _
      exact ⟨_, hm, decide_eq_true (cx_inj (hr _ hm).1 hs (hr _ hm).2 ls e).symm⟩
    · rintro ⟨r, hm, e⟩
      obtain ⟨k, hk, rfl⟩ := List.mem_iff_getElem.1 hm
      refine ⟨k, hk, ?_⟩
      have e2 : s = rows[k] := of_decide_eq_true e
      rw [List.getD_eq_getElem?_getD, List.getElem?_eq_getElem hk]
      exact congrArg cx e2.symm
  refine ⟨h1, ?_⟩
  rcases hg.1 with e | e
  · refine ⟨fun _ => ?_, fun _ => e⟩
    cases hh : hasR rows s with
    | false => rfl
    | true => rw [h1.2 hh] at e; cases e
  · rw [h1.1 e, e]; simp

def maskS : Fun
  | [.fs .spot rows], [] => some (.ag .bgrid (srcD rows rows.length), [], [(∀ s ∈ rows, inG s) ∧ rows.length ≤ 10000000])
  | _, _ => .none
set_option maxRecDepth 100000 in
theorem s_l01Mask : Sound Try.prog 98 maskS := by
  intro args M r M' vs h hvs
  unfold maskS at h
  split at h
  case h_2 => cases h
  rename_i rows
  cases h
  refine SpecOK.assume fun hA hM => ?_
  have htb := (TbOk.nil : TbOk Try.prog tb0)
  refine SpecOK.of_goes [] Try.func98 rfl ?_
  obtain ⟨⟨hr, hl⟩, -⟩ := hvs
  clear hA hM
  refine Goes.tree Γ_ok htb 1000 false false Try.func98 rfl ?_
  refine ⟨?_⟩
  refine Goes.loopR (fun i : Nat => rows.length - i) (fun i => i ≤ rows.length) (fun i => (.fs .spot rows :: .any :: .pw 0 .bgrid :: .pw 1 .bgrid :: .i .i64 (i:Int) :: .any :: .any :: .any :: .any :: .any :: .any :: .any :: .any :: .any :: .any :: .any :: .any :: .any :: .any :: .any :: .any :: .any :: .any :: .any :: .any :: []))
    (fun i => [.c .bgrid (List.replicate 100 0), .c .bgrid (srcD rows i)]) 0 [0, 1] (Nat.zero_le _) ⟨rfl, rfl, rfl, (by repeat' (first | exact trivial | rfl | apply And.intro)), (by repeat' (first | exact trivial | rfl | apply And.intro)), rfl, rfl, rfl⟩ fun i hle ih => ?_
  by_cases hlt : i < rows.length
  · have hg : inG (rows.getD i []) := hr _ (by rw [List.getD_eq_getElem?_getD, List.getElem?_eq_getElem hlt]; exact List.getElem_mem _)
    unfold inG at hg
    refine Goes.tree Γ_ok htb 1000 false false Try.func98 rfl ?_
    ((try simp only [decide_eq_true_eq, decide_eq_false_iff_not, Bool.not_eq_true', Bool.not_eq_false', Bool.not_true, Bool.not_false, Bool.and_eq_true, Bool.or_eq_true, bne_iff_ne, beq_iff_eq, ne_eq]); (try simp only [rng, lo, hi, mnI, mxI, Int.toNat_natCast, Sg.n, Nat.mul_one, Nat.zero_add, Nat.add_zero, Nat.reduceAdd, List.getD_cons_zero, List.getD_cons_succ]))
    ((repeat' (first | (with_reducible apply And.intro) | intro _)); all_goals (first | exact trivial | (with_reducible assumption) | (show (_ : List Blk) = _; rfl) | (first | exact trivial | (with_reducible assumption) | omega | (split <;> omega) | (split <;> split <;> omega)) | skip); all_goals (try (refine ⟨rfl, (by first | exact Nat.le_refl _ | exact Nat.le_of_ble_eq_true rfl), rfl, rfl, ?_, (by repeat' (first | exact trivial | rfl | apply And.intro)), rfl, rfl⟩)))
    exact ⟨ih (i + 1) (by omega) (by omega) [0, 1] _ _ ⟨rfl, rfl, rfl, (by repeat' (first | exact trivial | rfl | apply And.intro)), (by repeat' (first | exact trivial | rfl | apply And.intro)), rfl, rfl, rfl⟩⟩
  · obtain rfl : i = rows.length := by omega
    clear ih
    refine Goes.tree Γ_ok htb 1000 false false Try.func98 rfl ?_
    ((try simp only [decide_eq_true_eq, decide_eq_false_iff_not, Bool.not_eq_true', Bool.not_eq_false', Bool.not_true, Bool.not_false, Bool.and_eq_true, Bool.or_eq_true, bne_iff_ne, beq_iff_eq, ne_eq]); (try simp only [rng, lo, hi, mnI, mxI, Int.toNat_natCast, Sg.n, Nat.mul_one, Nat.zero_add, Nat.add_zero, Nat.reduceAdd, List.getD_cons_zero, List.getD_cons_succ]))
    ((repeat' (first | (with_reducible apply And.intro) | intro _)); all_goals (first | exact trivial | (with_reducible assumption) | (show (_ : List Blk) = _; rfl) | (first | exact trivial | (with_reducible assumption) | omega | (split <;> omega) | (split <;> split <;> omega)) | skip); all_goals (try (refine ⟨rfl, (by first | exact Nat.le_refl _ | exact Nat.le_of_ble_eq_true rfl), rfl, rfl, ?_, (by repeat' (first | exact trivial | rfl | apply And.intro)), rfl, rfl⟩)))
    all_goals (first | contradiction | exact sameA_refl _ | trace_state)
theorem s_maskN : Sound Try.prog 98 (nilS .spot maskS) := nil_sound rfl (by decide) s_l01Mask
end Go.Proofs.Ytfelemoefhbphaa
