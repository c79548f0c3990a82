/- Texts taken apart, plain: the library and the spec take them apart alike (a separator of one byte). -/
import Derived.Test.YtplnfdgokpgbcaaDoorRdN
import Derived.Test.YtplnfdgokpgbcaaDoorRdLay
import Derived.Lib.SplitLaws
import Derived.Lib.IndexBytes
namespace Go.Proofs.YtplnfdgokpgbcaaDoor
open Go Go.Eng
set_option linter.unusedSimpArgs false
set_option linter.unusedVariables false
set_option maxRecDepth 100000
set_option maxHeartbeats 4000000

theorem ba_ext {s t : ByteArray} (h : s.data.toList = t.data.toList) : s = t := by
  exact ByteArray.ext (Array.toList_inj.1 h)
theorem ext_list (s : ByteArray) (a b : Nat) : (s.extract a b).data.toList = (s.data.toList.drop a).take (b - a) := by
  obtain ⟨⟨l⟩⟩ := s
  simp [ByteArray.extract_mk]
/-- A suffix of one byte. -/
theorem suf_one (s : ByteArray) (b : UInt8) : Lib.hasSuffix s.data.toList [b] = cutB s (b.toNat : Int) := by
  unfold Lib.hasSuffix cutB
  rw [size_list, byA_list]
  generalize s.data.toList = l
  have e : ([b].isSuffixOf l = true) ↔ (0 < l.length ∧ ((l.getD (l.length - 1) 0).toNat : Int) = b.toNat) := by
    rw [List.isSuffixOf_iff_suffix]
    constructor
    · rintro ⟨m, rfl⟩
      refine ⟨by simp, ?_⟩
      rw [List.getD_eq_getElem?_getD, List.length_append, List.length_singleton, Nat.add_sub_cancel, List.getElem?_append_right (Nat.le_refl _), Nat.sub_self]
      rfl
    · rintro ⟨h1, h2⟩
      rcases List.eq_nil_or_concat l with e | ⟨m, c, e⟩
      · rw [e] at h1; exact absurd h1 (by simp)
      · rw [List.concat_eq_append] at e
        subst e
        rw [List.getD_eq_getElem?_getD, List.length_append, List.length_singleton, Nat.add_sub_cancel, List.getElem?_append_right (Nat.le_refl _), Nat.sub_self] at h2
        have : c = b := UInt8.toNat_inj.1 (by have h3 : ((c.toNat : Nat) : Int) = b.toNat := h2; omega)
        subst this
        exact ⟨m, rfl⟩
  cases h : [b].isSuffixOf l with
  | true => rw [decide_eq_true (e.1 h)]
  | false => rw [decide_eq_false fun g => by rw [e.2 g] at h; cases h]
theorem trim_one (s : ByteArray) (b : UInt8) : (⟨(Lib.trimSuffix s.data.toList [b]).toArray⟩ : ByteArray) = if cutB s (b.toNat : Int) = true then s.extract 0 (s.size - 1) else s := by
  unfold Lib.trimSuffix
  rw [suf_one]
  split
  · apply ba_ext
    rw [ext_list, size_list]
    simp
  · rfl

/-! Split at a byte. -/
def consH (c : UInt8) : List (List UInt8) → List (List UInt8)
  | [] => [[c]]
  | m :: r => (c :: m) :: r
def spB (b : UInt8) : List UInt8 → List (List UInt8)
  | [] => [[]]
  | c :: l => if c = b then [] :: spB b l else consH c (spB b l)
theorem spB_ne (b : UInt8) (l : List UInt8) : spB b l ≠ [] := by
  cases l with
  | nil => simp [spB]
  | cons c l =>
    unfold spB
    split
    · simp
    · cases spB b l <;> simp [consH]
/-- What was read, with what the next ones bring. -/
def appH (m : List UInt8) : List (List UInt8) → List (List UInt8)
  | [] => [m]
  | h :: r => (m ++ h) :: r
theorem appH_nil {L : List (List UInt8)} (h : L ≠ []) : appH [] L = L := by
  cases L with
  | nil => exact absurd rfl h
  | cons a r => rfl
theorem spB_app (b : UInt8) : ∀ (m l : List UInt8), b ∉ m → spB b (m ++ l) = appH m (spB b l) := by
  intro m
  induction m with
  | nil => intro l _; exact (appH_nil (spB_ne b l)).symm
  | cons c m ih =>
    intro l h
    have hc : c ≠ b := fun e => h (by rw [e]; exact List.mem_cons_self)
    show spB b (c :: (m ++ l)) = _
    rw [spB, if_neg hc, ih l fun g => h (List.mem_cons_of_mem _ g)]
    cases spB b l <;> rfl
/-- The spec's way. -/
theorem splK_spB (s : ByteArray) (b : UInt8) : ∀ i, i ≤ s.size → ∃ m, (s.data.toList.drop (splK s (b.toNat : Int) i).2).take (i - (splK s (b.toNat : Int) i).2) = m ∧ b ∉ m ∧
    ∀ r, spB b (s.data.toList.take i ++ r) = (splK s (b.toNat : Int) i).1.map (·.data.toList) ++ appH m (spB b r) := by
  intro i
  induction i with
  | zero =>
    intro _
    refine ⟨[], ?_, by simp, fun r => ?_⟩
    · simp [splK]
    · show spB b ([] ++ r) = [] ++ _
      rw [appH_nil (spB_ne b r)]; rfl
  | succ i ih =>
    intro hlt
    obtain ⟨m, h1, h2, h3⟩ := ih (by omega)
    have hle := (splK_le s (b.toNat : Int) i).1
    have hl : i < s.data.toList.length := by rw [← size_list]; omega
    have htk : ∀ r, s.data.toList.take (i + 1) ++ r = s.data.toList.take i ++ (s.data.toList[i] :: r) := fun r => by
      rw [List.take_add_one, List.getElem?_eq_getElem hl]; simp
    have hby : byA s i = ((s.data.toList[i]).toNat : Int) := by
      rw [byA_list, List.getD_eq_getElem?_getD, List.getElem?_eq_getElem hl]; rfl
    unfold splK
    by_cases hb : byA s i = (b.toNat : Int)
    · rw [if_pos hb]
      have hcb : s.data.toList[i] = b := UInt8.toNat_inj.1 (by rw [hby] at hb; omega)
      refine ⟨[], by simp, by simp, fun r => ?_⟩
      rw [htk, h3, hcb, spB, if_pos rfl]
      dsimp only
      rw [List.map_append, List.map_cons, List.map_nil, ext_list, h1, List.append_assoc, appH_nil (spB_ne b r)]
      show _ ++ ((m ++ []) :: spB b r) = _
      rw [List.append_nil]; rfl
    · rw [if_neg hb]
      have hcb : ¬ s.data.toList[i] = b := fun e => hb (by rw [hby, e])
      refine ⟨m ++ [s.data.toList[i]], ?_, fun g => ?_, fun r => ?_⟩
      · rw [show i + 1 - (splK s (b.toNat : Int) i).2 = (i - (splK s (b.toNat : Int) i).2) + 1 by omega, List.take_add_one, h1, List.getElem?_drop, show (splK s (b.toNat : Int) i).2 + (i - (splK s (b.toNat : Int) i).2) = i by omega, List.getElem?_eq_getElem hl]; rfl
      · rcases List.mem_append.1 g with g | g
        · exact h2 g
        · exact hcb (List.mem_singleton.1 g).symm
      · rw [htk, h3, spB, if_neg hcb]
        cases spB b r <;> simp [consH, appH]
theorem splL_spB (s : ByteArray) (b : UInt8) : (splL s (b.toNat : Int)).map (·.data.toList) = spB b s.data.toList := by
  obtain ⟨m, h1, h2, h3⟩ := splK_spB s b s.size (Nat.le_refl _)
  have h4 := h3 []
  rw [List.append_nil, size_list, List.take_length] at h4
  rw [h4]
  unfold splL
  rw [List.map_append, List.map_cons, List.map_nil, ext_list, h1]
  rw [← size_list]
  show _ = _ ++ [m ++ []]
  rw [List.append_nil]
/-- The library's way. -/
theorem spB_miss {b : UInt8} {l : List UInt8} (h : Lib.index l [b] = -1) : spB b l = [l] := by
  rw [Lib.index_one] at h
  have hn : b ∉ l := fun g => by
    obtain ⟨i, hl, e⟩ := List.mem_iff_getElem.1 g
    exact Lib.indexByte_none h i (by rw [List.getElem?_eq_getElem hl, e])
  have := spB_app b l [] hn
  rw [List.append_nil] at this
  rw [this]
  show [l ++ []] = [l]
  rw [List.append_nil]
theorem spB_hit {b : UInt8} {l : List UInt8} {i : Nat} (h : Lib.index l [b] = i) : spB b l = l.take i :: spB b (l.drop (i + 1)) := by
  rw [Lib.index_one] at h
  obtain ⟨h1, h2⟩ := Lib.indexByte_some h
  have hl : i < l.length := (List.getElem?_eq_some_iff.1 h1).1
  have he : l[i] = b := (List.getElem?_eq_some_iff.1 h1).2
  have hn : b ∉ l.take i := fun g => by
    obtain ⟨k, hk, e⟩ := List.mem_iff_getElem.1 g
    rw [List.length_take] at hk
    refine h2 k (by omega) ?_
    rw [List.getElem_take] at e
    rw [List.getElem?_eq_getElem (by omega), e]
  have e : l = l.take i ++ (b :: l.drop (i + 1)) := by
    rw [← he, ← List.drop_eq_getElem_cons hl, List.take_append_drop]
  have := spB_app b (l.take i) (b :: l.drop (i + 1)) hn
  rw [← e, spB, if_pos rfl] at this
  rw [this]
  show (_ ++ []) :: _ = _
  rw [List.append_nil]
theorem splitK_spB2 (b : UInt8) : ∀ (k : Nat) (l : List UInt8), Lib.count l [b] ≤ k → Lib.splitK [b] 0 k l = spB b l := by
  intro k
  induction k with
  | zero =>
    intro l h
    by_cases e : Lib.index l [b] = -1
    · exact (spB_miss e).symm
    · have hg := Lib.index_ge l [b]
      have := Lib.count_hit (s := l) (sub := [b]) (i := (Lib.index l [b]).toNat) (by simp) (by omega)
      omega
  | succ k ih =>
    intro l h
    unfold Lib.splitK
    by_cases e : Lib.index l [b] = -1
    · rw [if_pos (beq_iff_eq.2 e)]; exact (spB_miss e).symm
    · have hg := Lib.index_ge l [b]
      have ei : Lib.index l [b] = ((Lib.index l [b]).toNat : Nat) := by omega
      have hc := Lib.count_hit (s := l) (sub := [b]) (by simp) ei
      rw [if_neg (fun g => e (beq_iff_eq.1 g)), spB_hit ei, ih _ (by rw [List.length_singleton] at hc ⊢; omega)]
      rfl
/-- Both ways are one. -/
theorem split_same (s : ByteArray) (b : UInt8) : Lib.splitB ⟨#[b]⟩ 0 (Lib.countB s ⟨#[b]⟩) s = splL s (b.toNat : Int) := by
  have h1 := Lib.splitB_data ⟨#[b]⟩ 0 (Lib.countB s ⟨#[b]⟩) s
  have h2 : Lib.splitK [b] 0 (Lib.countB s ⟨#[b]⟩) s.data.toList = spB b s.data.toList := splitK_spB2 b _ _ (Nat.le_refl _)
  have h3 := splL_spB s b
  have h4 : (Lib.splitB ⟨#[b]⟩ 0 (Lib.countB s ⟨#[b]⟩) s).map (·.data.toList) = (splL s (b.toNat : Int)).map (·.data.toList) := by rw [h1, h3]; exact h2
  exact List.map_inj_right (fun _ _ e => ba_ext e) |>.1 h4
end Go.Proofs.YtplnfdgokpgbcaaDoor
