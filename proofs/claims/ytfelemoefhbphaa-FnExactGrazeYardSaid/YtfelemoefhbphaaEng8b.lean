/- The engine, part 8b: new blocks; what is built. No conditions. -/
import Derived.Test.YtfelemoefhbphaaEng8
namespace Go.Eng
open Go Go.RowKit
variable {P : Program} {Γ : Tab}

def boxBlk (σ : Sg) (x : AV) : Option Blk :=
  match σ.inf with
  | .cell k => match toCell k x with
    | some n => some (.c σ [n])
    | .none => .none
  | .str => match x with
    | .s s => some (.s [s])
    | _ => .none
  | .ref => if isRef x = true then some (.r [x]) else .none
  | .arr _ _ => match x with
    | .ag σ' ys => if σ' = σ then some (.c σ ys) else .none
    | _ => .none
  | .st _ => match x with
    | .ag σ' ys => if σ' = σ then some (.c σ ys) else .none
    | _ => .none

def zeroBlk (σ : Sg) : Blk :=
  match σ.inf with
  | .cell _ => .c σ [0]
  | .str => .s [ByteArray.empty]
  | .ref => .r [.any]
  | .arr _ _ => .c σ (List.replicate σ.n 0)
  | .st _ => .c σ (List.replicate σ.n 0)

theorem ptr_self {l : Loc} {σ : Sg} (h1 : l.size = σ.n) (h2 : l.σ = σ) : PtrOk l 0 σ := by
  refine ⟨by omega, ?_⟩
  split
  · rename_i hp
    refine ⟨by rw [h2]; exact hp, fun j hj => ?_⟩
    unfold Loc.kind
    rw [h2, Nat.zero_add, Nat.mod_eq_of_lt hj]
  · exact h2

theorem brel_c {ρ : Rho} {l : Loc} {σ : Sg} {ys : List Int} (hp : σ.pure = true) (hn : 0 < σ.n) (hl : ys.length = σ.n) (hok : cellsOk σ.flat ys) (h1 : l.size = σ.n) (h2 : l.room = σ.n) (h3 : l.σ = σ) :
    BRel ρ l (some (.cells (cellsV σ.flat ys).toArray l.ty (0, 0))) (.c σ ys) := by
  have hfl := Sg.flat_len σ hp
  refine ⟨_, rfl, by rw [List.size_toArray, cellsV_len _ _ (by omega)]; omega, h3, hp, hn, by omega, by omega, fun j x hx => ?_⟩
  have hj : j < ys.length := (List.getElem?_eq_some_iff.1 hx).1
  have hk : σ.flat[j]? = some (l.kind j) := by
    unfold Loc.kind
    rw [h3, Nat.mod_eq_of_lt (by omega), List.getD_eq_getElem?_getD, List.getElem?_eq_getElem (by omega)]; rfl
  exact ⟨by rw [List.getElem?_toArray]; exact cellsV_get _ _ _ _ _ hx hk, cellsOk_get _ _ _ _ _ hok hx hk⟩

theorem sg_pos {σ : Sg} (h : σ ≠ .none) : 0 < σ.n := by cases σ <;> first | (exact absurd rfl h) | decide

theorem boxBlk_rel {ρ : Rho} {σ : Sg} {x : AV} {v : Value} {b : Blk} {l : Loc} (hn : σ ≠ .none) (h : boxBlk σ x = some b) (hd : Den ρ x v) (h1 : l.size = σ.n) (h2 : l.room = σ.n) (h3 : l.σ = σ) :
    BRel ρ l (some (.cells v.cells l.ty (0, 0))) b ∧ (∀ vs, b = .r vs → ∀ y ∈ vs, y = x) := by
  have hpos := sg_pos hn
  have agg : ∀ ys, x = .ag σ ys → b = .c σ ys → BRel ρ l (some (.cells v.cells l.ty (0, 0))) b ∧ (∀ vs, b = .r vs → ∀ y ∈ vs, y = x) := by
    rintro ys rfl rfl
    obtain ⟨rfl, hl, hok, hp⟩ := hd
    exact ⟨brel_c hp hpos hl hok h1 h2 h3, fun vs e => by cases e⟩
  unfold boxBlk at h
  split at h
  · rename_i k hi
    split at h
    · rename_i n hc
      cases h
      obtain ⟨rfl, hok⟩ := toCell_den hc hd
      obtain ⟨f1, f2, f3⟩ := Sg.cell_flat σ k hi
      have e : (k.val n).cells = (cellsV σ.flat [n]).toArray := by rw [f1]; cases k <;> rfl
      rw [e]
      exact ⟨brel_c f3 hpos (by simp [f2]) (by rw [f1]; exact ⟨hok, trivial⟩) h1 h2 h3, fun vs e => by cases e⟩
    · cases h
  · rename_i hi
    have hσ : σ = .str := by cases σ <;> first | rfl | cases hi
    subst hσ
    split at h
    · cases h
      obtain ⟨rfl, hs⟩ := hd
      refine ⟨⟨_, rfl, by rw [h2]; rfl, h3, by rw [h1]; rfl, by omega, fun j y hy => ?_⟩, fun vs e => by cases e⟩
      cases j with
      | zero => simp at hy; subst hy; exact ⟨rfl, hs⟩
      | succ j => simp at hy
    · cases h
  · rename_i hi
    have hσ : σ = .ref := by cases σ <;> first | rfl | cases hi
    subst hσ
    split at h
    · rename_i hr
      cases h
      obtain ⟨o1, o2⟩ := isRef_one hr hd
      have ecell : v.cells = #[v] := by cases v <;> first | rfl | (cases o1)
      refine ⟨⟨_, rfl, by rw [h2, ecell]; rfl, h3, by rw [h1]; rfl, by omega, fun j y hy => ?_⟩, fun vs e y hy => by cases e; simpa using hy⟩
      cases j with
      | zero => simp at hy; subst hy; exact ⟨v, by rw [ecell]; rfl, hd, o1⟩
      | succ j => simp at hy
    · cases h
  · split at h
    · split at h
      · rename_i es; subst es; cases h; exact agg _ rfl rfl
      · cases h
    · cases h
  · split at h
    · split at h
      · rename_i es; subst es; cases h; exact agg _ rfl rfl
      · cases h
    · cases h

theorem zero_cells {σ : Sg} {z : Value} (hp : σ.pure = true) (hz : zeroOk σ z = true) : z.cells = (cellsV σ.flat (List.replicate σ.n 0)).toArray := by
  have hfl := Sg.flat_len σ hp
  unfold zeroOk at hz
  split at hz
  · rename_i cs
    simp only [Bool.and_eq_true, beq_iff_eq, List.all_eq_true, List.mem_range] at hz
    obtain ⟨⟨-, hs⟩, hall⟩ := hz
    show cs = _
    apply Array.ext_getElem?
    intro j
    rw [show (cellsV σ.flat (List.replicate σ.n 0)).toArray[j]? = (cellsV σ.flat (List.replicate σ.n 0))[j]? from List.getElem?_toArray, cellsV_getE]
    by_cases hj : j < σ.n
    · have h0 := hall j hj
      rw [List.getElem?_replicate, if_pos hj]
      split at h0
      · rename_i k k' n h1 h2
        simp only [Bool.and_eq_true, beq_iff_eq] at h0
        obtain ⟨rfl, rfl⟩ := h0
        rw [h1, h2]; rfl
      · rename_i b h1 h2
        rw [h1, h2]
        cases b
        · rfl
        · cases h0
      · cases h0
    · rw [List.getElem?_eq_none (l := σ.flat) (by omega), Array.getElem?_eq_none (by omega)]; rfl
  · simp only [Bool.and_eq_true, beq_iff_eq] at hz
    obtain ⟨h1, rfl⟩ := hz
    split at h1
    · rename_i hi
      obtain ⟨f1, f2, -⟩ := Sg.cell_flat σ _ hi
      simp only [beq_iff_eq] at h1
      subst h1
      rw [f1, f2]; rfl
    · cases h1
  · simp only [Bool.and_eq_true] at hz
    obtain ⟨h1, h2⟩ := hz
    split at h1
    · rename_i hi
      obtain ⟨f1, f2, -⟩ := Sg.cell_flat σ _ hi
      rw [f1, f2]
      rename_i b _
      cases b
      · rfl
      · cases h2
    · cases h1
  · split at hz
    · cases hp
    · simp at hz
  all_goals first | (simp only [beq_iff_eq] at hz; subst hz; cases hp) | cases hz

theorem zeros_ok : ∀ (ks : List CK) (n : Nat), cellsOk ks (List.replicate n 0)
  | [], _ => by cases ‹Nat› <;> trivial
  | _ :: _, 0 => trivial
  | k :: ks, n + 1 => by
    refine ⟨?_, zeros_ok ks n⟩
    cases k with
    | int k => cases k <;> exact ⟨by decide, by decide⟩
    | bool => exact .inl rfl

theorem zeroBlk_rel {ρ : Rho} {σ : Sg} {z : Value} {l : Loc} (hn : σ ≠ .none) (hz : zeroOk σ z = true) (h1 : l.size = σ.n) (h2 : l.room = σ.n) (h3 : l.σ = σ) :
    BRel ρ l (some (.cells z.cells l.ty (0, 0))) (zeroBlk σ) ∧ (∀ vs, zeroBlk σ = .r vs → ∀ y ∈ vs, y = .any) := by
  have hpos := sg_pos hn
  have agg : σ.pure = true → BRel ρ l (some (.cells z.cells l.ty (0, 0))) (.c σ (List.replicate σ.n 0)) := fun hp => by
    rw [zero_cells hp hz]
    exact brel_c hp hpos (by simp) (zeros_ok _ _) h1 h2 h3
  unfold zeroBlk
  cases hi : σ.inf with
  | cell k =>
    obtain ⟨f1, f2, f3⟩ := Sg.cell_flat σ k hi
    have := agg f3
    rw [f2] at this
    exact ⟨this, fun vs e => by cases e⟩
  | arr n e => exact ⟨agg (by cases σ <;> first | rfl | cases hi), fun vs e => by cases e⟩
  | st fs => exact ⟨agg (by cases σ <;> first | rfl | cases hi), fun vs e => by cases e⟩
  | str =>
    have hσ : σ = .str := by cases σ <;> first | rfl | cases hi
    subst hσ
    unfold zeroOk at hz
    split at hz <;> simp only [Bool.and_eq_true, beq_iff_eq, Sg.pure, reduceCtorEq, Bool.false_eq_true, false_and] at hz
    · split at hz <;> simp_all [Sg.inf]
    · split at hz <;> simp_all [Sg.inf]
    · rename_i s
      have hs : s = ByteArray.empty := by
        obtain ⟨⟨l⟩⟩ := s
        have : l.length = 0 := hz.2
        rw [List.length_eq_zero_iff] at this
        subst this; rfl
      subst hs
      refine ⟨⟨_, rfl, by rw [h2]; rfl, h3, by rw [h1]; rfl, by omega, fun j y hy => ?_⟩, fun vs e => by cases e⟩
      cases j with
      | zero => simp at hy; subst hy; exact ⟨rfl, by simp⟩
      | succ j => simp at hy
  | ref =>
    have hσ : σ = .ref := by cases σ <;> first | rfl | cases hi
    subst hσ
    have key : z.cells = #[z] ∧ z.oneCell' = true := by
      unfold zeroOk at hz
      split at hz <;> simp only [Bool.and_eq_true, beq_iff_eq, Sg.pure, Bool.false_eq_true, false_and] at hz <;> first
        | (split at hz <;> simp_all [Sg.inf]; done)
        | exact ⟨rfl, rfl⟩
        | (simp at hz; done)
    refine ⟨⟨_, rfl, by rw [h2, key.1]; rfl, h3, by rw [h1]; rfl, by omega, fun j y hy => ?_⟩, fun vs e y hy => by cases e; simpa using hy⟩
    cases j with
    | zero => simp at hy; subst hy; exact ⟨z, by rw [key.1]; rfl, trivial, key.2⟩
    | succ j => simp at hy

end Go.Eng
