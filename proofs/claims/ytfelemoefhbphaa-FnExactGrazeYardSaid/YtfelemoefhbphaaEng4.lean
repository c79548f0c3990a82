/- The engine, part 4: new blocks and stores. No conditions. -/
import Derived.Test.YtfelemoefhbphaaEng3
namespace Go.Eng
open Go Go.RowKit
variable {P : Program} {Γ : Tab}

/-- What a piece of a run does to memory. -/
structure After (ρ : Rho) (M M' : List Blk) (w w' : World) (ρ' : Rho) : Prop where
  ext : ∀ id, id < M.length → ρ' id = ρ id
  rel : MRel ρ' M' w'
  len : M.length ≤ M'.length
  dead : ∀ id, id < M.length → liveAt M' id → liveAt M id
  fresh : ∀ id, M.length ≤ id → liveAt M' id → w.heap.size ≤ (ρ' id).blk ∨ ∃ i, i < M.length ∧ liveAt M i ∧ (ρ' id).blk = (ρ i).blk
  frame : ∀ b, b < w.heap.size → (∀ id, liveAt M id → (ρ id).blk ≠ b) → w'.heap[b]? = w.heap[b]?
  os : w'.os = w.os
  tape : w'.tape = w.tape
  output : w'.output = w.output
  size : w.heap.size ≤ w'.heap.size
  fmono : ρ.le ρ'
  fnew : ∀ k o, ρ'.F k = some o → ρ.F k = some o ∨ w.heap.size ≤ k ∨ ∃ i, liveAt M i ∧ (ρ i).blk = k

theorem liveAt.lt {M : List Blk} {id : Nat} (h : liveAt M id) : id < M.length := by
  obtain ⟨b, hb, -⟩ := h
  exact (List.getElem?_eq_some_iff.1 hb).1

theorem MRel.blk_lt {ρ : Rho} {M : List Blk} {w : World} (h : MRel ρ M w) {id : Nat} (hl : liveAt M id) : (ρ id).blk < w.heap.size := by
  obtain ⟨b, hb, hlv⟩ := hl
  have := h.blk id b hb
  have key : ∀ o, w.heap[(ρ id).blk]? = some o → (ρ id).blk < w.heap.size := fun o ho => (Array.getElem?_eq_some_iff.1 ho).1
  cases b with
  | dead => cases hlv
  | c σ xs => obtain ⟨C, hb, -⟩ := this; exact key _ hb
  | s ss => obtain ⟨C, hb, -⟩ := this; exact key _ hb
  | l σ rows => obtain ⟨C, hb, -⟩ := this; exact key _ hb
  | rf σ rows => obtain ⟨C, hb, -⟩ := this; exact key _ hb
  | r vs => obtain ⟨C, hb, -⟩ := this; exact key _ hb

theorem After.refl {ρ : Rho} {M : List Blk} {w : World} (h : MRel ρ M w) : After ρ M M w w ρ :=
  ⟨fun _ _ => rfl, h, Nat.le_refl _, fun _ _ h => h, fun id hid hl => by have := hl.lt; omega, fun _ _ _ => rfl, rfl, rfl, rfl, Nat.le_refl _, ρ.le_refl, fun _ _ h => .inl h⟩

theorem After.trans {ρ ρ1 ρ2 : Rho} {M M1 M2 : List Blk} {w w1 w2 : World} (h : After ρ M M1 w w1 ρ1) (k : After ρ1 M1 M2 w1 w2 ρ2) : After ρ M M2 w w2 ρ2 where
  ext := fun id hid => (k.ext id (by have := h.len; omega)).trans (h.ext id hid)
  rel := k.rel
  len := Nat.le_trans h.len k.len
  dead := fun id hid hl => h.dead id hid (k.dead id (by have := h.len; omega) hl)
  fresh := fun id hid hl => by
    have hold : ∀ i, i < M1.length → liveAt M1 i → w.heap.size ≤ (ρ1 i).blk ∨ ∃ j, j < M.length ∧ liveAt M j ∧ (ρ1 i).blk = (ρ j).blk := by
      intro i hi hl1
      by_cases hlt : i < M.length
      · exact .inr ⟨i, hlt, h.dead i hlt hl1, by rw [h.ext i hlt]⟩
      · exact h.fresh i (by omega) hl1
    by_cases hlt : id < M1.length
    · rw [k.ext id hlt]
      exact hold id hlt (k.dead id hlt hl)
    · rcases k.fresh id (by omega) hl with h1 | ⟨i, hi, hl1, he⟩
      · exact .inl (Nat.le_trans h.size h1)
      · rw [he]; exact hold i hi hl1
  frame := fun b hb hn => by
    rw [k.frame b (Nat.lt_of_lt_of_le hb h.size) ?_, h.frame b hb hn]
    intro id hl e
    by_cases hlt : id < M.length
    · rw [h.ext id hlt] at e
      exact hn id (h.dead id hlt hl) e
    · rcases h.fresh id (by omega) hl with h1 | ⟨i, hi, hl1, he⟩
      · omega
      · exact hn i hl1 (by rw [← he]; exact e)
  os := k.os.trans h.os
  tape := k.tape.trans h.tape
  output := k.output.trans h.output
  size := Nat.le_trans h.size k.size
  fmono := Rho.le_trans h.fmono k.fmono
  fnew := fun b o hb => by
    rcases k.fnew b o hb with h1 | h1 | ⟨i, h1, h2⟩
    · exact h.fnew b o h1
    · exact .inr (.inl (Nat.le_trans h.size h1))
    · by_cases hlt : i < M.length
      · rw [h.ext i hlt] at h2
        exact .inr (.inr ⟨i, h.dead i hlt h1, h2⟩)
      · rcases h.fresh i (by omega) h1 with h3 | ⟨j, _, h3, h4⟩
        · exact .inr (.inl (h2 ▸ h3))
        · exact .inr (.inr ⟨j, h3, by rw [← h4, h2]⟩)

theorem BRel.congr {ρ ρ' : Rho} (hF : ρ.le ρ') {l : Loc} {h : Option Obj} {b : Blk} (hb : BRel ρ l h b) (hr : ∀ vs, b = .r vs → ∀ x ∈ vs, ∀ id ∈ x.ids, ρ' id = ρ id) : BRel ρ' l h b := by
  cases b with
  | dead => trivial
  | c σ xs => exact hb
  | s ss => exact hb
  | l σ rows => exact hb
  | rf σ rows =>
    obtain ⟨C, h1, h2, h3, h4, h5, h6⟩ := hb
    exact ⟨C, h1, h2, h3, h4, h5, fun j rows hj => (h6 j rows hj).imp fun y hy => ⟨hy.1, hy.2.mono hF⟩⟩
  | r vs =>
    obtain ⟨C, h1, h2, h3, h4, h5, h6⟩ := hb
    refine ⟨C, h1, h2, h3, h4, h5, fun j x hx => ?_⟩
    obtain ⟨y, hy1, hy2, hy3⟩ := h6 j x hx
    exact ⟨y, hy1, hy2.congr hF (hr vs rfl x (List.mem_of_getElem? hx)), hy3⟩


/-- ρ with one more place. -/
def up (ρ : Rho) (n : Nat) (l : Loc) : Rho := ⟨fun i => if i = n then l else ρ i, ρ.F⟩

theorem up_old {ρ : Rho} {n : Nat} {l : Loc} {i : Nat} (h : i < n) : up ρ n l i = ρ i := by unfold up; dsimp only; rw [if_neg (by omega)]
theorem up_new {ρ : Rho} {n : Nat} {l : Loc} : up ρ n l n = l := by unfold up; dsimp only; rw [if_pos rfl]
theorem up_le {ρ : Rho} {n : Nat} {l : Loc} : ρ.le (up ρ n l) := fun _ _ h => h

theorem FRel.ext {ρ ρ' : Rho} {n n' : Nat} {fr : List AV} {a : Act} (hF : ρ.le ρ') (h : FRel ρ n fr a) (he : ∀ id, id < n → ρ' id = ρ id) (hn : n ≤ n') : FRel ρ' n' fr a :=
  ⟨h.size, fun t => (h.den t).congr hF fun id hi => he id (h.ids t id hi), fun t i hi => Nat.lt_of_lt_of_le (h.ids t i hi) hn⟩

theorem FRel.put {ρ : Rho} {n : Nat} {fr : List AV} {a : Act} (h : FRel ρ n fr a) {r : AV} {v : Value} (hd : Den ρ r v) (hi : ∀ i ∈ r.ids, i < n) (d : Option Tmp) :
    FRel ρ n (match d with | some d => fr.set d r | .none => fr) (a.put d v) := by
  cases d with
  | none => exact h
  | some d =>
    have e : ∀ t, (fr.set d r).getD t .any = if d = t ∧ t < fr.length then r else fr.getD t .any := by
      intro t
      rw [List.getD_eq_getElem?_getD, List.getD_eq_getElem?_getD, List.getElem?_set]
      by_cases hdt : d = t
      · subst hdt
        by_cases hl : d < fr.length
        · simp [hl]
        · simp [hl]
      · simp [hdt]
    have e2 : ∀ t, (a.tmps.setIfInBounds d v).getD t undef = if d = t ∧ t < fr.length then v else a.tmps.getD t undef := by
      intro t
      rw [Array.getD_eq_getD_getElem?, Array.getD_eq_getD_getElem?, Array.getElem?_setIfInBounds]
      by_cases hdt : d = t
      · subst hdt
        by_cases hl : d < fr.length
        · simp [hl, h.size]
        · simp [hl, h.size]
      · simp [hdt]
    refine ⟨by simp [Act.put, h.size], fun t => ?_, fun t => ?_⟩
    · simp only [Act.put]
      rw [e, e2]
      split
      · exact hd
      · exact h.den t
    · simp only
      rw [e]
      split
      · exact hi
      · exact h.ids t

/-- A new block. -/
theorem After.alloc {ρ : Rho} {M : List Blk} {w : World} (h : MRel ρ M w) {l : Loc} {b : Blk} {o : Obj} (hl : l.blk = w.heap.size) (hb : BRel ρ l (some o) b)
    (hcl : ∀ vs, b = .r vs → ∀ x ∈ vs, ∀ i ∈ x.ids, i < M.length) :
    After ρ M (M ++ [b]) w { w with heap := w.heap.push o } (up ρ M.length l) := by
  have hget : ∀ k, k < w.heap.size → (w.heap.push o)[k]? = w.heap[k]? := fun k hk => by rw [Array.getElem?_push, if_neg (by omega)]
  have hlive : ∀ i, liveAt (M ++ [b]) i → i < M.length → liveAt M i := by
    rintro i ⟨b', hb', hv⟩ hi
    rw [List.getElem?_append_left hi] at hb'
    exact ⟨b', hb', hv⟩
  refine ⟨fun id hid => up_old hid, ⟨?_, ?_, ?_, ?_⟩, by simp, fun id hid hlv => hlive id hlv hid, ?_, fun k hk _ => hget k hk, rfl, rfl, rfl, by simp, up_le, fun _ _ h => .inl h⟩
  · intro id b' hb'
    by_cases hid : id < M.length
    · rw [List.getElem?_append_left hid] at hb'
      rw [up_old hid]
      have hold := h.blk id b' hb'
      have hcl' : ∀ vs, b' = .r vs → ∀ x ∈ vs, ∀ id ∈ x.ids, up ρ M.length l id = ρ id := by
        rintro vs rfl x hx i hi
        exact up_old (h.cl id vs hb' x hx i hi)
      by_cases hdead : b'.live = true
      · rw [show ({ w with heap := w.heap.push o } : World).heap = w.heap.push o from rfl, hget _ (h.blk_lt ⟨b', hb', hdead⟩)]
        exact hold.congr up_le hcl'
      · cases b' <;> first | trivial | (exact absurd rfl hdead)
    · have hid' : id = M.length := by
        have := (List.getElem?_eq_some_iff.1 hb').1
        simp at this; omega
      subst hid'
      rw [List.getElem?_append_right (Nat.le_refl _)] at hb'
      simp only [Nat.sub_self, List.getElem?_cons_zero, Option.some.injEq] at hb'
      subst hb'
      rw [up_new, hl]
      have : ({ w with heap := w.heap.push o } : World).heap[w.heap.size]? = some o := by simp
      rw [this]
      exact hb.congr up_le (fun vs e x hx i hi => up_old (hcl vs e x hx i hi))
  · intro i j hi hj he
    by_cases hi' : i < M.length
    · by_cases hj' : j < M.length
      · rw [up_old hi', up_old hj'] at he
        exact h.inj i j (hlive i hi hi') (hlive j hj hj') he
      · have hj2 : j = M.length := by have := hj.lt; simp at this; omega
        subst hj2
        rw [up_old hi', up_new, hl] at he
        have := h.blk_lt (hlive i hi hi')
        omega
    · have hi2 : i = M.length := by have := hi.lt; simp at this; omega
      by_cases hj' : j < M.length
      · subst hi2
        rw [up_old hj', up_new, hl] at he
        have := h.blk_lt (hlive j hj hj')
        omega
      · have := hj.lt; simp at this; omega
  · intro id vs hb' x hx i hi
    simp only [List.length_append, List.length_cons, List.length_nil]
    by_cases hid : id < M.length
    · rw [List.getElem?_append_left hid] at hb'
      have := h.cl id vs hb' x hx i hi
      omega
    · have hid' : id = M.length := by
        have := (List.getElem?_eq_some_iff.1 hb').1
        simp at this; omega
      subst hid'
      rw [List.getElem?_append_right (Nat.le_refl _)] at hb'
      simp only [Nat.sub_self, List.getElem?_cons_zero, Option.some.injEq] at hb'
      have := hcl vs hb' x hx i hi
      omega
  · intro k o' hk
    obtain ⟨e1, e2⟩ := h.env k o' hk
    have hkl : k < w.heap.size := (Array.getElem?_eq_some_iff.1 e1).1
    refine ⟨by rw [show ({ w with heap := w.heap.push o } : World).heap = w.heap.push o from rfl, hget k hkl]; exact e1, fun i hi he => ?_⟩
    by_cases hi' : i < M.length
    · rw [up_old hi'] at he
      exact e2 i (hlive i hi hi') he
    · have hi2 : i = M.length := by have := hi.lt; simp at this; omega
      subst hi2
      rw [up_new, hl] at he
      omega
  · intro id hid hlv
    have hid' : id = M.length := by have := hlv.lt; simp at this; omega
    subst hid'
    rw [up_new, hl]
    exact .inl (Nat.le_refl _)


/-- A block is written. -/
theorem After.set {ρ : Rho} {M : List Blk} {w w' : World} (h : MRel ρ M w) {id : Nat} {b b' : Blk} {o' : Obj} (hid : M[id]? = some b) (hlv : b.live = true)
    (hb : BRel ρ (ρ id) (some o') b') (hlv' : b'.live = true) (hcl : ∀ vs, b' = .r vs → ∀ x ∈ vs, ∀ i ∈ x.ids, i < M.length)
    (hw : w'.heap[(ρ id).blk]? = some o') (ho : ∀ k, k ≠ (ρ id).blk → w'.heap[k]? = w.heap[k]?) (hs : w'.heap.size = w.heap.size)
    (e1 : w'.os = w.os) (e2 : w'.tape = w.tape) (e3 : w'.output = w.output) : After ρ M (M.set id b') w w' ρ := by
  have hlt : id < M.length := (List.getElem?_eq_some_iff.1 hid).1
  have hlive : ∀ i, liveAt (M.set id b') i → liveAt M i := by
    rintro i ⟨c, hc, hv⟩
    rw [List.getElem?_set] at hc
    split at hc
    · rename_i e; subst e; exact ⟨b, hid, hlv⟩
    · exact ⟨c, hc, hv⟩
  refine ⟨fun _ _ => rfl, ⟨?_, fun i j hi hj he => h.inj i j (hlive i hi) (hlive j hj) he, ?_, ?_⟩, by simp, fun i _ hl => hlive i hl, fun i hi hl => by have := (hlive i hl).lt; omega, ?_, e1, e2, e3, by omega, ρ.le_refl, fun _ _ h => .inl h⟩
  · intro i c hc
    rw [List.getElem?_set] at hc
    split at hc
    · rename_i e
      subst e
      cases hc
      rw [hw]
      exact hb
    · rename_i hne
      have hold := h.blk i c hc
      by_cases hdead : c.live = true
      · rw [ho _ (fun e => hne (h.inj i id ⟨c, hc, hdead⟩ ⟨b, hid, hlv⟩ e).symm)]
        exact hold
      · cases c <;> first | trivial | (exact absurd rfl hdead)
  · intro i vs hc x hx j hj
    rw [List.length_set]
    rw [List.getElem?_set] at hc
    split at hc
    · cases hc
      exact hcl vs rfl x hx j hj
    · exact h.cl i vs hc x hx j hj
  · intro k o hk
    obtain ⟨g1, g2⟩ := h.env k o hk
    exact ⟨by rw [ho k (fun e => g2 id ⟨b, hid, hlv⟩ e.symm)]; exact g1, fun i hi => g2 i (hlive i hi)⟩
  · intro k _ hk
    exact ho k (fun e => hk id ⟨b, hid, hlv⟩ e.symm)

/-- A value as one whole-number cell. -/
def toCell : CK → AV → Option Int
  | .int k, .i k' n => if k = k' then some n else .none
  | .bool, .b p => some (if p = true then 1 else 0)
  | .bool, .d p => some (if p = true then 1 else 0)
  | _, _ => .none

theorem toCell_den {ρ : Rho} {k : CK} {r : AV} {n : Int} {v : Value} (h : toCell k r = some n) (hd : Den ρ r v) : v = k.val n ∧ k.ok n := by
  unfold toCell at h
  split at h
  · split at h
    · rename_i e; subst e; cases h; exact hd
    · cases h
  · cases h
    simp only [Den] at hd
    subst hd
    rename_i p
    cases p <;> exact ⟨rfl, by simp [CK.ok]⟩
  · cases h
    simp only [Den] at hd
    subst hd
    rename_i p
    cases p <;> exact ⟨rfl, by simp [CK.ok]⟩
  · cases h

/-- May stand in one cell of a block of references. -/
def isRef : AV → Bool
  | .p _ _ _ => true
  | .pw _ _ => true
  | .np => true
  | .sl _ _ _ _ => true
  | .ow _ _ _ _ => true
  | .nsl => true
  | .fn _ _ => true
  | .mp _ => true
  | _ => false

theorem isRef_one {ρ : Rho} {r : AV} {v : Value} (h : isRef r = true) (hd : Den ρ r v) : v.oneCell' = true ∧ v.cells.size = 1 := by
  cases r <;> simp only [isRef, reduceCtorEq] at h <;> simp only [Den] at hd
  · obtain ⟨rfl, -⟩ := hd; exact ⟨rfl, rfl⟩
  · obtain ⟨rfl, -⟩ := hd; exact ⟨rfl, rfl⟩
  · subst hd; exact ⟨rfl, rfl⟩
  · obtain ⟨cap, rfl, -⟩ := hd; exact ⟨rfl, rfl⟩
  · obtain ⟨cap, rfl, -⟩ := hd; exact ⟨rfl, rfl⟩
  · subst hd; exact ⟨rfl, rfl⟩
  · obtain ⟨rfl, -⟩ := hd; exact ⟨rfl, rfl⟩
  · subst hd; exact ⟨rfl, rfl⟩

/-- A part of the cells is written over. -/
def putSeg (xs : List Int) (off n : Nat) (ys : List Int) : List Int := xs.take off ++ ys ++ xs.drop (off + n)

def storeAV (M : List Blk) (id off : Nat) (σ : Sg) (r : AV) : Option (List Blk) :=
  match M[id]? with
  | some (.c τ xs) => match σ.inf with
    | .cell k => match toCell k r with
      | some n => some (M.set id (.c τ (xs.set off n)))
      | .none => .none
    | .arr _ _ => match r with
      | .ag σ' ys => if σ' = σ then some (M.set id (.c τ (putSeg xs off σ.n ys))) else .none
      | _ => .none
    | .st _ => match r with
      | .ag σ' ys => if σ' = σ then some (M.set id (.c τ (putSeg xs off σ.n ys))) else .none
      | _ => .none
    | _ => .none
  | some (.s ss) => match σ, r with
    | .str, .s s => some (M.set id (.s (ss.set off s)))
    | _, _ => .none
  | some (.r vs) => match σ with
    | .ref => if isRef r = true then some (M.set id (.r (vs.set off r))) else .none
    | _ => .none
  | _ => .none


theorem seg_get {α : Type} (xs ys : List α) (off j : Nat) (hl : off + ys.length ≤ xs.length) :
    (xs.take off ++ ys ++ xs.drop (off + ys.length))[j]? = if off ≤ j ∧ j < off + ys.length then ys[j - off]? else xs[j]? := by
  have h1 : (xs.take off).length = off := by rw [List.length_take]; omega
  by_cases hj : j < off
  · rw [if_neg (by omega), List.append_assoc, List.getElem?_append_left (by omega), List.getElem?_take, if_pos hj]
  · by_cases hj2 : j < off + ys.length
    · rw [if_pos (by omega), List.append_assoc, List.getElem?_append_right (by omega), h1, List.getElem?_append_left (by omega)]
    · rw [if_neg (by omega), List.getElem?_append_right (by rw [List.length_append, h1]; omega), List.length_append, h1, List.getElem?_drop]
      congr 1
      omega

theorem cellsV_get : ∀ (ks : List CK) (ys : List Int) (j : Nat) (y : Int) (k : CK), ys[j]? = some y → ks[j]? = some k → (cellsV ks ys)[j]? = some (k.val y)
  | [], _, _, _, _, _, h => by simp at h
  | _ :: _, [], _, _, _, h, _ => by simp at h
  | k :: ks, x :: xs, 0, y, k', h, h' => by simp at h h'; subst h; subst h'; simp [cellsV]
  | k :: ks, x :: xs, j + 1, y, k', h, h' => by
    simp only [List.getElem?_cons_succ] at h h'
    simp only [cellsV, List.getElem?_cons_succ]
    exact cellsV_get ks xs j y k' h h'

theorem cellsOk_get : ∀ (ks : List CK) (ys : List Int) (j : Nat) (y : Int) (k : CK), cellsOk ks ys → ys[j]? = some y → ks[j]? = some k → k.ok y
  | [], _, _, _, _, _, _, h => by simp at h
  | _ :: _, [], _, _, _, _, h, _ => by simp at h
  | k :: ks, x :: xs, 0, y, k', ho, h, h' => by simp at h h'; subst h; subst h'; exact ho.1
  | k :: ks, x :: xs, j + 1, y, k', ho, h, h' => by
    simp only [List.getElem?_cons_succ] at h h'
    exact cellsOk_get ks xs j y k' ho.2 h h'

theorem cellsV_len : ∀ (ks : List CK) (ys : List Int), ks.length = ys.length → (cellsV ks ys).length = ys.length
  | [], [], _ => rfl
  | k :: ks, y :: ys, h => by simp only [cellsV, List.length_cons]; rw [cellsV_len ks ys (by simpa using h)]

theorem cellsV_one : ∀ (ks : List CK) (ys : List Int), ∀ v ∈ cellsV ks ys, v.oneCell' = true
  | k :: ks, y :: ys, v, hv => by
    simp only [cellsV, List.mem_cons] at hv
    rcases hv with rfl | hv
    · exact kind_val_one k y
    · exact cellsV_one ks ys v hv
  | [], _, v, hv => by simp [cellsV] at hv
  | _ :: _, [], v, hv => by simp [cellsV] at hv

/-- A piece of a block of cells is written. -/
theorem brel_seg {ρ : Rho} {l : Loc} {C : Array Value} {τ : Sg} {xs : List Int} (hb : BRel ρ l (some (.cells C l.ty (0, 0))) (.c τ xs))
    {ks : List CK} {ys : List Int} {off : Nat} (hk : ks.length = ys.length) (hl : off + ys.length ≤ xs.length) (hkind : ∀ j, j < ys.length → l.kind (off + j) = ks.getD j .bool) (hok : cellsOk ks ys) :
    BRel ρ l (some (.cells (C.toList.take off ++ cellsV ks ys ++ C.toList.drop (off + (cellsV ks ys).length)).toArray l.ty (0, 0))) (.c τ (xs.take off ++ ys ++ xs.drop (off + ys.length))) := by
  obtain ⟨C0, e, h2, h3, h4, h5, h6, h7, h8⟩ := hb
  cases e
  have hcl := cellsV_len ks ys hk
  have hsz : (C.toList.take off ++ cellsV ks ys ++ C.toList.drop (off + (cellsV ks ys).length)).length = C.size := by
    have : C.toList.length = C.size := Array.length_toList
    simp only [List.length_append, List.length_take, List.length_drop, this, hcl]; omega
  refine ⟨_, rfl, by simpa [h2] using hsz, h3, h4, h5, ?_, h7, fun j x hx => ?_⟩
  · simp only [List.length_append, List.length_take, List.length_drop]; omega
  · rw [seg_get xs ys off j hl] at hx
    rw [List.getElem?_toArray, seg_get _ _ _ _ (by have : C.toList.length = C.size := Array.length_toList; omega), hcl]
    split at hx
    · rename_i hj
      rw [if_pos hj]
      have hkk : ks[j - off]? = some (ks.getD (j - off) .bool) := by
        rw [List.getD_eq_getElem?_getD, List.getElem?_eq_getElem (by omega)]; rfl
      have hkd := hkind (j - off) (by omega)
      rw [show off + (j - off) = j from by omega] at hkd
      rw [hkd]
      exact ⟨cellsV_get _ _ _ _ _ hx hkk, cellsOk_get _ _ _ _ _ hok hx hkk⟩
    · rename_i hj
      rw [if_neg hj, Array.getElem?_toList]
      exact h8 j x hx

theorem storeVar_run {w : World} {t : TypeId} {n : Nat} {i : TypeInfo} {v : Value} {g o : Nat} {C : Array Value} {ty : TypeId} (hi : P.info? t = some i) (hsz : i.size = n) (hv : v.cells.size = n)
    (hg : w.heap[g]? = some (.cells C ty (0, 0))) (ho : o + n ≤ C.size) (h1 : ∀ x ∈ v.cells.toList, x.oneCell' = true) :
    (storeVar t ⟨g, o, .none⟩ v).run P w = .ok () (w.setRow g (C.toList.take o ++ v.cells.toList ++ C.toList.drop (o + v.cells.toList.length)).toArray) := by
  unfold storeVar
  simp only [Sem.run_bind, run_so hi hsz, Result.andThen_ok, hv, ne_eq, not_true_eq_false, if_false]
  have := run_storeCells_at P g o ty v.cells.toList 0 C w hg (by rw [Array.length_toList, hv]; omega) h1
  simpa using this


theorem After.seg {ρ : Rho} {M : List Blk} {w : World} (hM : MRel ρ M w) {id : Nat} {C : Array Value} {b b' : Blk} {C' : Array Value} (hid : M[id]? = some b) (hlv : b.live = true) (hlv' : b'.live = true)
    (hg : w.heap[(ρ id).blk]? = some (.cells C (ρ id).ty (0, 0))) (hb : BRel ρ (ρ id) (some (.cells C' (ρ id).ty (0, 0))) b')
    (hcl : ∀ vs, b' = .r vs → ∀ x ∈ vs, ∀ i ∈ x.ids, i < M.length) : After ρ M (M.set id b') w (w.setRow (ρ id).blk C') ρ :=
  After.set hM hid hlv hb hlv' hcl (setRow_heap w _ C C' _ _ hg) (fun k hk => setRow_other w _ k C' hk) (setRow_size w _ _) rfl rfl rfl

theorem set_seg {α : Type} (xs : List α) (off : Nat) (x : α) (h : off < xs.length) : xs.set off x = xs.take off ++ [x] ++ xs.drop (off + 1) := by
  rw [List.set_eq_take_append_cons_drop, if_pos h]; simp

theorem store_sound (H : TabOk P Γ) {ρ : Rho} {M M' : List Blk} {w : World} (hM : MRel ρ M w) {t : TypeId} {id off : Nat} {σ : Sg} {r : AV} {v : Value}
    (ht : Γ.sg t = σ) (hn : σ ≠ .none) (hp : PtrOk (ρ id) off σ) (hd : Den ρ r v) (hids : ∀ i ∈ r.ids, i < M.length) (h : storeAV M id off σ r = some M') :
    ∃ w', (storeVar t ⟨(ρ id).blk, off, .none⟩ v).run P w = .ok () w' ∧ After ρ M M' w w' ρ := by
  unfold storeAV at h
  obtain ⟨hp1, hp2⟩ := hp
  obtain ⟨i, z, hi, hsz, -, -⟩ := H.parts ht hn
  split at h
  · rename_i τ xs hid
    have hB := hM.blk id _ hid
    have hB0 := hB
    obtain ⟨C, hb, hC, hσ, hpu, hn0, hlen, hroom, hx⟩ := hB0
    rw [hb] at hB
    have agg : ∀ ys, σ.pure = true → v = .agg (cellsV σ.flat ys).toArray → ys.length = σ.n → cellsOk σ.flat ys →
        ∃ w', (storeVar t ⟨(ρ id).blk, off, .none⟩ v).run P w = .ok () w' ∧ After ρ M (M.set id (.c τ (xs.take off ++ ys ++ xs.drop (off + σ.n)))) w w' ρ := by
      intro ys hpure hv hy hok
      subst hv
      have hfl := Sg.flat_len σ hpure
      rw [if_pos hpure] at hp2
      have hvl := cellsV_len σ.flat ys (by omega)
      have h1 := brel_seg hB (ks := σ.flat) (ys := ys) (off := off) (by omega) (by omega) (fun j hj => hp2.2 j (by omega)) hok
      have hr := storeVar_run (P := P) (w := w) (t := t) (n := σ.n) (v := .agg (cellsV σ.flat ys).toArray) (o := off) hi hsz (by simp [Value.cells, hvl, hy]) hb (by omega) (by simpa [Value.cells] using cellsV_one σ.flat ys)
      refine ⟨_, hr, ?_⟩
      rw [← hy]
      exact After.seg hM hid rfl rfl hb (by simpa [Value.cells] using h1) (fun vs e => by cases e)
    split at h
    · rename_i k hinf
      split at h
      · rename_i n hcell
        cases h
        obtain ⟨f1, f2, f3⟩ := Sg.cell_flat σ k hinf
        rw [if_pos f3, f2, f1] at hp2
        obtain ⟨rfl, hok⟩ := toCell_den hcell hd
        have h1 := brel_seg hB (ks := [k]) (ys := [n]) (off := off) rfl (by simp; omega) (fun j hj => by have := hp2.2 j (by simpa using hj); simpa using this) ⟨hok, trivial⟩
        have hr := storeVar_run (P := P) (w := w) (t := t) (n := σ.n) (v := k.val n) (o := off) hi hsz (by rw [f2]; cases k <;> rfl) hb (by omega) (by
          intro x hx; cases k <;> simp [CK.val, Value.cells] at hx <;> subst hx <;> rfl)
        refine ⟨_, hr, ?_⟩
        rw [set_seg xs off n (by omega)]
        refine After.seg hM hid rfl rfl hb ?_ (fun vs e => by cases e)
        have e : (k.val n).cells.toList = cellsV [k] [n] := by cases k <;> rfl
        rw [e]
        simpa using h1
      · cases h
    · rename_i n e hinf
      split at h
      · rename_i σ' ys
        split at h
        · rename_i es
          subst es
          cases h
          obtain ⟨hv, hy, hok, hpu'⟩ := hd
          exact agg ys hpu' hv hy hok
        · cases h
      · cases h
    · split at h
      · rename_i σ' ys
        split at h
        · rename_i es
          subst es
          cases h
          obtain ⟨hv, hy, hok, hpu'⟩ := hd
          exact agg ys hpu' hv hy hok
        · cases h
      · cases h
    · cases h
  · rename_i ss hid
    have hB := hM.blk id _ hid
    obtain ⟨C, hb, hC, hσ, hlen, hroom, hx⟩ := hB
    split at h
    · rename_i s
      cases h
      obtain ⟨rfl, hs⟩ := hd
      have hlt : off < ss.length := by simp [Sg.n] at hp1; omega
      have hr := storeVar_run (P := P) (w := w) (t := t) (n := 1) (v := .string s) (o := off) hi (by rw [hsz]; rfl) rfl hb (by omega) (by intro x hx; simp [Value.cells] at hx; subst hx; rfl)
      refine ⟨_, hr, After.seg hM hid rfl rfl hb ?_ (fun vs e => by cases e)⟩
      have hCl : C.toList.length = C.size := Array.length_toList
      refine ⟨_, rfl, ?_, hσ, by simp [hlen], hroom, fun j x hx' => ?_⟩
      · simp [Value.cells, hCl]; omega
      · rw [set_seg ss off s hlt] at hx'
        have e := seg_get ss [s] off j (by simp; omega)
        simp only [List.length_cons, List.length_nil, Nat.zero_add] at e
        rw [e] at hx'
        have e' := seg_get C.toList [Value.string s] off j (by simp; omega)
        simp only [List.length_cons, List.length_nil, Nat.zero_add] at e'
        simp only [Value.cells, List.getElem?_toArray, List.length_cons, List.length_nil, Nat.zero_add]
        rw [e']
        split at hx'
        · rename_i hj
          rw [if_pos hj]
          have : j - off = 0 := by omega
          rw [this] at hx' ⊢
          simp at hx'
          subst hx'
          exact ⟨rfl, hs⟩
        · rename_i hj
          rw [if_neg hj, Array.getElem?_toList]
          exact hx j x hx'
    · cases h
  · rename_i vs hid
    have hB := hM.blk id _ hid
    obtain ⟨C, hb, hC, hσ, hlen, hroom, hx⟩ := hB
    split at h
    · split at h
      · rename_i href
        cases h
        obtain ⟨o1, o2⟩ := isRef_one href hd
        have hlt : off < vs.length := by simp [Sg.n] at hp1; omega
        have ecell : v.cells.toList = [v] := by cases v <;> first | rfl | (cases o1)
        have hr := storeVar_run (P := P) (w := w) (t := t) (n := 1) (v := v) (o := off) hi (by rw [hsz]; rfl) o2 hb (by omega) (by rw [ecell]; intro x hx; simp at hx; subst hx; exact o1)
        refine ⟨_, hr, After.seg hM hid rfl rfl hb ?_ ?_⟩
        · have hCl : C.toList.length = C.size := Array.length_toList
          refine ⟨_, rfl, ?_, hσ, by simp [hlen], hroom, fun j x hx' => ?_⟩
          · simp [ecell, hCl]; omega
          · rw [set_seg vs off r hlt] at hx'
            have e := seg_get vs [r] off j (by simp; omega)
            simp only [List.length_cons, List.length_nil, Nat.zero_add] at e
            rw [e] at hx'
            have e' := seg_get C.toList [v] off j (by simp; omega)
            simp only [List.length_cons, List.length_nil, Nat.zero_add] at e'
            simp only [ecell, List.getElem?_toArray, List.length_cons, List.length_nil, Nat.zero_add]
            rw [e']
            split at hx'
            · rename_i hj
              rw [if_pos hj]
              have : j - off = 0 := by omega
              rw [this] at hx' ⊢
              simp at hx'
              subst hx'
              exact ⟨v, rfl, hd, o1⟩
            · rename_i hj
              rw [if_neg hj, Array.getElem?_toList]
              exact hx j x hx'
        · intro vs' e x hx' i hi'
          cases e
          rw [set_seg vs off r hlt] at hx'
          simp only [List.mem_append, List.mem_singleton] at hx'
          rcases hx' with (hx' | rfl) | hx'
          · exact hM.cl id vs hid x (List.mem_of_mem_take hx') i hi'
          · exact hids i hi'
          · exact hM.cl id vs hid x (List.mem_of_mem_drop hx') i hi'
      · cases h
    · cases h
  · cases h

def storeW (M : List Blk) (id : Nat) (σ : Sg) (r : AV) : Option (List Blk) :=
  match M[id]? with
  | some (.c τ _) => match σ.inf with
    | .cell k => match toCell k r with
      | some n => some (M.set id (.c τ [n]))
      | .none => .none
    | .arr _ _ => match r with
      | .ag σ' ys => if σ' = σ then some (M.set id (.c τ ys)) else .none
      | _ => .none
    | .st _ => match r with
      | .ag σ' ys => if σ' = σ then some (M.set id (.c τ ys)) else .none
      | _ => .none
    | _ => .none
  | some (.s _) => match σ, r with
    | .str, .s s => some (M.set id (.s [s]))
    | _, _ => .none
  | some (.r _) => match σ with
    | .ref => if isRef r = true then some (M.set id (.r [r])) else .none
    | _ => .none
  | _ => .none

theorem set_one {α : Type} {xs : List α} {x : α} (h : xs.length = 1) : xs.set 0 x = [x] := by
  cases xs with
  | nil => simp at h
  | cons a l => cases l with
    | nil => rfl
    | cons b l => simp at h

theorem storeW_eq {ρ : Rho} {M M' : List Blk} {w : World} (hM : MRel ρ M w) {id : Nat} {σ : Sg} {r : AV} (hs : (ρ id).size = σ.n) (h : storeW M id σ r = some M') : storeAV M id 0 σ r = some M' := by
  unfold storeW at h
  unfold storeAV
  split at h
  · rename_i τ xs hid
    obtain ⟨C, hb, hC, hσ, hpu, hn0, hlen, hroom, hx⟩ := hM.blk id _ hid
    have hl : xs.length = σ.n := by omega
    have e : ∀ ys : List Int, putSeg xs 0 σ.n ys = ys := by intro ys; unfold putSeg; rw [Nat.zero_add, ← hl]; simp
    split at h
    · rename_i k hinf
      have h1 : σ.n = 1 := (Sg.cell_flat σ k hinf).2.1
      split at h
      · rename_i n hc
        rw [set_one (by omega)]
        exact h
      · cases h
    · rename_i n e' hinf
      split at h
      · simp only [e]; exact h
      · cases h
    · rename_i fs hinf
      split at h
      · simp only [e]; exact h
      · cases h
    · cases h
  · rename_i ss hid
    obtain ⟨C, hb, hC, hσ, hlen, hroom, hx⟩ := hM.blk id _ hid
    split at h
    · rw [set_one (by simp [Sg.n] at hs; omega)]; exact h
    · cases h
  · rename_i vs hid
    obtain ⟨C, hb, hC, hσ, hlen, hroom, hx⟩ := hM.blk id _ hid
    split at h
    · rw [set_one (by simp [Sg.n] at hs; omega)]; exact h
    · cases h
  · cases h

end Go.Eng
