/- The engine, part 12: a region whose order is open. No conditions. -/
import Derived.Test.YtfelemoefhbphaaEng11
namespace Go.Eng
open Go Go.RowKit
variable {P : Program} {Γ : Tab}

/-- What stands ahead of each operation, as bits. -/
def msk (o : Oper) (acc : List Nat) : Nat := o.after.toList.foldl (fun s e => if Region.binds .any e = true then s ||| 2 ^ e.on ||| acc.getD e.on 0 else s) 0
def bef : List Oper → List Nat → List Nat
  | [], acc => acc
  | o :: rest, acc => bef rest (acc ++ [msk o acc])

theorem foldl_bits (acc : List Nat) (j : Nat) : ∀ (l : List Edge) (s : Nat), Nat.testBit (l.foldl (fun s e => if Region.binds .any e = true then s ||| 2 ^ e.on ||| acc.getD e.on 0 else s) s) j = true →
    Nat.testBit s j = true ∨ ∃ e ∈ l, Region.binds .any e = true ∧ (e.on = j ∨ Nat.testBit (acc.getD e.on 0) j = true) := by
  intro l
  induction l with
  | nil => intro s h; exact .inl h
  | cons e l ih =>
    intro s h
    simp only [List.foldl_cons] at h
    rcases ih _ h with h | ⟨e', he', h'⟩
    · split at h
      · rename_i hb
        rw [Nat.testBit_or, Nat.testBit_or, Bool.or_eq_true, Bool.or_eq_true] at h
        rcases h with (h | h) | h
        · exact .inl h
        · rw [Nat.testBit_two_pow] at h
          exact .inr ⟨e, List.mem_cons_self, hb, .inl (by simpa using h)⟩
        · exact .inr ⟨e, List.mem_cons_self, hb, .inr h⟩
      · exact .inl h
    · exact .inr ⟨e', List.mem_cons_of_mem _ he', h'⟩

theorem bef_pre : ∀ (l : List Oper) (acc : List Nat), ∃ r, bef l acc = acc ++ r
  | [], acc => ⟨[], by simp [bef]⟩
  | o :: rest, acc => by
    obtain ⟨r, hr⟩ := bef_pre rest (acc ++ [msk o acc])
    exact ⟨[msk o acc] ++ r, by simp only [bef, hr, List.append_assoc]⟩

theorem bef_get : ∀ (l : List Oper) (acc : List Nat) (i : Nat) (o : Oper), l[i]? = some o → ∃ acc', (bef l acc).getD (acc.length + i) 0 = msk o acc' ∧ ∀ k, acc'.getD k 0 = 0 ∨ acc'.getD k 0 = (bef l acc).getD k 0
  | [], _, _, _, h => by simp at h
  | o' :: rest, acc, 0, o, h => by
    simp only [List.getElem?_cons_zero, Option.some.injEq] at h
    subst h
    obtain ⟨r, hr⟩ := bef_pre rest (acc ++ [msk o' acc])
    refine ⟨acc, ?_, fun k => ?_⟩
    · simp only [bef, hr, List.append_assoc]
      rw [List.getD_eq_getElem?_getD, List.getElem?_append_right (by omega)]
      simp
    · by_cases hk : k < acc.length
      · right
        simp only [bef, hr, List.append_assoc]
        rw [List.getD_eq_getElem?_getD, List.getD_eq_getElem?_getD, List.getElem?_append_left hk]
      · left
        rw [List.getD_eq_getElem?_getD, List.getElem?_eq_none (by omega)]; rfl
  | o' :: rest, acc, i + 1, o, h => by
    obtain ⟨acc', h1, h2⟩ := bef_get rest (acc ++ [msk o' acc]) i o (by simpa using h)
    refine ⟨acc', ?_, h2⟩
    rw [← h1]
    simp only [bef, List.length_append, List.length_cons, List.length_nil]
    congr 1
    omega

theorem bef_sound {ops : Array Oper} {i j : Nat} {o : Oper} (ho : ops[i]? = some o) (h : Nat.testBit ((bef ops.toList []).getD i 0) j = true) :
    ∃ e ∈ o.after.toList, Region.binds .any e = true ∧ (e.on = j ∨ Nat.testBit ((bef ops.toList []).getD e.on 0) j = true) := by
  obtain ⟨acc', h1, h2⟩ := bef_get ops.toList [] i o (by rw [Array.getElem?_toList]; exact ho)
  simp only [List.length_nil, Nat.zero_add] at h1
  rw [h1] at h
  unfold msk at h
  rcases foldl_bits acc' j o.after.toList 0 h with h | ⟨e, he, hb, h⟩
  · simp at h
  · refine ⟨e, he, hb, h.imp id fun h => ?_⟩
    rcases h2 e.on with h3 | h3
    · rw [h3] at h; simp at h
    · rw [← h3]; exact h

/-- Memory, the blocks of what has not come up yet struck. -/
def maskF (n0 : Nat) (births : List Nat) (p : Nat → Bool) : List Blk → Nat → List Blk
  | [], _ => []
  | b :: M, id => (if id < n0 then b else if p (births.getD (id - n0) 1000000) = true then b else .dead) :: maskF n0 births p M (id + 1)

theorem maskF_len (n0 : Nat) (births : List Nat) (p : Nat → Bool) : ∀ (M : List Blk) (k : Nat), (maskF n0 births p M k).length = M.length
  | [], _ => rfl
  | b :: M, k => by simp only [maskF, List.length_cons, maskF_len n0 births p M (k + 1)]

theorem maskF_get (n0 : Nat) (births : List Nat) (p : Nat → Bool) : ∀ (M : List Blk) (k id : Nat), (maskF n0 births p M k)[id]? = (M[id]?).map fun b => if k + id < n0 then b else if p (births.getD (k + id - n0) 1000000) = true then b else .dead
  | [], k, id => by simp [maskF]
  | b :: M, k, 0 => by simp [maskF]
  | b :: M, k, id + 1 => by
    simp only [maskF, List.getElem?_cons_succ, maskF_get n0 births p M (k + 1) id]
    rw [show k + 1 + id = k + (id + 1) from by omega]

/-- A step that makes blocks alone. -/
def evQ (Γ : Tab) (wr : Bool) (tb : FuncId → Option Fun) (M : List Blk) (E : Operand → AV) (op : Op) : Option (AV × List Blk × List Prop) :=
  match op with
  | .box t x => fSg (Γ.sg t) fun σ => if σ = .none then .none else (match boxBlk σ (E x) with
    | some b => some (.pw M.length σ, [b], [])
    | .none => .none)
  | .alloc t => fSg (Γ.sg t) fun σ => if σ = .none then .none else some (.pw M.length σ, [zeroBlk σ], [])
  | .store _ _ _ => .none
  | .call c => match evCallee E c with
    | some (n, args) => match tb n with
      | some S => fL args fun args => match callAV S M args with
        | some (r, M', vs) => some (r, M'.drop M.length, (M' = M ++ M'.drop M.length) :: vs)
        | .none => .none
      | .none => .none
    | .none => match evS Γ wr M E (.call c) with
      | some (r, v) => some (r, [], v)
      | .none => .none
  | .buildSlice t len ps => match newSl Γ M E t len ps with
    | some (r, b) => some (r, [b], [])
    | .none => .none
  | .makeSlice t len cap => match mkAV Γ M t (E len) (E cap) with
    | some (r, b, v) => some (r, [b], v)
    | .none => .none
  | op => match evS Γ wr M E op with
    | some (r, v) => some (r, [], v)
    | .none => .none

theorem evQ_evO {wr : Bool} {tb : FuncId → Option Fun} {M news : List Blk} {E : Operand → AV} {op : Op} {r : AV} {vs : List Prop} (h : evQ Γ wr tb M E op = some (r, news, vs)) (hv : allP vs) :
    ∃ vs', evO Γ wr tb M E op = some (r, M ++ news, vs') ∧ allP vs' := by
  cases op
  case box t x =>
    simp only [evQ, evO, fSg_eq] at h ⊢
    split at h
    · cases h
    · rename_i hn
      rw [if_neg hn]
      split at h
      · rename_i b hb
        cases h
        rw [hb]
        exact ⟨_, rfl, trivial⟩
      · cases h
  case alloc t =>
    simp only [evQ, evO, fSg_eq] at h ⊢
    split at h
    · cases h
    · rename_i hn
      rw [if_neg hn]
      cases h
      exact ⟨_, rfl, trivial⟩
  case store t x y => cases h
  case call c =>
    simp only [evQ, evO] at h ⊢
    split at h
    · rename_i n args hc
      rw [hc]
      dsimp only
      split at h
      · rename_i S hS
        rw [hS]
        dsimp only
        rw [fL_eq] at h ⊢
        split at h
        · rename_i r' M' vs' hcall
          cases h
          rw [hcall]
          dsimp only
          have e : M' = M ++ M'.drop M.length := hv.1
          exact ⟨vs', by rw [← e], hv.2⟩
        · cases h
      · cases h
    · rename_i hc
      rw [hc]
      dsimp only
      split at h
      · rename_i hs
        cases h
        exact ⟨vs, by rw [hs]; simp, hv⟩
      · cases h
  case buildSlice t len ps =>
    simp only [evQ, evO] at h ⊢
    split at h
    · rename_i hs
      cases h
      exact ⟨[], by rw [hs], trivial⟩
    · cases h
  case makeSlice t len cap =>
    simp only [evQ, evO] at h ⊢
    split at h
    · rename_i hs
      cases h
      exact ⟨vs, by rw [hs], hv⟩
    · cases h
  all_goals
    simp only [evQ, evO] at h ⊢
    split at h
    · rename_i hs
      cases h
      exact ⟨vs, by rw [hs]; simp, hv⟩
    · cases h

end Go.Eng
