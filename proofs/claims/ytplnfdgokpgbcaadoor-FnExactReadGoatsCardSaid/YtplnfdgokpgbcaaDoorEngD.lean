/- The engine, texts 12 13 14. No conditions. -/
import Derived.Test.YtplnfdgokpgbcaaDoorEngC
/- The engine, part 12: a region whose order is open. No conditions. -/
namespace Go.Eng
open Go Go.RowKit
set_option linter.unusedSectionVars false
variable [Glob]
variable {P : Program} {Γ : Tab}

/-- What stands ahead of each operation, as bits. -/
def msk (o : Oper) (acc : List Nat) : Nat := o.after.toList.foldl (fun s e => if Region.binds .any e = true then s ||| 2 ^ e.on ||| acc.getD e.on 0 else s) 0
def bef : List Oper → List Nat → List Nat
  | [], acc => acc
  | o :: rest, acc => bef rest (acc ++ [msk o acc])

theorem foldl_bits (acc : List Nat) (j : Nat) : ∀ (l : List Edge) (s : Nat), Nat.testBit (l.foldl (fun s e => if Region.binds .any e = true then s ||| 2 ^ e.on ||| acc.getD e.on 0 else s) s) j = true →
    Nat.testBit s j = true ∨ ∃ e ∈ l, Region.binds .any e = true ∧ (e.on = j ∨ Nat.testBit (acc.getD e.on 0) j = true) := by
  intro l
  induction l with
  | nil => intro s h; exact .inl h
  | cons e l ih =>
    intro s h
    simp only [List.foldl_cons] at h
    rcases ih _ h with h | ⟨e', he', h'⟩
    · split at h
      · rename_i hb
        rw [Nat.testBit_or, Nat.testBit_or, Bool.or_eq_true, Bool.or_eq_true] at h
        rcases h with (h | h) | h
        · exact .inl h
        · rw [Nat.testBit_two_pow] at h
          exact .inr ⟨e, List.mem_cons_self, hb, .inl (by simpa using h)⟩
        · exact .inr ⟨e, List.mem_cons_self, hb, .inr h⟩
      · exact .inl h
    · exact .inr ⟨e', List.mem_cons_of_mem _ he', h'⟩

theorem bef_pre : ∀ (l : List Oper) (acc : List Nat), ∃ r, bef l acc = acc ++ r
  | [], acc => ⟨[], by simp [bef]⟩
  | o :: rest, acc => by
    obtain ⟨r, hr⟩ := bef_pre rest (acc ++ [msk o acc])
    exact ⟨[msk o acc] ++ r, by simp only [bef, hr, List.append_assoc]⟩

theorem bef_get : ∀ (l : List Oper) (acc : List Nat) (i : Nat) (o : Oper), l[i]? = some o → ∃ acc', (bef l acc).getD (acc.length + i) 0 = msk o acc' ∧ ∀ k, acc'.getD k 0 = 0 ∨ acc'.getD k 0 = (bef l acc).getD k 0
  | [], _, _, _, h => by simp at h
  | o' :: rest, acc, 0, o, h => by
    simp only [List.getElem?_cons_zero, Option.some.injEq] at h
    subst h
    obtain ⟨r, hr⟩ := bef_pre rest (acc ++ [msk o' acc])
    refine ⟨acc, ?_, fun k => ?_⟩
    · simp only [bef, hr, List.append_assoc]
      rw [List.getD_eq_getElem?_getD, List.getElem?_append_right (by omega)]
      simp
    · by_cases hk : k < acc.length
      · right
        simp only [bef, hr, List.append_assoc]
        rw [List.getD_eq_getElem?_getD, List.getD_eq_getElem?_getD, List.getElem?_append_left hk]
      · left
        rw [List.getD_eq_getElem?_getD, List.getElem?_eq_none (by omega)]; rfl
  | o' :: rest, acc, i + 1, o, h => by
    obtain ⟨acc', h1, h2⟩ := bef_get rest (acc ++ [msk o' acc]) i o (by simpa using h)
    refine ⟨acc', ?_, h2⟩
    rw [← h1]
    simp only [bef, List.length_append, List.length_cons, List.length_nil]
    congr 1
    omega

theorem bef_sound {ops : Array Oper} {i j : Nat} {o : Oper} (ho : ops[i]? = some o) (h : Nat.testBit ((bef ops.toList []).getD i 0) j = true) :
    ∃ e ∈ o.after.toList, Region.binds .any e = true ∧ (e.on = j ∨ Nat.testBit ((bef ops.toList []).getD e.on 0) j = true) := by
  obtain ⟨acc', h1, h2⟩ := bef_get ops.toList [] i o (by rw [Array.getElem?_toList]; exact ho)
  simp only [List.length_nil, Nat.zero_add] at h1
  rw [h1] at h
  unfold msk at h
  rcases foldl_bits acc' j o.after.toList 0 h with h | ⟨e, he, hb, h⟩
  · simp at h
  · refine ⟨e, he, hb, h.imp id fun h => ?_⟩
    rcases h2 e.on with h3 | h3
    · rw [h3] at h; simp at h
    · rw [← h3]; exact h

/-- Memory, the blocks of what has not come up yet struck. -/
def maskF (n0 : Nat) (births : List Nat) (p : Nat → Bool) : List Blk → Nat → List Blk
  | [], _ => []
  | b :: M, id => (if id < n0 then b else if p (births.getD (id - n0) 1000000) = true then b else .dead) :: maskF n0 births p M (id + 1)

theorem maskF_len (n0 : Nat) (births : List Nat) (p : Nat → Bool) : ∀ (M : List Blk) (k : Nat), (maskF n0 births p M k).length = M.length
  | [], _ => rfl
  | b :: M, k => by simp only [maskF, List.length_cons, maskF_len n0 births p M (k + 1)]

theorem maskF_get (n0 : Nat) (births : List Nat) (p : Nat → Bool) : ∀ (M : List Blk) (k id : Nat), (maskF n0 births p M k)[id]? = (M[id]?).map fun b => if k + id < n0 then b else if p (births.getD (k + id - n0) 1000000) = true then b else .dead
  | [], k, id => by simp [maskF]
  | b :: M, k, 0 => by simp [maskF]
  | b :: M, k, id + 1 => by
    simp only [maskF, List.getElem?_cons_succ, maskF_get n0 births p M (k + 1) id]
    rw [show k + 1 + id = k + (id + 1) from by omega]

/-- A step that makes blocks alone. -/
def evQ (Γ : Tab) (wr : Bool) (tb : FuncId → Option Fun) (M : List Blk) (E : Operand → AV) (op : Op) : Option (AV × List Blk × List Prop) :=
  match op with
  | .box t x => fSg (Γ.sg t) fun σ => if σ = .none then .none else (match boxBlk σ (E x) with
    | some b => some (.pw M.length σ, [b], [])
    | .none => .none)
  | .alloc t => fSg (Γ.sg t) fun σ => if σ = .none then (match Γ.rc t with
      | some zs => some (.rp M.length 0 zs.length t, [.r zs], [])
      | .none => .none) else some (.pw M.length σ, [zeroBlk σ], [])
  | .store _ _ _ => .none
  | .makeMap _ _ => .none
  | .mapUpdate _ _ _ _ => .none
  | .lookup t m q ok => match ok, Γ.mp t, E m, E q with
    | false, some (kt, e), .mp id, .ag τ q => (match M[id]?, (Γ.sg e).inf with
      | some (.m σ k es), .cell k' => if k = k' ∧ τ = σ ∧ Γ.sg kt = σ then some (cellAV k (lkM es q), [], []) else .none
      | _, _ => .none)
    | _, _, _, _ => .none
  | .call c => match evCallee E c with
    | some (n, args) => match tb n with
      | some S => fL args fun args => match callAV S M args with
        | some (r, M', vs) => some (r, M'.drop M.length, (M' = M ++ M'.drop M.length) :: vs)
        | .none => .none
      | .none => .none
    | .none => match evS Γ wr M E (.call c) with
      | some (r, v) => some (r, [], v)
      | .none => .none
  | .buildSlice t len ps => match newSl Γ M E t len ps with
    | some (r, b) => some (r, [b], [])
    | .none => .none
  | .makeSlice t len cap => match mkAV Γ M t (E len) (E cap) with
    | some (r, b, v) => some (r, [b], v)
    | .none => .none
  | op => match evS Γ wr M E op with
    | some (r, v) => some (r, [], v)
    | .none => .none

theorem evQ_evO {wr : Bool} {tb : FuncId → Option Fun} {M news : List Blk} {E : Operand → AV} {op : Op} {r : AV} {vs : List Prop} (h : evQ Γ wr tb M E op = some (r, news, vs)) (hv : allP vs) :
    ∃ vs', evO Γ wr tb M E op = some (r, M ++ news, vs') ∧ allP vs' := by
  cases op
  case box t x =>
    simp only [evQ, evO, fSg_eq] at h ⊢
    split at h
    · cases h
    · rename_i hn
      rw [if_neg hn]
      split at h
      · rename_i b hb
        cases h
        rw [hb]
        exact ⟨_, rfl, trivial⟩
      · cases h
  case alloc t =>
    simp only [evQ, evO, fSg_eq] at h ⊢
    split at h
    · rename_i hn
      rw [if_pos hn]
      split at h
      · rename_i zs hz
        cases h
        rw [hz]
        exact ⟨_, rfl, trivial⟩
      · cases h
    · rename_i hn
      rw [if_neg hn]
      cases h
      exact ⟨_, rfl, trivial⟩
  case store t x y => cases h
  case makeMap t r' => cases h
  case mapUpdate t m q x => cases h
  case lookup t m q ok =>
    simp only [evQ, evO] at h ⊢
    split at h
    · split at h
      · split at h
        · rename_i hkk
          cases h
          rename_i hM he _ _
          refine ⟨[], ?_, trivial⟩
          simp only [*]
          simp
        · cases h
      · cases h
    · cases h
  case call c =>
    simp only [evQ, evO] at h ⊢
    split at h
    · rename_i n args hc
      rw [hc]
      dsimp only
      split at h
      · rename_i S hS
        rw [hS]
        dsimp only
        rw [fL_eq] at h ⊢
        split at h
        · rename_i r' M' vs' hcall
          cases h
          rw [hcall]
          dsimp only
          have e : M' = M ++ M'.drop M.length := hv.1
          exact ⟨vs', by rw [← e], hv.2⟩
        · cases h
      · cases h
    · rename_i hc
      rw [hc]
      dsimp only
      split at h
      · rename_i hs
        cases h
        exact ⟨vs, by rw [hs]; simp, hv⟩
      · cases h
  case buildSlice t len ps =>
    simp only [evQ, evO] at h ⊢
    split at h
    · rename_i hs
      cases h
      exact ⟨[], by rw [hs], trivial⟩
    · cases h
  case makeSlice t len cap =>
    simp only [evQ, evO] at h ⊢
    split at h
    · rename_i hs
      cases h
      exact ⟨vs, by rw [hs], hv⟩
    · cases h
  all_goals
    simp only [evQ, evO] at h ⊢
    split at h
    · rename_i hs
      cases h
      exact ⟨vs, by rw [hs]; simp, hv⟩
    · cases h

end Go.Eng

/- The engine, part 13: the text's order of a region whose order is open, told for every order. No conditions. -/
namespace Go.Eng
open Go Go.RowKit
set_option linter.unusedSectionVars false
variable [Glob]
variable {P : Program} {Γ : Tab}

def wrt : List Oper → Nat → Tmp → Option Nat
  | [], _, _ => .none
  | o :: l, k, t => match o.dst with
    | some d => if d = t then some k else wrt l (k + 1) t
    | .none => wrt l (k + 1) t

def dget : List (Nat × Bool) → Nat → Option Bool
  | [], _ => .none
  | (i, b) :: l, j => if i = j then some b else dget l j

def big : Nat := 1000000

def lookD (all : List Oper) (bs : List Nat) (fr0 : List AV) (rs : List AV) (δ : List (Nat × Bool)) (i : Nat) (t : Tmp) : AV :=
  match wrt all 0 t with
  | .none => fr0.getD t .any
  | some j => if Nat.testBit (bs.getD i 0) j = true then (match dget δ j with
      | some b => .d b
      | .none => rs.getD j .any)
    else if Nat.testBit (bs.getD j 0) i = true then fr0.getD t .any else .any

def clip (n : Nat) (x : AV) : AV := if (x.ids.all fun i => decide (i < n)) = true then x else .any

def evE (all : List Oper) (bs : List Nat) (fr0 : List AV) (rs : List AV) (δ : List (Nat × Bool)) (i n : Nat) : Operand → AV
  | .tmp t => clip n (lookD all bs fr0 rs δ i t)
  | x => evA [] x

def decD (rs : List AV) (δ : List (Nat × Bool)) (j : Nat) (π : List Bool) : Option (Bool × List (Nat × Bool) × List Bool × List Prop) :=
  match dget δ j with
  | some b => some (b, δ, π, [])
  | .none => match rs.getD j .any with
    | .d b => some (b, δ, π, [])
    | .b p => match π with
      | true :: π => some (true, (j, true) :: δ, π, [p = true])
      | false :: π => some (false, (j, false) :: δ, π, [p = false])
      | [] => .none
    | _ => .none

/-- Is it wanted? What was passed by yields nothing. -/
def guardD (rs : List AV) (δ : List (Nat × Bool)) (j : Nat) (want : Bool) (π : List Bool) : Option (Bool × List (Nat × Bool) × List Bool × List Prop) :=
  match rs.getD j .any with
  | .un => some (false, δ, π, [])
  | _ => match decD rs δ j π with
    | some (b, δ, π, v) => some (b == want, δ, π, v)
    | .none => .none

def fBig {α : Type} (n : Nat) (K : Nat → α) : α :=
  match n with
  | 0 => K 0
  | n + 1 => K (n + 1)
theorem fBig_eq {α : Type} (n : Nat) (K : Nat → α) : fBig n K = K n := by cases n <;> rfl
def tbit (n j : Nat) : Bool := fBig j fun j => Nat.testBit n j
theorem tbit_eq (n j : Nat) : tbit n j = Nat.testBit n j := fBig_eq ..

def idOk (n0 : Nat) (births : List Nat) (bk k : Nat) (id : Nat) : Bool := decide (id < n0) || (decide (id - n0 < births.length) && fBig (births.getD (id - n0) big) fun b => (Nat.testBit bk b || b == k))

/-- A list is written out. -/
def fS {α β : Type} : List α → (List α → β) → β
  | [], K => K []
  | x :: l, K => fS l fun l => K (x :: l)
theorem fS_eq {α β : Type} (l : List α) (K : List α → β) : fS l K = K l := by
  induction l generalizing K with
  | nil => rfl
  | cons x l ih => simp only [fS, ih]

def evD (Γ : Tab) (wr : Bool) (tb : FuncId → Option Fun) (all : List Oper) (bs : List Nat) (fr0 : List AV) (n0 : Nat) :
    List Oper → Nat → List AV → List Blk → List Nat → List (Nat × Bool) → List Bool → Option (List AV × List Blk × List Nat × List (Nat × Bool) × List Bool × List Prop)
  | [], _, rs, M, births, δ, π => some (rs, M, births, δ, π, [])
  | o :: rest, k, rs, M, births, δ, π =>
    match (match o.guard with
      | .none => some (true, δ, π, [])
      | some (j, want) => if Nat.testBit (bs.getD k 0) j = true ∧ ((all[j]?).bind (·.dst)).isSome = true then guardD rs δ j want π else .none) with
    | some (true, δ, π, v1) =>
      match (match o.op with
        | .pick (.tmp t) _ _ => (match wrt all 0 t with
          | some j => (match decD rs δ j π with
            | some (_, δ, π, v) => some (δ, π, v)
            | .none => .none)
          | .none => some (δ, π, []))
        | _ => some (δ, π, [])) with
      | some (δ, π, v2) =>
        fM (maskF n0 births (fun j => tbit (bs.getD k 0) j) M 0) fun Mk =>
        match evQ Γ wr tb Mk (evE all bs fr0 rs δ k M.length) o.op with
        | some (r, news, v3) => fAV r fun r => fM news fun news => fP (v1 ++ v2 ++ v3) fun v =>
          if ((r.ids.all (idOk n0 (births ++ news.map fun _ => k) (bs.getD k 0) k)) && news.all fun b => match b with
            | .r vs => vs.all fun x => x.ids.all (idOk n0 (births ++ news.map fun _ => k) (bs.getD k 0) k)
            | _ => true) = true then
            fS (rs ++ [r]) fun rs1 => fS (M ++ news) fun M1 => fS (births ++ news.map fun _ => k) fun b1 => (match evD Γ wr tb all bs fr0 n0 rest (k + 1) rs1 M1 b1 δ π with
            | some (rs, M, births, δ, π, v') => some (rs, M, births, δ, π, v ++ v')
            | .none => .none)
          else .none
        | .none => .none
      | .none => .none
    | some (false, δ, π, v1) => fS (rs ++ [AV.un]) fun rs1 => (match evD Γ wr tb all bs fr0 n0 rest (k + 1) rs1 M births δ π with
      | some (rs, M, births, δ, π, v') => some (rs, M, births, δ, π, v1 ++ v')
      | .none => .none)
    | .none => .none

/-- What is known of a test: whatever stands there is b. -/
def DecAt (rs : List AV) (j : Nat) (b : Bool) : Prop := ∀ (ρ : Rho) (v : Value), Den ρ (rs.getD j .any) v → v = .bool b

structure OpFact (Γ : Tab) (wr : Bool) (tb : FuncId → Option Fun) (all : List Oper) (bs : List Nat) (fr0 : List AV) (n0 : Nat) (rsn : List AV) (Mn : List Blk) (bn : List Nat) (i : Nat) (o : Oper) : Prop where
  wanted : ∃ want : Bool, (match o.guard with
      | .none => want = true
      | some (j, s) => (Nat.testBit (bs.getD i 0) j = true ∧ ((all[j]?).bind (·.dst)).isSome = true) ∧ ((∃ b, DecAt rsn j b ∧ want = (b == s)) ∨ (want = false ∧ rsn.getD j .any = .un))) ∧
    (want = false → rsn.getD i .any = .un ∧ ∀ m, bn.getD m big ≠ i) ∧
    (want = true → ∃ (base : Nat) (news Mk : List Blk) (E : Operand → AV) (vs : List Prop), n0 ≤ base ∧ base + news.length ≤ Mn.length ∧ Mk.length = base ∧
      (∀ id, id < base → Mk[id]? = (Mn[id]?).map fun b => if id < n0 then b else if Nat.testBit (bs.getD i 0) (bn.getD (id - n0) big) = true then b else .dead) ∧
      (∀ m, m < news.length → Mn[base + m]? = news[m]?) ∧
      (∀ m, bn.getD m big = i ↔ base ≤ n0 + m ∧ n0 + m < base + news.length) ∧
      evQ Γ wr tb Mk E o.op = some (rsn.getD i .any, news, vs) ∧ allP vs ∧
      (∀ x, ∀ id ∈ (E x).ids, id < base) ∧
      (∀ x, (∀ t, x ≠ .tmp t) → E x = evA [] x) ∧
      (∀ t, E (.tmp t) = .any ∨ (E (.tmp t) = fr0.getD t .any ∧ (wrt all 0 t = .none ∨ ∃ j, wrt all 0 t = some j ∧ Nat.testBit (bs.getD j 0) i = true)) ∨
        (∃ j, wrt all 0 t = some j ∧ Nat.testBit (bs.getD i 0) j = true ∧ (E (.tmp t) = rsn.getD j .any ∨ ∃ b, DecAt rsn j b ∧ E (.tmp t) = .d b))) ∧
      (∀ id ∈ (rsn.getD i .any).ids, idOk n0 bn (bs.getD i 0) i id = true ∧ id < base + news.length) ∧
      (∀ m vs, m < news.length → Mn[base + m]? = some (.r vs) → ∀ x ∈ vs, ∀ id ∈ x.ids, idOk n0 bn (bs.getD i 0) i id = true ∧ id < base + news.length) ∧
      (∀ id vs, id < base → n0 ≤ id → Mn[id]? = some (.r vs) → ∀ x ∈ vs, ∀ i ∈ x.ids, i < base))

theorem getD_app {α : Type} {l r : List α} {i : Nat} {d : α} (h : i < l.length) : (l ++ r).getD i d = l.getD i d := by
  rw [List.getD_eq_getElem?_getD, List.getD_eq_getElem?_getD, List.getElem?_append_left h]
theorem getD_end {α : Type} {l r : List α} {x d : α} : (l ++ [x] ++ r).getD l.length d = x := by
  rw [List.getD_eq_getElem?_getD, List.append_assoc, List.getElem?_append_right (Nat.le_refl _)]; simp
theorem getD_out {α : Type} {l : List α} {i : Nat} {d : α} (h : l.length ≤ i) : l.getD i d = d := by
  rw [List.getD_eq_getElem?_getD, List.getElem?_eq_none h]; rfl

def DecOK (rs : List AV) (δ : List (Nat × Bool)) : Prop := ∀ j b, dget δ j = some b → j < rs.length ∧ DecAt rs j b

theorem DecAt.app {rs r : List AV} {j : Nat} {b : Bool} (hj : j < rs.length) (h : DecAt rs j b) : DecAt (rs ++ r) j b := by
  intro ρ v hv
  rw [getD_app hj] at hv
  exact h ρ v hv

theorem decD_sound {rs : List AV} {δ δ' : List (Nat × Bool)} {j : Nat} {π π' : List Bool} {b : Bool} {v : List Prop} (hδ : DecOK rs δ) (h : decD rs δ j π = some (b, δ', π', v)) (hv : allP v) :
    DecOK rs δ' ∧ j < rs.length ∧ DecAt rs j b := by
  have hlt : ∀ q, rs.getD j .any = q → q ≠ .any → j < rs.length := by
    intro q hq hne
    rcases Nat.lt_or_ge j rs.length with h | h
    · exact h
    · rw [getD_out h] at hq; exact absurd hq.symm hne
  have ext : ∀ p, rs.getD j .any = .b p → p = b → DecOK rs ((j, b) :: δ) ∧ j < rs.length ∧ DecAt rs j b := by
    intro p hp hb
    have h1 := hlt _ hp (by simp)
    have h2 : DecAt rs j b := fun ρ v hd => by rw [hp] at hd; simp only [Den] at hd; rw [hd, hb]
    refine ⟨fun k c hk => ?_, h1, h2⟩
    simp only [dget] at hk
    split at hk
    · rename_i e; subst e; cases hk; exact ⟨h1, h2⟩
    · exact hδ k c hk
  unfold decD at h
  split at h
  · rename_i b' hb; cases h; exact ⟨hδ, (hδ j _ hb).1, (hδ j _ hb).2⟩
  · split at h
    · rename_i e; cases h; exact ⟨hδ, hlt _ e (by simp), fun ρ v hd => by rw [e] at hd; exact hd⟩
    · rename_i p e
      split at h
      · cases h; exact ext p e hv.1
      · cases h; exact ext p e hv.1
      · cases h
    · cases h

theorem clip_ids (n : Nat) (x : AV) : ∀ id ∈ (clip n x).ids, id < n := by
  unfold clip
  split
  · rename_i h
    intro id hid
    have := List.all_eq_true.1 h id hid
    simpa using this
  · simp [AV.ids]

theorem evD_facts {wr : Bool} {tb : FuncId → Option Fun} {all : List Oper} {bs : List Nat} {fr0 : List AV} {n0 : Nat} :
    ∀ (l : List Oper) (k : Nat) (rs : List AV) (M : List Blk) (births : List Nat) (δ : List (Nat × Bool)) (π : List Bool) (rsn : List AV) (Mn : List Blk) (bn : List Nat) (δn : List (Nat × Bool)) (πn : List Bool) (vs : List Prop),
      evD Γ wr tb all bs fr0 n0 l k rs M births δ π = some (rsn, Mn, bn, δn, πn, vs) → allP vs → rs.length = k → n0 ≤ M.length → births.length = M.length - n0 → DecOK rs δ →
      (∀ m, m < births.length → births.getD m big < k) → k + l.length ≤ big →
      (∀ id vs, n0 ≤ id → M[id]? = some (.r vs) → ∀ x ∈ vs, ∀ i ∈ x.ids, i < M.length) →
      (∃ r1, rsn = rs ++ r1 ∧ r1.length = l.length) ∧ (∃ r2, Mn = M ++ r2) ∧ (∃ r3, bn = births ++ r3 ∧ ∀ m, m < r3.length → k ≤ r3.getD m big ∧ r3.getD m big < k + l.length) ∧ bn.length = Mn.length - n0 ∧ DecOK rsn δn ∧
      ∀ m o, l[m]? = some o → OpFact Γ wr tb all bs fr0 n0 rsn Mn bn (k + m) o := by
  intro l
  induction l with
  | nil =>
    intro k rs M births δ π rsn Mn bn δn πn vs h hv hk hn hb hδ hbk _ hcl
    cases h
    exact ⟨⟨[], by simp⟩, ⟨[], by simp⟩, ⟨[], by simp⟩, hb, hδ, by simp⟩
  | cons o rest ih =>
    intro k rs M births δ π rsn Mn bn δn πn vs h hv hk hn hb hδ hbk hbig hcl
    simp only [evD, fS_eq] at h
    -- the guard
    have guard : ∀ (b : Bool) (δ1 : List (Nat × Bool)) (π1 : List Bool) (v1 : List Prop),
        (match o.guard with
          | .none => some (true, δ, π, [])
          | some (j, want) => if Nat.testBit (bs.getD k 0) j = true ∧ ((all[j]?).bind (·.dst)).isSome = true then guardD rs δ j want π else .none) = some (b, δ1, π1, v1) → allP v1 →
        DecOK rs δ1 ∧ ∀ r1, (match o.guard with
          | .none => b = true
          | some (j, s) => (Nat.testBit (bs.getD k 0) j = true ∧ ((all[j]?).bind (·.dst)).isSome = true) ∧ ((∃ c, DecAt (rs ++ r1) j c ∧ b = (c == s)) ∨ (b = false ∧ (rs ++ r1).getD j .any = .un))) := by
      intro b δ1 π1 v1 hg hv1
      split at hg
      · cases hg; exact ⟨hδ, fun _ => rfl⟩
      · rename_i j want _
        split at hg
        · rename_i ht
          unfold guardD at hg
          split at hg
          · rename_i hun
            cases hg
            have hjl : j < rs.length := by
              rcases Nat.lt_or_ge j rs.length with h | h
              · exact h
              · rw [getD_out h] at hun; cases hun
            exact ⟨hδ, fun r1 => ⟨ht, .inr ⟨rfl, by rw [getD_app hjl]; exact hun⟩⟩⟩
          split at hg
          · rename_i c δ2 π2 v2 hd
            cases hg
            obtain ⟨q1, q2, q3⟩ := decD_sound hδ hd hv1
            exact ⟨q1, fun r1 => ⟨ht, .inl ⟨c, q3.app q2, rfl⟩⟩⟩
          · cases hg
        · cases hg
    split at h
    · rename_i δ1 π1 v1 hg
      split at h
      · rename_i δ2 π2 v2 hp
        rw [fM_eq] at h
        split at h
        · rename_i r news v3 hq
          simp only [fAV_eq, fM_eq, fP_eq] at h
          split at h
          · rename_i hids
            split at h
            · rename_i rs' M' births' δ' π' v' hrest
              cases h
              rw [allP_app, allP_app, allP_app] at hv
              obtain ⟨⟨⟨hv1, hv2⟩, hv3⟩, hv4⟩ := hv
              obtain ⟨hδ1, hgd⟩ := guard true δ1 π1 v1 hg hv1
              have hδ2 : DecOK rs δ2 := by
                split at hp
                · split at hp
                  · split at hp
                    · rename_i hd
                      cases hp
                      exact (decD_sound hδ1 hd hv2).1
                    · cases hp
                  · cases hp; exact hδ1
                · cases hp; exact hδ1
              simp only [Bool.and_eq_true, List.all_eq_true] at hids
              obtain ⟨hid1, hid2⟩ := hids
              have hbl : (births ++ news.map fun _ => k).length = (M ++ news).length - n0 := by simp only [List.length_append, List.length_map]; omega
              have hlast : ∀ m, m < (births ++ news.map fun _ => k).length → (births ++ news.map fun _ => k).getD m big < k + 1 := by
                intro m hm
                by_cases hmb : m < births.length
                · rw [getD_app hmb]; have := hbk m hmb; omega
                · have hmn : m - births.length < news.length := by simp only [List.length_append, List.length_map] at hm; omega
                  rw [List.getD_eq_getElem?_getD, List.getElem?_append_right (by omega), List.getElem?_map, List.getElem?_eq_getElem hmn]
                  simp
              have hidlt : ∀ id, idOk n0 (births ++ news.map fun _ => k) (bs.getD k 0) k id = true → id < (M ++ news).length := by
                intro id hid
                unfold idOk at hid; simp only [fBig_eq] at hid
                simp only [Bool.or_eq_true, Bool.and_eq_true, decide_eq_true_eq, hbl] at hid
                rcases hid with h2 | ⟨h2, -⟩
                · simp only [List.length_append]; omega
                · omega
              have hcl' : ∀ id vs, n0 ≤ id → (M ++ news)[id]? = some (.r vs) → ∀ x ∈ vs, ∀ i ∈ x.ids, i < (M ++ news).length := by
                intro id vs hid hg2 x hx i hi
                by_cases hlt : id < M.length
                · rw [List.getElem?_append_left hlt] at hg2
                  have := hcl id vs hid hg2 x hx i hi
                  simp only [List.length_append]; omega
                · rw [List.getElem?_append_right (by omega)] at hg2
                  have hm := List.mem_of_getElem? hg2
                  have := hid2 _ hm
                  simp only [List.all_eq_true] at this
                  exact hidlt i (this x hx i hi)
              obtain ⟨⟨r1, e1, l1⟩, ⟨r2, e2⟩, ⟨r3, e3, l3⟩, hbn, hδn, hfacts⟩ := ih (k + 1) (rs ++ [r]) (M ++ news) (births ++ news.map fun _ => k) δ2 π2 _ _ _ _ _ _ hrest hv4 (by simp [hk]) (by simp only [List.length_append]; omega) hbl
                (fun j b hj => ⟨by have := (hδ2 j b hj).1; simp only [List.length_append, List.length_cons, List.length_nil]; omega, (hδ2 j b hj).2.app (hδ2 j b hj).1⟩) hlast (by simp only [List.length_cons] at hbig; omega) hcl'
              have hr : rsn.getD k .any = r := by rw [e1, ← hk]; exact getD_end
              have hbget : ∀ m, m < births.length → bn.getD m big = births.getD m big := fun m hm => by rw [e3, List.append_assoc, getD_app hm]
              have hbnew : ∀ m, births.length ≤ m → m < births.length + news.length → bn.getD m big = k := by
                intro m h1 h2
                rw [e3, getD_app (by simp only [List.length_append, List.length_map]; omega), List.getD_eq_getElem?_getD, List.getElem?_append_right h1, List.getElem?_map, List.getElem?_eq_getElem (by omega)]
                rfl
              have hbpost : ∀ m, births.length + news.length ≤ m → bn.getD m big ≠ k := by
                intro m hm
                by_cases hml : m < bn.length
                · have e4 : bn.getD m big = r3.getD (m - (births.length + news.length)) big := by
                    rw [e3, List.getD_eq_getElem?_getD, List.getD_eq_getElem?_getD, List.getElem?_append_right (by simp only [List.length_append, List.length_map]; omega)]
                    simp only [List.length_append, List.length_map]
                  have : m - (births.length + news.length) < r3.length := by rw [e3] at hml; simp only [List.length_append, List.length_map] at hml; omega
                  rw [e4]
                  have := (l3 _ this).1
                  omega
                · rw [getD_out (by omega)]
                  simp only [List.length_cons] at hbig; omega
              have hidup : ∀ id, idOk n0 (births ++ news.map fun _ => k) (bs.getD k 0) k id = true → idOk n0 bn (bs.getD k 0) k id = true := by
                intro id hid
                unfold idOk at hid ⊢; simp only [fBig_eq] at hid ⊢
                simp only [Bool.or_eq_true, Bool.and_eq_true, decide_eq_true_eq] at hid ⊢
                rcases hid with h2 | ⟨h2, h3⟩
                · exact .inl h2
                · rw [e3, getD_app h2]
                  exact .inr ⟨by rw [List.length_append]; omega, h3⟩
              refine ⟨⟨[r] ++ r1, by rw [e1, List.append_assoc], by simp [l1]⟩, ⟨news ++ r2, by rw [e2, List.append_assoc]⟩, ⟨(news.map fun _ => k) ++ r3, by rw [e3, List.append_assoc], ?_⟩, hbn, hδn, ?_⟩
              · intro m hm
                by_cases hmn : m < news.length
                · have : ((news.map fun _ => k) ++ r3).getD m big = k := by
                    rw [getD_app (by simpa using hmn), List.getD_eq_getElem?_getD, List.getElem?_map, List.getElem?_eq_getElem hmn]; rfl
                  rw [this]; simp only [List.length_cons]; omega
                · have e4 : ((news.map fun _ => k) ++ r3).getD m big = r3.getD (m - news.length) big := by
                    rw [List.getD_eq_getElem?_getD, List.getD_eq_getElem?_getD, List.getElem?_append_right (by simp only [List.length_map]; omega), List.length_map]
                  simp only [List.length_append, List.length_map] at hm
                  have := l3 (m - news.length) (by omega)
                  rw [e4]; simp only [List.length_cons]; omega
              · intro m o' hm
                cases m with
                | succ m =>
                  rw [show k + (m + 1) = k + 1 + m from by omega]
                  exact hfacts m o' (by simpa using hm)
                | zero =>
                  simp only [List.getElem?_cons_zero, Option.some.injEq] at hm
                  subst hm
                  rw [Nat.add_zero]
                  refine ⟨⟨true, ?_, (fun h => by cases h), fun _ => ⟨M.length, news, _, _, v3, hn, ?_, maskF_len .., ?_, ?_, ?_, by rw [hr]; exact hq, hv3, ?_, ?_, ?_, ?_, ?_, ?_⟩⟩⟩
                  · have := hgd ([r] ++ r1)
                    rw [← List.append_assoc, ← e1] at this
                    exact this
                  · rw [e2]; simp only [List.length_append]; omega
                  · intro id hid
                    rw [maskF_get, Nat.zero_add]
                    have : Mn[id]? = M[id]? := by rw [e2, List.append_assoc, List.getElem?_append_left hid]
                    rw [this]
                    cases hMi : M[id]? with
                    | none => rfl
                    | some b =>
                      simp only [Option.map_some]
                      by_cases h0 : id < n0
                      · simp only [h0, if_true]
                      · simp only [h0, if_false, hbget (id - n0) (by omega)]; (first | rfl | (rw [tbit_eq]; rfl))
                  · intro m hm
                    rw [e2, List.getElem?_append_left (by simp only [List.length_append]; omega), List.getElem?_append_right (by omega), show M.length + m - M.length = m from by omega]
                  · intro m
                    constructor
                    · intro hm
                      by_cases h1 : m < births.length
                      · rw [hbget m h1] at hm; have := hbk m h1; omega
                      · by_cases h2 : m < births.length + news.length
                        · omega
                        · exact absurd hm (hbpost m (by omega))
                    · rintro ⟨h1, h2⟩
                      exact hbnew m (by omega) (by omega)
                  · intro x
                    cases x with
                    | tmp t => exact clip_ids _ _
                    | const c => simp only [evE, evA, ids_const]; simp
                    | func f => simp [evE, evA, AV.ids]
                    | global g => simp [evE, evA, AV.ids]
                  · intro x hx
                    cases x with
                    | tmp t => exact absurd rfl (hx t)
                    | _ => rfl
                  · intro t
                    simp only [evE, clip]
                    split
                    · unfold lookD
                      split
                      · rename_i e; exact .inr (.inl ⟨rfl, .inl e⟩)
                      · rename_i j e
                        split
                        · rename_i ht
                          split
                          · rename_i b hb'
                            obtain ⟨q1, q2⟩ := hδ2 j b hb'
                            exact .inr (.inr ⟨j, e, ht, .inr ⟨b, by rw [e1, List.append_assoc]; exact q2.app q1, rfl⟩⟩)
                          · by_cases hjl : j < rs.length
                            · exact .inr (.inr ⟨j, e, ht, .inl (by rw [e1, List.append_assoc, getD_app hjl])⟩)
                            · exact .inl (getD_out (by omega))
                        · split
                          · rename_i ht; exact .inr (.inl ⟨rfl, .inr ⟨j, e, ht⟩⟩)
                          · exact .inl rfl
                    · exact .inl rfl
                  · intro id hid
                    rw [hr] at hid
                    exact ⟨hidup id (hid1 id hid), by have := hidlt id (hid1 id hid); simpa using this⟩
                  · intro m vs hm hg2 x hx id hid
                    have hmm : news[m]? = some (.r vs) := by
                      rw [← hg2, e2, List.getElem?_append_left (by simp only [List.length_append]; omega), List.getElem?_append_right (by omega), show M.length + m - M.length = m from by omega]
                    have := hid2 _ (List.mem_of_getElem? hmm)
                    simp only [List.all_eq_true] at this
                    exact ⟨hidup id (this x hx id hid), by have := hidlt id (this x hx id hid); simpa using this⟩
                  · intro id vs hid h0 hg2
                    have : Mn[id]? = M[id]? := by rw [e2, List.append_assoc, List.getElem?_append_left hid]
                    rw [this] at hg2
                    exact hcl id vs h0 hg2
            · cases h
          · cases h
        · cases h
      · cases h
    · rename_i δ1 π1 v1 hg
      split at h
      · rename_i rs' M' births' δ' π' v' hrest
        cases h
        rw [allP_app] at hv
        obtain ⟨hv1, hv4⟩ := hv
        obtain ⟨hδ1, hgd⟩ := guard false δ1 π1 v1 hg hv1
        obtain ⟨⟨r1, e1, l1⟩, ⟨r2, e2⟩, ⟨r3, e3, l3⟩, hbn, hδn, hfacts⟩ := ih (k + 1) (rs ++ [.un]) M births δ1 π1 _ _ _ _ _ _ hrest hv4 (by simp [hk]) hn hb
          (fun j b hj => ⟨by have := (hδ1 j b hj).1; simp only [List.length_append, List.length_cons, List.length_nil]; omega, (hδ1 j b hj).2.app (hδ1 j b hj).1⟩) (fun m hm => by have := hbk m hm; omega) (by simp only [List.length_cons] at hbig; omega) hcl
        refine ⟨⟨[.un] ++ r1, by rw [e1, List.append_assoc], by simp [l1]⟩, ⟨r2, e2⟩, ⟨r3, e3, fun m hm => by have := l3 m hm; simp only [List.length_cons]; omega⟩, hbn, hδn, ?_⟩
        intro m o' hm
        cases m with
        | succ m =>
          rw [show k + (m + 1) = k + 1 + m from by omega]
          exact hfacts m o' (by simpa using hm)
        | zero =>
          simp only [List.getElem?_cons_zero, Option.some.injEq] at hm
          subst hm
          rw [Nat.add_zero]
          refine ⟨⟨false, ?_, fun _ => ⟨by rw [e1, ← hk]; exact getD_end, fun m hm => ?_⟩, fun h => by cases h⟩⟩
          · have := hgd ([.un] ++ r1)
            rw [← List.append_assoc, ← e1] at this
            exact this
          · by_cases h1 : m < births.length
            · rw [e3, getD_app h1] at hm; have := hbk m h1; omega
            · by_cases h2 : m < bn.length
              · have e4 : bn.getD m big = r3.getD (m - births.length) big := by
                  rw [e3, List.getD_eq_getElem?_getD, List.getD_eq_getElem?_getD, List.getElem?_append_right (by omega)]
                rw [e3, List.length_append] at h2
                have := (l3 (m - births.length) (by omega)).1
                omega
              · rw [getD_out (by omega)] at hm
                simp only [List.length_cons] at hbig; omega
      · cases h
    · cases h

end Go.Eng

/- The engine, part 14: a region whose order is open, whatever order is drawn. No conditions. -/
namespace Go.Eng
open Go Go.RowKit
set_option linter.unusedSectionVars false
variable [Glob]
variable {P : Program} {Γ : Tab}

theorem wrt_some : ∀ (l : List Oper) (k j : Nat) (t : Tmp), wrt l k t = some j → k ≤ j ∧ ∃ o, l[j - k]? = some o ∧ o.dst = some t
  | [], _, _, _, h => by cases h
  | o :: l, k, j, t, h => by
    simp only [wrt] at h
    split at h
    · rename_i d hd
      split at h
      · rename_i e; subst e; cases h; exact ⟨Nat.le_refl _, o, by simp, hd⟩
      · obtain ⟨h1, o', h2, h3⟩ := wrt_some l (k + 1) j t h
        exact ⟨by omega, o', by rw [show j - k = j - (k + 1) + 1 from by omega]; simpa using h2, h3⟩
    · obtain ⟨h1, o', h2, h3⟩ := wrt_some l (k + 1) j t h
      exact ⟨by omega, o', by rw [show j - k = j - (k + 1) + 1 from by omega]; simpa using h2, h3⟩

theorem wrt_none : ∀ (l : List Oper) (k : Nat) (t : Tmp), wrt l k t = .none → ∀ o ∈ l, o.dst ≠ some t
  | [], _, _, _, o, ho => by cases ho
  | o' :: l, k, t, h, o, ho => by
    simp only [wrt] at h
    split at h
    · rename_i d hd
      split at h
      · cases h
      · rename_i e
        rcases List.mem_cons.1 ho with rfl | ho
        · rw [hd]; exact fun e' => e (Option.some.inj e')
        · exact wrt_none l (k + 1) t h o ho
    · rename_i hd
      rcases List.mem_cons.1 ho with rfl | ho
      · rw [hd]; simp
      · exact wrt_none l (k + 1) t h o ho

/-- Each slot is written once. -/
def once : List Oper → Bool
  | [] => true
  | o :: l => (match o.dst with
    | some d => l.all fun o' => match o'.dst with | some d' => decide (d' ≠ d) | .none => true
    | .none => true) && once l

theorem wrt_once : ∀ (l : List Oper) (k i : Nat) (o : Oper) (t : Tmp), once l = true → l[i]? = some o → o.dst = some t → wrt l k t = some (k + i)
  | [], _, _, _, _, _, h, _ => by simp at h
  | o' :: l, k, 0, o, t, _, h, hd => by
    simp only [List.getElem?_cons_zero, Option.some.injEq] at h
    subst h
    simp only [wrt, hd, if_true, Nat.add_zero]
  | o' :: l, k, i + 1, o, t, hu, h, hd => by
    simp only [List.getElem?_cons_succ] at h
    simp only [once, Bool.and_eq_true] at hu
    have ih := wrt_once l (k + 1) i o t hu.2 h hd
    simp only [wrt]
    cases hd' : o'.dst with
    | none => dsimp only; rw [ih, show k + 1 + i = k + (i + 1) from by omega]
    | some d =>
      have h1 := hu.1
      rw [hd'] at h1
      have h2 := List.all_eq_true.1 h1 o (List.mem_of_getElem? h)
      rw [hd] at h2
      simp only [decide_eq_true_eq] at h2
      dsimp only
      rw [if_neg (fun e => h2 e.symm), ih, show k + 1 + i = k + (i + 1) from by omega]

/-- What a slot holds once these have come up. -/
def cont (all : List Oper) (fr0 rs : List AV) (p : Nat → Bool) (t : Tmp) : AV :=
  match wrt all 0 t with
  | .none => fr0.getD t .any
  | some j => if p j = true then rs.getD j .any else fr0.getD t .any

structure J (all : Array Oper) (bs : List Nat) (fr0 rs : List AV) (n0 : Nat) (Mn : List Blk) (bn : List Nat) (ρ0 : Rho) (M0 : List Blk) (a0 : Act) (w0 : World) (listed : Array Bool) (a : Act) (w : World) (ρ : Rho) : Prop where
  size : a.tmps.size = fr0.length
  defs : a.defers = a0.defers
  den : ∀ t, Den ρ (cont all.toList fr0 rs (fun k => listed.getD k false) t) (a.tmps.getD t undef)
  clo : ∀ i, listed.getD i false = true → ∀ j, Nat.testBit (bs.getD i 0) j = true → listed.getD j false = true
  lsz : listed.size = all.size
  aft : After ρ0 M0 (maskF n0 bn (fun k => listed.getD k false) Mn 0) w0 w ρ


theorem After.step {ρ0 ρ ρ1 : Rho} {M0 Mn Mk news : List Blk} {bn : List Nat} {p p' q : Nat → Bool} {w0 w w' : World} {base i : Nat}
    (hcl0 : ∀ (id : Nat) (vs : List AV), M0[id]? = some (.r vs) → ∀ x ∈ vs, ∀ j ∈ x.ids, j < M0.length)
    (hM0 : ∀ id, id < M0.length → ∀ vs, Mn[id]? = some (.r vs) → M0[id]? = some (.r vs)) (hle : M0.length ≤ Mn.length)
    (hA : After ρ0 M0 (maskF M0.length bn p Mn 0) w0 w ρ) (hS : After ρ Mk (Mk ++ news) w w' ρ1)
    (hb0 : M0.length ≤ base) (hb1 : base + news.length ≤ Mn.length) (hkl : Mk.length = base)
    (hget : ∀ id, id < base → Mk[id]? = (Mn[id]?).map fun b => if id < M0.length then b else if q (bn.getD (id - M0.length) big) = true then b else .dead)
    (hnews : ∀ m, m < news.length → Mn[base + m]? = news[m]?)
    (hborn : ∀ m, bn.getD m big = i ↔ base ≤ M0.length + m ∧ M0.length + m < base + news.length)
    (hqp : ∀ j, q j = true → p j = true) (hp' : ∀ j, p' j = true ↔ (p j = true ∨ j = i))
    (hrf : ∀ id vs, M0.length ≤ id → p (bn.getD (id - M0.length) big) = true → Mn[id]? = some (.r vs) → ∀ x ∈ vs, ∀ j ∈ x.ids, j < M0.length ∨ bn.getD (j - M0.length) big ≠ i)
    (hrn : ∀ m vs, m < news.length → Mn[base + m]? = some (.r vs) → ∀ x ∈ vs, ∀ j ∈ x.ids, j < base + news.length) :
    After ρ0 M0 (maskF M0.length bn p' Mn 0) w0 w' ⟨fun id => if base ≤ id ∧ id < base + news.length then ρ1 id else ρ id, ρ1.F, ρ1.ok⟩ := by
  have hle1 : ρ1.le ⟨fun id => if base ≤ id ∧ id < base + news.length then ρ1 id else ρ id, ρ1.F, ρ1.ok⟩ := fun _ _ h => h
  have hle2 : ρ.le ⟨fun id => if base ≤ id ∧ id < base + news.length then ρ1 id else ρ id, ρ1.F, ρ1.ok⟩ := hS.fmono
  -- what stands at an id
  have g1 : ∀ id, (maskF M0.length bn p Mn 0)[id]? = (Mn[id]?).map fun b => if id < M0.length then b else if p (bn.getD (id - M0.length) big) = true then b else .dead := fun id => by rw [maskF_get, Nat.zero_add]; rfl
  have g2 : ∀ id, (maskF M0.length bn p' Mn 0)[id]? = (Mn[id]?).map fun b => if id < M0.length then b else if p' (bn.getD (id - M0.length) big) = true then b else .dead := fun id => by rw [maskF_get, Nat.zero_add]; rfl
  have own : ∀ id, M0.length ≤ id → (bn.getD (id - M0.length) big = i ↔ base ≤ id ∧ id < base + news.length) := fun id hid => by
    have := hborn (id - M0.length)
    rw [show M0.length + (id - M0.length) = id from by omega] at this
    exact this
  -- live here and ahead of it
  have lk : ∀ id, liveAt Mk id → id < base ∧ liveAt (maskF M0.length bn p Mn 0) id := by
    rintro id ⟨b, hb, hl⟩
    have hid : id < base := by have := (List.getElem?_eq_some_iff.1 hb).1; omega
    rw [hget id hid] at hb
    refine ⟨hid, b, ?_, hl⟩
    rw [g1]
    cases hm : Mn[id]? with
    | none => rw [hm] at hb; cases hb
    | some c =>
      rw [hm] at hb
      simp only [Option.map_some, Option.some.injEq] at hb ⊢
      by_cases h0 : id < M0.length
      · rw [if_pos h0] at hb ⊢; exact hb
      · rw [if_neg h0] at hb ⊢
        split at hb
        · rename_i hq; rw [if_pos (hqp _ hq)]; exact hb
        · subst hb; cases hl
  have l2 : ∀ id, liveAt (maskF M0.length bn p' Mn 0) id → (base ≤ id ∧ id < base + news.length ∧ liveAt (Mk ++ news) id) ∨ (¬ (base ≤ id ∧ id < base + news.length) ∧ liveAt (maskF M0.length bn p Mn 0) id) := by
    rintro id ⟨b, hb, hl⟩
    rw [g2] at hb
    by_cases ho : base ≤ id ∧ id < base + news.length
    · refine .inl ⟨ho.1, ho.2, b, ?_, hl⟩
      rw [List.getElem?_append_right (by omega), hkl, ← hnews (id - base) (by omega), show base + (id - base) = id from by omega]
      cases hm : Mn[id]? with
      | none => rw [hm] at hb; cases hb
      | some c =>
        rw [hm] at hb
        simp only [Option.map_some, Option.some.injEq] at hb
        rw [if_neg (by omega)] at hb
        split at hb
        · rw [hb]
        · subst hb; cases hl
    · refine .inr ⟨ho, b, ?_, hl⟩
      rw [g1]
      cases hm : Mn[id]? with
      | none => rw [hm] at hb; cases hb
      | some c =>
        rw [hm] at hb
        simp only [Option.map_some, Option.some.injEq] at hb ⊢
        by_cases h0 : id < M0.length
        · rw [if_pos h0] at hb ⊢; exact hb
        · rw [if_neg h0] at hb ⊢
          split at hb
          · rename_i hq
            rcases (hp' _).1 hq with h | h
            · rw [if_pos h]; exact hb
            · exact absurd ((own id (by omega)).1 h) ho
          · subst hb; cases hl
  have hrho : ∀ id, id < base → ρ1 id = ρ id := fun id hid => hS.ext id (by omega)
  -- a new block lies behind all that was
  have hfresh : ∀ id, base ≤ id → liveAt (Mk ++ news) id → w.heap.size ≤ (ρ1 id).blk := by
    intro id hid hl
    rcases hS.fresh id (by omega) hl with h | ⟨j, hj, hjl, he⟩
    · exact h
    · exfalso
      have hjl' : liveAt (Mk ++ news) j := by
        obtain ⟨b, hb, hv⟩ := hjl
        exact ⟨b, by rw [List.getElem?_append_left hj]; exact hb, hv⟩
      have := hS.rel.inj id j hl hjl' (by rw [he, hS.ext j hj])
      omega
  -- those of ours that this step doesn't reach are as they were
  have hkeep : ∀ id, liveAt (maskF M0.length bn p Mn 0) id → ¬ liveAt Mk id → w'.heap[(ρ id).blk]? = w.heap[(ρ id).blk]? := by
    intro id hl hn
    refine hS.frame _ (hA.rel.blk_lt hl) (fun j hj he => ?_)
    have := hA.rel.inj j id (lk j hj).2 hl he
    exact hn (this ▸ hj)
  refine ⟨?_, ⟨?_, ?_, ?_, ?_⟩, by rw [maskF_len]; exact hle, ?_, ?_, ?_, hS.os.trans hA.os, hS.tape.trans hA.tape, hS.output.trans hA.output, Nat.le_trans hA.size hS.size, Rho.le_trans hA.fmono hS.fmono, ?_⟩
  · intro id hid
    dsimp only
    rw [if_neg (by omega)]
    exact hA.ext id hid
  · intro id b hb
    by_cases hl0 : b.live = false
    · cases b <;> first | trivial | cases hl0
    have hl : b.live = true := by simpa using hl0
    have hb' := hb
    rw [g2] at hb'
    rcases l2 id ⟨b, hb, hl⟩ with ⟨h1, h2, c, hc, hcl⟩ | ⟨ho, c, hc, hcl⟩
    · -- new here
      have hbc : b = c := by
        rw [List.getElem?_append_right (by omega), hkl, ← hnews (id - base) (by omega), show base + (id - base) = id from by omega] at hc
        rw [hc] at hb'
        simp only [Option.map_some, Option.some.injEq] at hb'
        rw [if_neg (by omega)] at hb'
        split at hb'
        · exact hb'.symm
        · subst hb'; cases hl
      subst hbc
      dsimp only
      rw [if_pos ⟨h1, h2⟩]
      refine (hS.rel.blk id b hc).congr hle1 ?_
      dsimp only
      rintro vs rfl x hx j hj
      by_cases hj1 : base ≤ j
      · have : j < base + news.length := by
          rw [List.getElem?_append_right (by omega), hkl, ← hnews (id - base) (by omega)] at hc
          exact hrn (id - base) vs (by omega) hc x hx j hj
        rw [if_pos ⟨hj1, this⟩]
      · rw [if_neg (by omega), hrho j (by omega)]
    · have hbc : b = c := by
        rw [g1] at hc
        cases hm : Mn[id]? with
        | none => rw [hm] at hc; cases hc
        | some d =>
          rw [hm] at hb' hc
          simp only [Option.map_some, Option.some.injEq] at hb' hc
          by_cases h0 : id < M0.length
          · rw [if_pos h0] at hb' hc; rw [← hb', ← hc]
          · rw [if_neg h0] at hb' hc
            split at hb'
            · split at hc
              · rw [← hb', ← hc]
              · subst hc; cases hcl
            · subst hb'; cases hl
      subst hbc
      dsimp only
      rw [if_neg ho]
      -- the ids that it names aren't new here
      have hnm : ∀ vs, b = .r vs → ∀ x ∈ vs, ∀ j ∈ x.ids, ¬ (base ≤ j ∧ j < base + news.length) := by
        rintro vs rfl x hx j hj hh
        have hmn : Mn[id]? = some (.r vs) ∧ (M0.length ≤ id → p (bn.getD (id - M0.length) big) = true) := by
          rw [g1] at hc
          cases hm : Mn[id]? with
          | none => rw [hm] at hc; cases hc
          | some d =>
            rw [hm] at hc
            simp only [Option.map_some, Option.some.injEq] at hc
            by_cases h0 : id < M0.length
            · rw [if_pos h0] at hc; rw [hc]; exact ⟨rfl, fun h => by omega⟩
            · rw [if_neg h0] at hc
              split at hc
              · rename_i hq; rw [hc]; exact ⟨rfl, fun _ => hq⟩
              · cases hc
        by_cases h0 : id < M0.length
        · have := hcl0 id vs (hM0 id h0 vs hmn.1) x hx j hj
          omega
        · rcases hrf id vs (by omega) (hmn.2 (by omega)) hmn.1 x hx j hj with h | h
          · omega
          · exact h ((own j (by omega)).2 hh)
      have hcg : ∀ vs, b = .r vs → ∀ x ∈ vs, ∀ j ∈ x.ids, (fun id => if base ≤ id ∧ id < base + news.length then ρ1 id else ρ id) j = ρ j := by
        intro vs e x hx j hj
        dsimp only
        rw [if_neg (hnm vs e x hx j hj)]
      by_cases hk : liveAt Mk id
      · obtain ⟨d, hd, hdl⟩ := hk
        have hid : id < base := by have := (List.getElem?_eq_some_iff.1 hd).1; omega
        have hdb : d = b := by
          rw [hget id hid] at hd
          rw [g1] at hc
          cases hm : Mn[id]? with
          | none => rw [hm] at hc; cases hc
          | some e =>
            rw [hm] at hc hd
            simp only [Option.map_some, Option.some.injEq] at hc hd
            by_cases h0 : id < M0.length
            · rw [if_pos h0] at hc hd; rw [← hc, ← hd]
            · rw [if_neg h0] at hc hd
              split at hd
              · split at hc
                · rw [← hc, ← hd]
                · subst hc; cases hcl
              · subst hd; cases hdl
        subst hdb
        have := hS.rel.blk id d (by rw [List.getElem?_append_left (by omega)]; exact hd)
        rw [hrho id hid] at this
        refine this.congr hle1 ?_
        intro vs e x hx j hj
        have h4 := hcg vs e x hx j hj
        dsimp only at h4
        show (if base ≤ j ∧ j < base + news.length then ρ1 j else ρ j) = _
        rw [h4]
        by_cases hj1 : j < base
        · exact (hrho j hj1).symm
        · exfalso
          have h3 := hS.rel.cl id vs (by rw [List.getElem?_append_left (by omega), hd, e]) x hx j hj
          rw [List.length_append, hkl] at h3
          exact hnm vs e x hx j hj ⟨by omega, h3⟩
      · rw [hkeep id ⟨b, hc, hcl⟩ hk]
        exact (hA.rel.blk id b hc).congr hle2 hcg
  · intro x y hx hy he
    dsimp only at he
    rcases l2 x hx with ⟨x1, x2, x3⟩ | ⟨xo, x3⟩
    · rw [if_pos ⟨x1, x2⟩] at he
      rcases l2 y hy with ⟨y1, y2, y3⟩ | ⟨yo, y3⟩
      · rw [if_pos ⟨y1, y2⟩] at he
        exact hS.rel.inj x y x3 y3 he
      · rw [if_neg yo] at he
        have := hfresh x x1 x3
        have := hA.rel.blk_lt y3
        omega
    · rw [if_neg xo] at he
      rcases l2 y hy with ⟨y1, y2, y3⟩ | ⟨yo, y3⟩
      · rw [if_pos ⟨y1, y2⟩] at he
        have := hfresh y y1 y3
        have := hA.rel.blk_lt x3
        omega
      · rw [if_neg yo] at he
        exact hA.rel.inj x y x3 y3 he
  · intro id vs hb x hx j hj
    rw [maskF_len]
    rcases l2 id ⟨_, hb, rfl⟩ with ⟨h1, h2, c, hc, hcl⟩ | ⟨ho, c, hc, hcl⟩
    · have hmn : Mn[base + (id - base)]? = some (.r vs) := by
        rw [show base + (id - base) = id from by omega]
        rw [g2] at hb
        cases hm : Mn[id]? with
        | none => rw [hm] at hb; cases hb
        | some d =>
          rw [hm] at hb
          simp only [Option.map_some, Option.some.injEq] at hb
          rw [if_neg (by omega)] at hb
          split at hb
          · rw [hb]
          · cases hb
      have := hrn (id - base) vs (by omega) hmn x hx j hj
      omega
    · have hbc : (maskF M0.length bn p Mn 0)[id]? = some (.r vs) := by
        rw [g2] at hb
        rw [g1] at hc ⊢
        cases hm : Mn[id]? with
        | none => rw [hm] at hc; cases hc
        | some d =>
          rw [hm] at hb hc
          simp only [Option.map_some, Option.some.injEq] at hb hc ⊢
          by_cases h0 : id < M0.length
          · rw [if_pos h0] at hb ⊢; exact hb
          · rw [if_neg h0] at hb hc ⊢
            split at hb
            · split at hc
              · rename_i hp2; rw [if_pos hp2]; exact hb
              · subst hc; cases hcl
            · cases hb
      have := hA.rel.cl id vs hbc x hx j hj
      rwa [maskF_len] at this
  · intro k o hk
    obtain ⟨g1, g3⟩ := hS.rel.env k o hk
    refine ⟨g1, fun id hl he => ?_⟩
    dsimp only at he
    rcases l2 id hl with ⟨h1, h2, h3⟩ | ⟨ho, h⟩
    · rw [if_pos ⟨h1, h2⟩] at he
      exact g3 id h3 he
    · rw [if_neg ho] at he
      have hlt := hA.rel.blk_lt h
      rcases hS.fnew k o hk with h4 | h4 | ⟨j, hj, hje⟩
      · exact (hA.rel.env k o h4).2 id h he
      · omega
      · have hij := hA.rel.inj id j h (lk j hj).2 (by rw [he, hje])
        subst hij
        obtain ⟨b, hb, hbl⟩ := hj
        have hjl : liveAt (Mk ++ news) id := ⟨b, by rw [List.getElem?_append_left (by have := (List.getElem?_eq_some_iff.1 hb).1; omega)]; exact hb, hbl⟩
        exact g3 id hjl (by rw [hS.ext id (by have := (List.getElem?_eq_some_iff.1 hb).1; omega)]; exact hje)
  · intro id hid hl
    rcases l2 id hl with ⟨h1, -, -⟩ | ⟨-, h⟩
    · omega
    · exact hA.dead id hid h
  · intro id hid hl
    dsimp only
    rcases l2 id hl with ⟨h1, h2, h3⟩ | ⟨ho, h⟩
    · rw [if_pos ⟨h1, h2⟩]
      exact .inl (Nat.le_trans hA.size (hfresh id h1 h3))
    · rw [if_neg ho]
      exact hA.fresh id hid h
  · intro b hb hn
    rw [hS.frame b (Nat.lt_of_lt_of_le hb hA.size) ?_]
    · exact hA.frame b hb hn
    · intro id hl he
      obtain ⟨h1, h2⟩ := lk id hl
      by_cases h0 : id < M0.length
      · rw [hA.ext id h0] at he
        exact hn id (hA.dead id h0 h2) he
      · rcases hA.fresh id (by omega) h2 with h | ⟨j, hj, hjl, he'⟩
        · omega
        · exact hn j hjl (by rw [← he']; exact he)
  · intro k o hk
    rcases hS.fnew k o hk with h1 | h1 | ⟨i, h1, h2⟩
    · exact hA.fnew k o h1
    · exact .inr (.inl (Nat.le_trans hA.size h1))
    · obtain ⟨h3, h4⟩ := lk i h1
      by_cases hlt : i < M0.length
      · rw [hA.ext i hlt] at h2
        exact .inr (.inr ⟨i, hA.dead i hlt h4, h2⟩)
      · rcases hA.fresh i (by omega) h4 with h5 | ⟨j, _, h5, h6⟩
        · exact .inr (.inl (h2 ▸ h5))
        · exact .inr (.inr ⟨j, h5, by rw [← h6, h2]⟩)

end Go.Eng
