/- The engine, part 7: the evaluator. No conditions. -/
import Derived.Test.YtfelemoefhbphaaEng6d
namespace Go.Eng
open Go Go.RowKit
variable {P : Program} {Γ : Tab}

def mxI (a b : Int) : Int := if a < b then b else a
def mnI (a b : Int) : Int := if b < a then b else a

def aggB (σ : Sg) : Bool := match σ.inf with | .st _ => true | .arr _ _ => true | _ => false

/-- Where a part lies, and its shape. -/
def partAt (σ : Sg) (i : Nat) : Option (Nat × Sg) :=
  match σ.inf with
  | .st fs => fldAt fs i
  | .arr n e => if i < n then some (i * e.n, e) else .none
  | _ => .none

def slotAt (σ : Sg) (len i : Nat) : Option (Nat × Sg) := if i < len then some (i * σ.n, σ) else .none

/-- Parts are filled in. -/
def fillAV (pl : Nat → Option (Nat × Sg)) : List Int → List (Nat × AV) → Option (List Int)
  | xs, [] => some xs
  | xs, (i, r) :: l => match pl i with
    | some (o, τ) => match τ.inf with
      | .cell k => match toCell k r with
        | some n => fillAV pl (xs.set o n) l
        | .none => .none
      | _ => match r with
        | .ag τ' ys => if τ' = τ then fillAV pl (putSeg xs o τ.n ys) l else .none
        | _ => .none
    | .none => .none

def capsAV : List AV → Option (List (Nat × Sg))
  | [] => some []
  | .pw id σ :: l => match capsAV l with
    | some cs => some ((id, σ) :: cs)
    | .none => .none
  | _ => .none

/-- An array, as a slice. -/
def slAll (M : List Blk) (id off : Nat) (σ : Sg) : Option (AV × List Prop) :=
  match σ.inf with
  | .arr n e => match M[id]? with
    | some (.c _ _) => some (.sl id off n e, [])
    | _ => .none
  | _ => .none

/-- The functions that the language itself has. -/
def evB (Γ : Tab) (ts : Array TypeId) : Builtin → List AV → Option (AV × List Prop)
  | .len, [.sl _ _ len _] => if (Γ.sl (ts.getD 0 0)).isSome = true ∧ 0 < ts.size then some (.i .i64 len, [rng .i64 len]) else .none
  | .len, [.ow _ len _ _] => if (Γ.sl (ts.getD 0 0)).isSome = true ∧ 0 < ts.size then some (.i .i64 len, []) else .none
  | .len, [.fs _ rows] => if (Γ.sl (ts.getD 0 0)).isSome = true ∧ 0 < ts.size then some (.i .i64 rows.length, []) else .none
  | .len, [.fz _ rows] => if (Γ.sl (ts.getD 0 0)).isSome = true ∧ 0 < ts.size then some (.i .i64 rows.length, []) else .none
  | .len, [.fstr l] => if (Γ.sl (ts.getD 0 0)).isSome = true ∧ 0 < ts.size then some (.i .i64 l.length, []) else .none
  | .len, [.es] => if (Γ.sl (ts.getD 0 0)).isSome = true ∧ 0 < ts.size then some (.i .i64 0, []) else .none
  | .len, [.s x] => if Γ.sg (ts.getD 0 0) = .str ∧ 0 < ts.size then some (.i .i64 x.size, []) else .none
  | .len, [.nsl] => if (Γ.sl (ts.getD 0 0)).isSome = true ∧ 0 < ts.size then some (.i .i64 0, []) else .none
  | .min, [.i k m, .i k' n] => if k = k' then some (.i k (mnI m n), []) else .none
  | .max, [.i k m, .i k' n] => if k = k' then some (.i k (mxI m n), []) else .none
  | _, _ => .none

def bndAV (E : Operand → AV) : Option Operand → Option (Option Int)
  | .none => some .none
  | some x => match E x with
    | .i _ n => some (some n)
    | _ => .none

/-- A list is written out. -/
def fI {β : Type} : List Int → (List Int → β) → β
  | [], K => K []
  | x :: l, K => fI l fun l => K (x :: l)
theorem fI_eq {β : Type} (l : List Int) (K : List Int → β) : fI l K = K l := by
  induction l generalizing K with
  | nil => rfl
  | cons x l ih => simp only [fI, ih]

def fSg' {α : Type} (σ : Sg) (K : Sg → α) : α :=
  match σ with
  | .i8 => K .i8 | .i16 => K .i16 | .i32 => K .i32 | .i64 => K .i64 | .u8 => K .u8 | .u16 => K .u16 | .u32 => K .u32 | .u64 => K .u64 | .bool => K .bool | .str => K .str | .ref => K .ref
  | .spot => K .spot | .row => K .row | .grid => K .grid | .w10 => K .w10 | .pas => K .pas | .tab => K .tab | .gro => K .gro | .goat => K .goat | .hur => K .hur
  | .b10 => K .b10 | .bgrid => K .bgrid | .l10 => K .l10 | .lgrid => K .lgrid | .two => K .two | .sp2 => K .sp2 | .none => K .none
theorem fSg'_eq {α : Type} (σ : Sg) (K : Sg → α) : fSg' σ K = K σ := by cases σ <;> rfl

/-- Operations that leave memory alone. -/
def evS (Γ : Tab) (wr : Bool) (M : List Blk) (E : Operand → AV) : Op → Option (AV × List Prop)
  | .move x => some (E x, [])
  | .assign x => some (E x, [])
  | .pick c a b => match E c with
    | .d p => match p with
      | true => some (E a, [])
      | false => some (E b, [])
    | _ => .none
  | .load t x => match E x with
    | .p id off σ => if Γ.sg t = σ ∧ σ ≠ .none then (match loadAV M id off σ with
      | some r => some (r, [])
      | .none => .none) else .none
    | .pw id σ => if Γ.sg t = σ ∧ σ ≠ .none then (match loadW M id σ with
      | some r => some (r, [])
      | .none => .none) else .none
    | y => match rowLoad Γ M t y with
      | some r => some (r, [])
      | .none => .none
  | .nilCheck x => match E x with
    | .p id off σ => some (.p id off σ, [])
    | .pw id σ => some (.pw id σ, [])
    | .lp id i o σ τ => some (.lp id i o σ τ, [])
    | .fp o σ τ xs => some (.fp o σ τ xs, [])
    | .fq σ rows => some (.fq σ rows, [])
    | .fqs s => some (.fqs s, [])
    | _ => .none
  | .fieldAddr t x f => match fldAV Γ t f (E x) with
    | some r => some (r, [])
    | .none => match rowFld Γ t f (E x) with
      | some r => some (r, [])
      | .none => .none
  | .indexAddr t x i => match rowIdx Γ t (E x) (E i) with
    | some r => some r
    | .none => idxAV Γ t (E x) (E i)
  | .binOp op t x y _ => evBin Γ wr op t (E x) (E y)
  | .unOp op _ x => match op, E x with
    | .not, .b p => some (.b (!p), [])
    | .not, .d p => match p with
      | true => some (.d false, [])
      | false => some (.d true, [])
    | .neg, .i k n => ar wr k (0 - n)
    | _, _ => .none
  | .convert s t x => match E x, (Γ.sg s).inf, (Γ.sg t).inf with
    | .i _ n, .cell (.int _), .cell (.int k) => ar wr k n
    | _, _, _ => .none
  | .extract x i => match E x, i with
    | .t2 a _, 0 => some (a, [])
    | .t2 _ b, 1 => some (b, [])
    | .t3 a _ _, 0 => some (a, [])
    | .t3 _ b _, 1 => some (b, [])
    | .t3 _ _ c, 2 => some (c, [])
    | .t4 a _ _ _, 0 => some (a, [])
    | .t4 _ b _ _, 1 => some (b, [])
    | .t4 _ _ c _, 2 => some (c, [])
    | .t4 _ _ _ d, 3 => some (d, [])
    | _, _ => .none
  | .build t ps => fSg' (Γ.sg t) fun σ => if σ ≠ .none ∧ aggB σ = true then
      (match fillAV (partAt σ) (List.replicate σ.n 0) (ps.toList.map fun p => (p.1, E p.2)) with
      | some xs => (match σ with
        | .spot => fI xs fun xs => some (.ag .spot xs, [])
        | σ => some (.ag σ xs, []))
      | .none => .none) else .none
  | .makeFunc f first caps => match f with
    | .func f => if first.size = 0 then (match capsAV (caps.toList.map E) with
      | some cs => some (.fn f cs, [])
      | .none => .none) else .none
    | _ => .none
  | .slice t x l h m => match l, h, m with
    | .none, .none, .none => match E x with
      | .pw id σ => if Γ.sg t = σ then slAll M id 0 σ else .none
      | .p id off σ => if Γ.sg t = σ then slAll M id off σ else .none
      | _ => .none
    | l, h, m => match bndAV E l, bndAV E h, bndAV E m with
      | some l, some h, some m => sliceAV Γ t (E x) l h m
      | _, _, _ => .none
  | .call c => match c.callee with
    | .builtin b => evB Γ c.argTypes b (c.args.toList.map E)
    | _ => .none
  | _ => .none

/-! ## Forcing: nothing but how a term is written -/
def fNat {α : Type} (n : Nat) (K : Nat → α) : α :=
  match n with
  | 0 => K 0
  | 1 => K 1
  | 2 => K 2
  | 3 => K 3
  | 4 => K 4
  | 5 => K 5
  | 6 => K 6
  | 7 => K 7
  | 8 => K 8
  | 9 => K 9
  | 10 => K 10
  | 11 => K 11
  | 12 => K 12
  | 13 => K 13
  | 14 => K 14
  | 15 => K 15
  | 16 => K 16
  | 17 => K 17
  | 18 => K 18
  | 19 => K 19
  | 20 => K 20
  | 21 => K 21
  | 22 => K 22
  | 23 => K 23
  | 24 => K 24
  | 25 => K 25
  | 26 => K 26
  | 27 => K 27
  | 28 => K 28
  | 29 => K 29
  | 30 => K 30
  | 31 => K 31
  | 32 => K 32
  | 33 => K 33
  | 34 => K 34
  | 35 => K 35
  | 36 => K 36
  | 37 => K 37
  | 38 => K 38
  | 39 => K 39
  | 40 => K 40
  | 41 => K 41
  | 42 => K 42
  | 43 => K 43
  | 44 => K 44
  | 45 => K 45
  | 46 => K 46
  | 47 => K 47
  | 48 => K 48
  | 49 => K 49
  | 50 => K 50
  | 51 => K 51
  | 52 => K 52
  | 53 => K 53
  | 54 => K 54
  | 55 => K 55
  | 56 => K 56
  | 57 => K 57
  | 58 => K 58
  | 59 => K 59
  | 60 => K 60
  | 61 => K 61
  | 62 => K 62
  | 63 => K 63
  | n => K n
theorem fNat_eq {α : Type} (n : Nat) (K : Nat → α) : fNat n K = K n := by unfold fNat; split <;> rfl

def fSg {α : Type} (σ : Sg) (K : Sg → α) : α :=
  match σ with
  | .i8 => K .i8
  | .i16 => K .i16
  | .i32 => K .i32
  | .i64 => K .i64
  | .u8 => K .u8
  | .u16 => K .u16
  | .u32 => K .u32
  | .u64 => K .u64
  | .bool => K .bool
  | .str => K .str
  | .ref => K .ref
  | .spot => K .spot
  | .row => K .row
  | .grid => K .grid
  | .w10 => K .w10
  | .pas => K .pas
  | .tab => K .tab
  | .gro => K .gro
  | .goat => K .goat
  | .hur => K .hur
  | .b10 => K .b10
  | .bgrid => K .bgrid
  | .l10 => K .l10
  | .lgrid => K .lgrid
  | .two => K .two
  | .sp2 => K .sp2
  | .none => K .none
theorem fSg_eq {α : Type} (σ : Sg) (K : Sg → α) : fSg σ K = K σ := by cases σ <;> rfl

def fK {α : Type} (k : IntKind) (K : IntKind → α) : α :=
  match k with
  | .i8 => K .i8 | .i16 => K .i16 | .i32 => K .i32 | .i64 => K .i64 | .u8 => K .u8 | .u16 => K .u16 | .u32 => K .u32 | .u64 => K .u64
theorem fK_eq {α : Type} (k : IntKind) (K : IntKind → α) : fK k K = K k := by cases k <;> rfl

def fNs {α : Type} : List Nat → (List Nat → α) → α
  | [], K => K []
  | i :: l, K => fNat i fun i => fNs l fun l => K (i :: l)
theorem fNs_eq {α : Type} (l : List Nat) (K : List Nat → α) : fNs l K = K l := by
  induction l generalizing K with
  | nil => rfl
  | cons i l ih => simp only [fNs, fNat_eq, ih]

def fCaps {α : Type} : List (Nat × Sg) → (List (Nat × Sg) → α) → α
  | [], K => K []
  | (i, σ) :: l, K => fNat i fun i => fSg σ fun σ => fCaps l fun l => K ((i, σ) :: l)
theorem fCaps_eq {α : Type} (l : List (Nat × Sg)) (K : List (Nat × Sg) → α) : fCaps l K = K l := by
  induction l generalizing K with
  | nil => rfl
  | cons c l ih => obtain ⟨i, σ⟩ := c; simp only [fCaps, fNat_eq, fSg_eq, ih]

def fAV {α : Type} : AV → (AV → α) → α
  | .any, K => K .any
  | .i k n, K => fK k fun k => K (.i k n)
  | .b p, K => K (.b p)
  | .d true, K => K (.d true)
  | .d false, K => K (.d false)
  | .s s, K => K (.s s)
  | .ag σ xs, K => fSg σ fun σ => K (.ag σ xs)
  | .p id off σ, K => fNat id fun id => fSg σ fun σ => K (.p id off σ)
  | .pw id σ, K => fNat id fun id => fSg σ fun σ => K (.pw id σ)
  | .np, K => K .np
  | .sl id off len σ, K => fNat id fun id => fSg σ fun σ => K (.sl id off len σ)
  | .ow id len σ e, K => fNat id fun id => fSg σ fun σ => K (.ow id len σ e)
  | .lp id i o σ τ, K => fNat id fun id => fNat o fun o => fSg σ fun σ => fSg τ fun τ => K (.lp id i o σ τ)
  | .fs σ rows, K => fSg σ fun σ => K (.fs σ rows)
  | .fp o σ τ xs, K => fNat o fun o => fSg σ fun σ => fSg τ fun τ => K (.fp o σ τ xs)
  | .fz σ rows, K => fSg σ fun σ => K (.fz σ rows)
  | .fstr l, K => K (.fstr l)
  | .fq σ rows, K => fSg σ fun σ => K (.fq σ rows)
  | .fqs s, K => K (.fqs s)
  | .es, K => K .es
  | .un, K => K .un
  | .nsl, K => K .nsl
  | .fn f c, K => fCaps c fun c => K (.fn f c)
  | .mp id, K => fNat id fun id => K (.mp id)
  | .t2 x y, K => fAV x fun x => fAV y fun y => K (.t2 x y)
  | .t3 x y z, K => fAV x fun x => fAV y fun y => fAV z fun z => K (.t3 x y z)
  | .t4 x y z u, K => fAV x fun x => fAV y fun y => fAV z fun z => fAV u fun u => K (.t4 x y z u)
  | .v x, K => K (.v x)
theorem fAV_eq {α : Type} : ∀ (x : AV) (K : AV → α), fAV x K = K x
  | .any, K => rfl
  | .i k n, K => by simp only [fAV, fK_eq]
  | .b p, K => rfl
  | .d true, K => rfl
  | .d false, K => rfl
  | .s s, K => rfl
  | .ag σ xs, K => by simp only [fAV, fSg_eq]
  | .p id off σ, K => by simp only [fAV, fNat_eq, fSg_eq]
  | .pw id σ, K => by simp only [fAV, fNat_eq, fSg_eq]
  | .np, K => rfl
  | .sl id off len σ, K => by simp only [fAV, fNat_eq, fSg_eq]
  | .ow id len σ e, K => by simp only [fAV, fNat_eq, fSg_eq]
  | .lp id i o σ τ, K => by simp only [fAV, fNat_eq, fSg_eq]
  | .fs σ rows, K => by simp only [fAV, fSg_eq]
  | .fp o σ τ rows, K => by simp only [fAV, fNat_eq, fSg_eq]
  | .fz σ rows, K => by simp only [fAV, fSg_eq]
  | .fstr _, K => rfl
  | .fq σ rows, K => by simp only [fAV, fSg_eq]
  | .fqs _, K => rfl
  | .es, K => rfl
  | .un, K => rfl
  | .nsl, K => rfl
  | .fn f c, K => by simp only [fAV, fCaps_eq]
  | .mp id, K => by simp only [fAV, fNat_eq]
  | .t2 x y, K => by simp only [fAV, fAV_eq x, fAV_eq y]
  | .t3 x y z, K => by simp only [fAV, fAV_eq x, fAV_eq y, fAV_eq z]
  | .t4 x y z u, K => by simp only [fAV, fAV_eq x, fAV_eq y, fAV_eq z, fAV_eq u]
  | .v x, K => rfl

def fL {α : Type} : List AV → (List AV → α) → α
  | [], K => K []
  | x :: l, K => fAV x fun x => fL l fun l => K (x :: l)
theorem fL_eq {α : Type} (l : List AV) (K : List AV → α) : fL l K = K l := by
  induction l generalizing K with
  | nil => rfl
  | cons x l ih => simp only [fL, fAV_eq, ih]

def fBlk {α : Type} : Blk → (Blk → α) → α
  | .dead, K => K .dead
  | .c σ xs, K => fSg σ fun σ => K (.c σ xs)
  | .s l, K => K (.s l)
  | .l σ rows, K => fSg σ fun σ => K (.l σ rows)
  | .rf σ rows, K => fSg σ fun σ => K (.rf σ rows)
  | .r l, K => fL l fun l => K (.r l)
theorem fBlk_eq {α : Type} (b : Blk) (K : Blk → α) : fBlk b K = K b := by cases b <;> simp only [fBlk, fSg_eq, fL_eq]

def fM {α : Type} : List Blk → (List Blk → α) → α
  | [], K => K []
  | x :: l, K => fBlk x fun x => fM l fun l => K (x :: l)
theorem fM_eq {α : Type} (l : List Blk) (K : List Blk → α) : fM l K = K l := by
  induction l generalizing K with
  | nil => rfl
  | cons x l ih => simp only [fM, fBlk_eq, ih]

def fP {α : Type} : List Prop → (List Prop → α) → α
  | [], K => K []
  | x :: l, K => fP l fun l => K (x :: l)
theorem fP_eq {α : Type} (l : List Prop) (K : List Prop → α) : fP l K = K l := by
  induction l generalizing K with
  | nil => rfl
  | cons x l ih => simp only [fP, ih]

structure St where
  fr : List AV
  M : List Blk

end Go.Eng
