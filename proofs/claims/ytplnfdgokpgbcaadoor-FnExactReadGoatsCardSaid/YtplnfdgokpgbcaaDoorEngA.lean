/- The engine, texts 1 2 3 4. No conditions. -/
import Derived.WalkKit
import Derived.Orders
import Derived.ChangeKeysEq
/- The engine, part 1: abstract values, memory and what they stand for. No conditions: definitions and small laws alone. -/
namespace Go.Eng
set_option linter.unusedSectionVars false
open Go Go.RowKit

def lo : IntKind → Int
  | .i8 => -128 | .i16 => -32768 | .i32 => -2147483648 | .i64 => -9223372036854775808
  | .u8 => 0 | .u16 => 0 | .u32 => 0 | .u64 => 0
def hi : IntKind → Int
  | .i8 => 127 | .i16 => 32767 | .i32 => 2147483647 | .i64 => 9223372036854775807
  | .u8 => 255 | .u16 => 65535 | .u32 => 4294967295 | .u64 => 18446744073709551615
def rng (k : IntKind) (n : Int) : Prop := lo k ≤ n ∧ n ≤ hi k

inductive CK where
  | int (k : IntKind)
  | bool
  deriving DecidableEq

def CK.val : CK → Int → Value
  | .int k, n => .int k n
  | .bool, n => .bool (n != 0)
def CK.ok : CK → Int → Prop
  | .int k, n => rng k n
  | .bool, n => n = 0 ∨ n = 1

inductive Sg where
  | i8 | i16 | i32 | i64 | u8 | u16 | u32 | u64 | bool | str | ref
  | spot | row | grid | w10 | pas | tab | gro | goat | hur | b10 | bgrid | l10 | lgrid | two | sp2 | g8r | g8 | flo | none
  deriving DecidableEq

inductive Inf where
  | cell (k : CK)
  | arr (n : Nat) (e : Sg)
  | st (fs : List Sg)
  | str
  | ref

def Sg.inf : Sg → Inf
  | .i8 => .cell (.int .i8) | .i16 => .cell (.int .i16) | .i32 => .cell (.int .i32) | .i64 => .cell (.int .i64)
  | .u8 => .cell (.int .u8) | .u16 => .cell (.int .u16) | .u32 => .cell (.int .u32) | .u64 => .cell (.int .u64)
  | .bool => .cell .bool | .str => .str | .ref => .ref
  | .spot => .st [.i8, .i8]
  | .row => .arr 10 .i16
  | .grid => .arr 10 .row
  | .w10 => .arr 10 .u16
  | .pas => .st [.i8, .i8, .grid, .w10, .w10]
  | .tab => .arr 11 .i8
  | .gro => .st [.tab, .i16]
  | .goat => .st [.spot, .spot, .i16, .i16, .i8]
  | .hur => .st [.spot, .bool]
  | .b10 => .arr 10 .bool
  | .bgrid => .arr 10 .b10
  | .l10 => .arr 10 .i64
  | .lgrid => .arr 10 .l10
  | .two => .arr 2 .i64
  | .sp2 => .arr 2 .spot
  | .g8r => .arr 10 .i8
  | .g8 => .arr 10 .g8r
  | .flo => .st [.g8, .g8]
  | .none => .st []

/-- The kinds of a shape's cells. -/
def Sg.flat : Sg → List CK
  | .i8 => [.int .i8] | .i16 => [.int .i16] | .i32 => [.int .i32] | .i64 => [.int .i64]
  | .u8 => [.int .u8] | .u16 => [.int .u16] | .u32 => [.int .u32] | .u64 => [.int .u64]
  | .bool => [.bool] | .str => [] | .ref => []
  | .spot => [.int .i8, .int .i8]
  | .row => List.replicate 10 (.int .i16)
  | .grid => List.replicate 100 (.int .i16)
  | .w10 => List.replicate 10 (.int .u16)
  | .pas => [.int .i8, .int .i8] ++ List.replicate 100 (.int .i16) ++ List.replicate 20 (.int .u16)
  | .tab => List.replicate 11 (.int .i8)
  | .gro => List.replicate 11 (.int .i8) ++ [.int .i16]
  | .goat => [.int .i8, .int .i8, .int .i8, .int .i8, .int .i16, .int .i16, .int .i8]
  | .hur => [.int .i8, .int .i8, .bool]
  | .b10 => List.replicate 10 .bool
  | .bgrid => List.replicate 100 .bool
  | .l10 => List.replicate 10 (.int .i64)
  | .lgrid => List.replicate 100 (.int .i64)
  | .two => List.replicate 2 (.int .i64)
  | .sp2 => List.replicate 4 (.int .i8)
  | .g8r => List.replicate 10 (.int .i8)
  | .g8 => List.replicate 100 (.int .i8)
  | .flo => List.replicate 200 (.int .i8)
  | .none => []

/-- How many cells a shape has. -/
def Sg.n : Sg → Nat
  | .i8 => 1 | .i16 => 1 | .i32 => 1 | .i64 => 1 | .u8 => 1 | .u16 => 1 | .u32 => 1 | .u64 => 1 | .bool => 1 | .str => 1 | .ref => 1
  | .spot => 2 | .row => 10 | .grid => 100 | .w10 => 10 | .pas => 122 | .tab => 11 | .gro => 12 | .goat => 7 | .hur => 3
  | .b10 => 10 | .bgrid => 100 | .l10 => 10 | .lgrid => 100 | .two => 2 | .sp2 => 4 | .g8r => 10 | .g8 => 100 | .flo => 200 | .none => 0

def sumN : List Sg → Nat
  | [] => 0
  | σ :: l => σ.n + sumN l
def flats : List Sg → List CK
  | [] => []
  | σ :: l => σ.flat ++ flats l
/-- Where field i lies, and its shape. -/
def fldAt : List Sg → Nat → Option (Nat × Sg)
  | [], _ => .none
  | σ :: _, 0 => some (0, σ)
  | σ :: l, i + 1 => match fldAt l i with | some (o, τ) => some (σ.n + o, τ) | .none => .none

def Sg.pure : Sg → Bool
  | .str => false
  | .ref => false
  | _ => true

set_option maxRecDepth 10000 in
theorem Sg.flat_len (σ : Sg) (h : σ.pure = true) : σ.flat.length = σ.n := by cases σ <;> first | rfl | (exact absurd h (by decide))

set_option maxRecDepth 10000 in
theorem Sg.st_flat (σ : Sg) (fs : List Sg) (h : σ.inf = .st fs) : σ.flat = flats fs ∧ σ.n = sumN fs ∧ (∀ τ ∈ fs, τ.pure = true) := by
  cases σ <;> simp only [Sg.inf, Inf.st.injEq, reduceCtorEq] at h <;> subst h <;> exact ⟨rfl, rfl, by decide⟩

def rep {α : Type} : Nat → List α → List α
  | 0, _ => []
  | n + 1, l => l ++ rep n l

set_option maxRecDepth 10000 in
theorem Sg.arr_flat (σ e : Sg) (n : Nat) (h : σ.inf = .arr n e) : σ.flat = rep n e.flat ∧ σ.n = n * e.n ∧ e.pure = true ∧ 0 < e.n := by
  cases σ <;> simp only [Sg.inf, Inf.arr.injEq, reduceCtorEq] at h <;> obtain ⟨rfl, rfl⟩ := h <;> exact ⟨rfl, rfl, rfl, by decide⟩

theorem Sg.cell_flat (σ : Sg) (k : CK) (h : σ.inf = .cell k) : σ.flat = [k] ∧ σ.n = 1 ∧ σ.pure = true := by
  cases σ <;> simp only [Sg.inf, Inf.cell.injEq, reduceCtorEq] at h <;> subst h <;> exact ⟨rfl, rfl, rfl⟩

theorem flats_len (fs : List Sg) (h : ∀ τ ∈ fs, τ.pure = true) : (flats fs).length = sumN fs := by
  induction fs with
  | nil => rfl
  | cons a l ih =>
    simp only [flats, sumN, List.length_append]
    rw [ih (fun τ hτ => h τ (List.mem_cons_of_mem _ hτ)), Sg.flat_len a (h a List.mem_cons_self)]

theorem flats_fld (fs : List Sg) (i o : Nat) (τ : Sg) (hp : ∀ τ ∈ fs, τ.pure = true) (h : fldAt fs i = some (o, τ)) :
    o + τ.n ≤ sumN fs ∧ ∀ j, j < τ.n → (flats fs)[o + j]? = τ.flat[j]? := by
  induction fs generalizing i o with
  | nil => simp [fldAt] at h
  | cons a l ih =>
    have ha := Sg.flat_len a (hp a List.mem_cons_self)
    cases i with
    | zero =>
      simp only [fldAt, Option.some.injEq, Prod.mk.injEq] at h
      obtain ⟨rfl, rfl⟩ := h
      refine ⟨by simp [sumN], fun j hj => ?_⟩
      simp only [flats, Nat.zero_add]
      rw [List.getElem?_append_left (by omega)]
    | succ i =>
      simp only [fldAt] at h
      split at h
      · rename_i o' τ' h'
        simp only [Option.some.injEq, Prod.mk.injEq] at h
        obtain ⟨rfl, rfl⟩ := h
        obtain ⟨h1, h2⟩ := ih i o' (fun τ hτ => hp τ (List.mem_cons_of_mem _ hτ)) h'
        refine ⟨by simp only [sumN]; omega, fun j hj => ?_⟩
        simp only [flats]
        rw [List.getElem?_append_right (by omega), show a.n + o' + j - a.flat.length = o' + j from by omega]
        exact h2 j hj
      · cases h

theorem rep_get {α : Type} (l : List α) (n i j : Nat) (hi : i < n) (hj : j < l.length) : (rep n l)[i * l.length + j]? = l[j]? := by
  induction n generalizing i with
  | zero => omega
  | succ n ih =>
    simp only [rep]
    cases i with
    | zero => rw [Nat.zero_mul, Nat.zero_add, List.getElem?_append_left hj]
    | succ i =>
      rw [List.getElem?_append_right (by rw [Nat.succ_mul]; omega), show (i + 1) * l.length + j - l.length = i * l.length + j from by rw [Nat.succ_mul]; omega]
      exact ih i (by omega)

/-- Where a block lies. -/
structure Loc where
  blk : Nat
  size : Nat
  room : Nat
  σ : Sg
  ty : TypeId

def Loc.kind (l : Loc) (j : Nat) : CK := l.σ.flat.getD (j % l.σ.n) .bool

/-- What is known of the world ever after: of what lies frozen. -/
class Glob where
  G : (Nat → Option Obj) → Prop
  mono : ∀ {F F' : Nat → Option Obj}, (∀ k o, F k = some o → F' k = some o) → G F → G F'
  whole : Bool := false
  tyOf : Sg → TypeId := fun _ => 0
variable [Glob]

/-- Where each block lies, and what lies there frozen. -/
structure Rho where
  loc : Nat → Loc
  F : Nat → Option Obj
  ok : Glob.G F
instance : CoeFun Rho fun _ => Nat → Loc := ⟨Rho.loc⟩
def Rho.le (ρ ρ' : Rho) : Prop := ∀ k o, ρ.F k = some o → ρ'.F k = some o
def Rho.ren (ρ : Rho) (f : Nat → Nat) : Rho := ⟨fun i => ρ (f i), ρ.F, ρ.ok⟩
theorem Rho.le_refl (ρ : Rho) : ρ.le ρ := fun _ _ h => h
theorem Rho.le_trans {ρ ρ1 ρ2 : Rho} (h : ρ.le ρ1) (k : ρ1.le ρ2) : ρ.le ρ2 := fun a o e => k a o (h a o e)

inductive AV where
  | any
  | i (k : IntKind) (n : Int)
  | b (p : Bool)
  | d (p : Bool)
  | s (x : ByteArray)
  | ag (σ : Sg) (xs : List Int)
  | p (id off : Nat) (σ : Sg)
  | pw (id : Nat) (σ : Sg)
  | np
  | sl (id off len : Nat) (σ : Sg)
  | ow (id len : Nat) (σ : Sg) (e : TypeId)
  | lp (id i o : Nat) (σ τ : Sg)
  | rp (id off n : Nat) (t : TypeId)
  | rg (x : AV)
  | fs (σ : Sg) (rows : List (List Int))
  | fp (o : Nat) (σ τ : Sg) (xs : List Int)
  | fz (σ : Sg) (rowss : List (List (List Int)))
  | fstr (l : List ByteArray)
  | fq (σ : Sg) (rows : List (List Int))
  | fqs (s : ByteArray)
  | es
  | un
  | nsl
  | fn (f : FuncId) (caps : List (Nat × Sg))
  | fb (f : FuncId) (σ : Sg) (xs : List Int)
  | mp (id : Nat)
  | t2 (a b : AV)
  | t3 (a b c : AV)
  | t4 (a b c d : AV)
  | v (x : Value)

inductive Blk where
  | dead
  | c (σ : Sg) (xs : List Int)
  | s (l : List ByteArray)
  | l (σ : Sg) (rows : List (List Int))
  | rf (σ : Sg) (rowss : List (List (List Int)))
  | r (l : List AV)
  | m (σ : Sg) (k : CK) (es : List (List Int × Int))

/-- The cells of an aggregate. -/
def cellsV : List CK → List Int → List Value
  | k :: ks, x :: xs => k.val x :: cellsV ks xs
  | _, _ => []
def cellsOk : List CK → List Int → Prop
  | k :: ks, x :: xs => k.ok x ∧ cellsOk ks xs
  | _, _ => True

def PtrOk (l : Loc) (off : Nat) (σ : Sg) : Prop :=
  off + σ.n ≤ l.size ∧ (if σ.pure then l.σ.pure = true ∧ ∀ j, j < σ.n → l.kind (off + j) = σ.flat.getD j .bool else l.σ = σ)

/-- The cells of one row. -/
def rowAt (C : Array Value) (σ : Sg) (o : Nat) (row : List Int) : Prop :=
  row.length = σ.n ∧ ∀ (j : Nat) (y : Int), row[j]? = some y → C[o + j]? = some ((σ.flat.getD j .bool).val y) ∧ (σ.flat.getD j .bool).ok y
/-- The cells of a row of rows. -/
def rowsAt (C : Array Value) (σ : Sg) (o : Nat) (rows : List (List Int)) : Prop :=
  ∀ (i : Nat) (row : List Int), rows[i]? = some row → rowAt C σ (o + i * σ.n) row

/-- Where the world keeps it so: a frozen row is the whole of its block. -/
def FW (σ : Sg) (C : Array Value) (ty : TypeId) (fz : Nat × Nat) (cap o : Nat) : Prop := Glob.whole = true → o = 0 ∧ C.size = cap * σ.n ∧ fz = (0, 0) ∧ cap ≤ maxLen ∧ ty = Glob.tyOf σ
/-- A slice whose elements are frozen. -/
def FS (F : Nat → Option Obj) (σ : Sg) (rows : List (List Int)) (x : Value) : Prop :=
  σ.pure = true ∧ 0 < σ.n ∧ rows.length ≤ maxLen ∧ ∃ a cap, x = .slice a rows.length cap ∧ rows.length ≤ cap ∧ (rows = [] ∨ ∃ k o C ty fz, a = some ⟨k, o, none⟩ ∧ F k = some (.cells C ty fz) ∧ rowsAt C σ o rows ∧ FW σ C ty fz cap o)
def FSS (F : Nat → Option Obj) (σ : Sg) (rowss : List (List (List Int))) (x : Value) : Prop :=
  rowss.length ≤ maxLen ∧ ∃ a cap, x = .slice a rowss.length cap ∧ rowss.length ≤ cap ∧ (rowss = [] ∨ ∃ k o C ty fz, a = some ⟨k, o, none⟩ ∧ F k = some (.cells C ty fz) ∧ (Glob.whole = true → o = 0) ∧ ∀ (j : Nat) rows, rowss[j]? = some rows → ∃ y, C[o + j]? = some y ∧ FS F σ rows y)
def FStr (F : Nat → Option Obj) (l : List ByteArray) (x : Value) : Prop :=
  l.length ≤ maxLen ∧ ∃ a cap, x = .slice a l.length cap ∧ l.length ≤ cap ∧ (l = [] ∨ ∃ k o C ty fz, a = some ⟨k, o, none⟩ ∧ F k = some (.cells C ty fz) ∧ ∀ (j : Nat) s, l[j]? = some s → C[o + j]? = some (.string s) ∧ s.size ≤ maxLen)

theorem FS.mono {F F' : Nat → Option Obj} (h : ∀ k o, F k = some o → F' k = some o) {σ : Sg} {rows : List (List Int)} {x : Value} (hx : FS F σ rows x) : FS F' σ rows x := by
  obtain ⟨h1, h2, h3, a, cap, h4, hc, h5⟩ := hx
  refine ⟨h1, h2, h3, a, cap, h4, hc, h5.imp id ?_⟩
  rintro ⟨k, o, C, ty, fz, g1, g2, g3⟩
  exact ⟨k, o, C, ty, fz, g1, h _ _ g2, g3⟩
theorem FSS.mono {F F' : Nat → Option Obj} (h : ∀ k o, F k = some o → F' k = some o) {σ : Sg} {rowss : List (List (List Int))} {x : Value} (hx : FSS F σ rowss x) : FSS F' σ rowss x := by
  obtain ⟨h3, a, cap, h4, hc, h5⟩ := hx
  refine ⟨h3, a, cap, h4, hc, h5.imp id ?_⟩
  rintro ⟨k, o, C, ty, fz, g1, g2, g4, g3⟩
  exact ⟨k, o, C, ty, fz, g1, h _ _ g2, g4, fun j rows hj => (g3 j rows hj).imp fun y hy => ⟨hy.1, hy.2.mono h⟩⟩
theorem FStr.mono {F F' : Nat → Option Obj} (h : ∀ k o, F k = some o → F' k = some o) {l : List ByteArray} {x : Value} (hx : FStr F l x) : FStr F' l x := by
  obtain ⟨h3, a, cap, h4, hc, h5⟩ := hx
  refine ⟨h3, a, cap, h4, hc, h5.imp id ?_⟩
  rintro ⟨k, o, C, ty, fz, g1, g2, g3⟩
  exact ⟨k, o, C, ty, fz, g1, h _ _ g2, g3⟩

def Den (ρ : Rho) : AV → Value → Prop
  | .any, _ => True
  | .i k n, x => x = .int k n ∧ rng k n
  | .b p, x => x = .bool p
  | .d p, x => x = .bool p
  | .s s, x => x = .string s ∧ s.size ≤ maxLen
  | .ag σ xs, x => x = .agg (cellsV σ.flat xs).toArray ∧ xs.length = σ.n ∧ cellsOk σ.flat xs ∧ σ.pure = true
  | .p id off σ, x => x = .pointer (some ⟨(ρ id).blk, off, none⟩) ∧ PtrOk (ρ id) off σ
  | .pw id σ, x => x = .pointer (some ⟨(ρ id).blk, 0, none⟩) ∧ PtrOk (ρ id) 0 σ ∧ (ρ id).size = σ.n
  | .np, x => x = .pointer none
  | .sl id off len σ, x => ∃ cap, x = .slice (some ⟨(ρ id).blk, off, none⟩) len cap ∧ len ≤ cap ∧ 0 < σ.n ∧ (∀ i, i < len → PtrOk (ρ id) (off + i * σ.n) σ) ∧ off + len * σ.n ≤ (ρ id).size ∧ off + cap * σ.n ≤ (ρ id).room
  | .ow id len σ e, x => ∃ cap, x = .slice (some ⟨(ρ id).blk, 0, none⟩) len cap ∧ len ≤ cap ∧ cap ≤ maxLen ∧ (ρ id).σ = σ ∧ 0 < σ.n ∧ (ρ id).size = len * σ.n ∧ (ρ id).room = cap * σ.n ∧ (ρ id).ty = e
  | .lp id i o σ τ, x => x = .pointer (some ⟨(ρ id).blk, i * σ.n + o, none⟩) ∧ (ρ id).σ = σ ∧ σ.pure = true ∧ τ.pure = true ∧ 0 < τ.n ∧ o + τ.n ≤ σ.n ∧ i * σ.n + σ.n ≤ (ρ id).size ∧ ∀ j, j < τ.n → σ.flat.getD (o + j) .bool = τ.flat.getD j .bool
  | .rp id off n t, x => x = .pointer (some ⟨(ρ id).blk, off, none⟩) ∧ off < n ∧ (ρ id).size = n ∧ (ρ id).σ = .ref ∧ (ρ id).ty = t ∧ (ρ id).room = n
  | .rg y, x => ∃ cs, x = .agg cs ∧ Den ρ y (.tuple cs)
  | .fs σ rows, x => FS ρ.F σ rows x
  | .fp o σ τ xs, x => σ.pure = true ∧ τ.pure = true ∧ 0 < τ.n ∧ o + τ.n ≤ σ.n ∧ (∀ j, j < τ.n → σ.flat.getD (o + j) .bool = τ.flat.getD j .bool) ∧
      ∃ k b C ty fz, x = .pointer (some ⟨k, b + o, none⟩) ∧ ρ.F k = some (.cells C ty fz) ∧ rowAt C σ b xs
  | .fq σ rows, x => ∃ k b C ty fz y, x = .pointer (some ⟨k, b, none⟩) ∧ ρ.F k = some (.cells C ty fz) ∧ C[b]? = some y ∧ FS ρ.F σ rows y
  | .fqs s, x => s.size ≤ maxLen ∧ ∃ k b C ty fz, x = .pointer (some ⟨k, b, none⟩) ∧ ρ.F k = some (.cells C ty fz) ∧ C[b]? = some (.string s)
  | .es, x => ∃ a, x = .slice a 0 0
  | .un, x => x = undef
  | .fz σ rowss, x => FSS ρ.F σ rowss x
  | .fstr l, x => FStr ρ.F l x
  | .nsl, x => x = .slice none 0 0
  | .fn f caps, x => x = .func (.func f) #[] (caps.map fun c => Value.pointer (some ⟨(ρ c.1).blk, 0, none⟩)).toArray ∧ ∀ c ∈ caps, PtrOk (ρ c.1) 0 c.2 ∧ (ρ c.1).size = c.2.n
  | .fb f σ xs, x => x = .func (.func f) #[.agg (cellsV σ.flat xs).toArray] #[] ∧ xs.length = σ.n ∧ cellsOk σ.flat xs ∧ σ.pure = true
  | .mp id, x => x = .map (some (ρ id).blk)
  | .t2 a b, x => ∃ u v, x = .tuple #[u, v] ∧ Den ρ a u ∧ Den ρ b v
  | .t3 a b c, x => ∃ u v w, x = .tuple #[u, v, w] ∧ Den ρ a u ∧ Den ρ b v ∧ Den ρ c w
  | .t4 a b c d, x => ∃ u v w z, x = .tuple #[u, v, w, z] ∧ Den ρ a u ∧ Den ρ b v ∧ Den ρ c w ∧ Den ρ d z
  | .v y, x => x = y

/-- The ids that a value names. -/
def AV.ids : AV → List Nat
  | .p id _ _ => [id]
  | .pw id _ => [id]
  | .sl id _ _ _ => [id]
  | .ow id _ _ _ => [id]
  | .lp id _ _ _ _ => [id]
  | .rp id _ _ _ => [id]
  | .rg x => x.ids
  | .fn _ caps => caps.map (·.1)
  | .mp id => [id]
  | .t2 x y => x.ids ++ y.ids
  | .t3 x y z => x.ids ++ y.ids ++ z.ids
  | .t4 x y z u => x.ids ++ y.ids ++ z.ids ++ u.ids
  | _ => []

theorem Den.congr {ρ ρ' : Rho} (hF : ρ.le ρ') : ∀ {r : AV} {x : Value}, (∀ id ∈ r.ids, ρ' id = ρ id) → Den ρ r x → Den ρ' r x
  | .any, _, _, _ => trivial
  | .i _ _, _, _, h => h
  | .b _, _, _, h => h
  | .d _, _, _, h => h
  | .s _, _, _, h => h
  | .ag _ _, _, _, h => h
  | .p id off σ, x, he, h => by simp only [Den] at *; rw [he id (by simp [AV.ids])]; exact h
  | .pw id σ, x, he, h => by simp only [Den] at *; rw [he id (by simp [AV.ids])]; exact h
  | .np, _, _, h => h
  | .sl id off len σ, x, he, h => by simp only [Den] at *; rw [he id (by simp [AV.ids])]; exact h
  | .ow id len σ e, x, he, h => by simp only [Den] at *; rw [he id (by simp [AV.ids])]; exact h
  | .lp id i o σ τ, x, he, h => by simp only [Den] at *; rw [he id (by simp [AV.ids])]; exact h
  | .rp id off n t, x, he, h => by simp only [Den] at *; rw [he id (by simp [AV.ids])]; exact h
  | .rg y, x, he, h => by
    obtain ⟨cs, hx, h1⟩ := h
    exact ⟨cs, hx, Den.congr hF (fun id hi => he id (by simp only [AV.ids]; exact hi)) h1⟩
  | .fs σ rows, x, he, h => h.mono hF
  | .fp o σ τ xs, x, he, ⟨h1, h2, g1, g2, g3, k, b, C, ty, fz, h3, h4, h5⟩ => ⟨h1, h2, g1, g2, g3, k, b, C, ty, fz, h3, hF _ _ h4, h5⟩
  | .fq σ rows, x, he, ⟨k, b, C, ty, fz, y, h1, h2, h3, h4⟩ => ⟨k, b, C, ty, fz, y, h1, hF _ _ h2, h3, h4.mono hF⟩
  | .fqs s, x, he, ⟨h0, k, b, C, ty, fz, h1, h2, h3⟩ => ⟨h0, k, b, C, ty, fz, h1, hF _ _ h2, h3⟩
  | .es, _, _, h => h
  | .un, _, _, h => h
  | .fz σ rows, x, he, h => h.mono hF
  | .fstr l, x, he, h => h.mono hF
  | .nsl, _, _, h => h
  | .fb _ _ _, _, _, h => h
  | .fn f caps, x, he, h => by
    simp only [Den] at *
    obtain ⟨h1, h2⟩ := h
    have e : ∀ c ∈ caps, ρ' c.1 = ρ c.1 := fun c hc => he c.1 (List.mem_map_of_mem hc)
    refine ⟨?_, fun c hc => by rw [e c hc]; exact h2 c hc⟩
    rw [h1]
    congr 2
    exact List.map_congr_left fun c hc => by rw [e c hc]
  | .mp id, x, he, h => by simp only [Den] at *; rw [he id (by simp [AV.ids])]; exact h
  | .t2 a b, x, he, h => by
    obtain ⟨u, v, hx, h1, h2⟩ := h
    exact ⟨u, v, hx, Den.congr hF (fun id hi => he id (by simp [AV.ids, hi])) h1, Den.congr hF (fun id hi => he id (by simp [AV.ids, hi])) h2⟩
  | .t3 a b c, x, he, h => by
    obtain ⟨u, v, w, hx, h1, h2, h3⟩ := h
    exact ⟨u, v, w, hx, Den.congr hF (fun id hi => he id (by simp [AV.ids, hi])) h1, Den.congr hF (fun id hi => he id (by simp [AV.ids, hi])) h2, Den.congr hF (fun id hi => he id (by simp [AV.ids, hi])) h3⟩
  | .t4 a b c d, x, he, h => by
    obtain ⟨u, v, w, z, hx, h1, h2, h3, h4⟩ := h
    exact ⟨u, v, w, z, hx, Den.congr hF (fun id hi => he id (by simp [AV.ids, hi])) h1, Den.congr hF (fun id hi => he id (by simp [AV.ids, hi])) h2, Den.congr hF (fun id hi => he id (by simp [AV.ids, hi])) h3, Den.congr hF (fun id hi => he id (by simp [AV.ids, hi])) h4⟩
  | .v _, _, _, h => h

/-- The entries of a map from cells. -/
def RM (σ : Sg) (k : CK) : List MapEntry → List (List Int × Int) → Prop
  | [], [] => True
  | x :: A, e :: es => (x.key = .agg (cellsV σ.flat e.1).toArray ∧ x.val = k.val e.2 ∧ e.1.length = σ.n ∧ cellsOk σ.flat e.1 ∧ k.ok e.2) ∧ RM σ k A es
  | _, _ => False

def BRel (ρ : Rho) (l : Loc) (h : Option Obj) : Blk → Prop
  | .dead => True
  | .c σ xs => ∃ C : Array Value, h = some (.cells C l.ty (0, 0)) ∧ C.size = l.room ∧ l.σ = σ ∧ σ.pure = true ∧ 0 < σ.n ∧ xs.length = l.size ∧ l.size ≤ l.room ∧
      ∀ j x, xs[j]? = some x → C[j]? = some ((l.kind j).val x) ∧ (l.kind j).ok x
  | .s ss => ∃ C : Array Value, h = some (.cells C l.ty (0, 0)) ∧ C.size = l.room ∧ l.σ = .str ∧ ss.length = l.size ∧ l.size ≤ l.room ∧
      ∀ (j : Nat) (x : ByteArray), ss[j]? = some x → C[j]? = some (Value.string x) ∧ x.size ≤ maxLen
  | .l σ rows => ∃ C : Array Value, h = some (.cells C l.ty (0, 0)) ∧ C.size = l.room ∧ l.σ = σ ∧ σ.pure = true ∧ 0 < σ.n ∧ rows.length * σ.n = l.size ∧ l.size ≤ l.room ∧ rowsAt C σ 0 rows
  | .rf σ rowss => ∃ C : Array Value, h = some (.cells C l.ty (0, 0)) ∧ C.size = l.room ∧ l.σ = .ref ∧ rowss.length = l.size ∧ l.size ≤ l.room ∧
      ∀ (j : Nat) rows, rowss[j]? = some rows → ∃ y : Value, C[j]? = some y ∧ FS ρ.F σ rows y
  | .r vs => ∃ C : Array Value, h = some (.cells C l.ty (0, 0)) ∧ C.size = l.room ∧ l.σ = .ref ∧ vs.length = l.size ∧ l.size ≤ l.room ∧
      ∀ (j : Nat) (x : AV), vs[j]? = some x → ∃ y : Value, C[j]? = some y ∧ Den ρ x y ∧ y.oneCell' = true
  | .m σ k es => ∃ (A : Array MapEntry) (clock : Nat), h = some (.map A clock) ∧ RM σ k A.toList es

def Blk.live : Blk → Bool
  | .dead => false
  | _ => true

def liveAt (M : List Blk) (id : Nat) : Prop := ∃ b, M[id]? = some b ∧ b.live = true

structure MRel (ρ : Rho) (M : List Blk) (w : World) : Prop where
  blk : ∀ id b, M[id]? = some b → BRel ρ (ρ id) w.heap[(ρ id).blk]? b
  inj : ∀ i j, liveAt M i → liveAt M j → (ρ i).blk = (ρ j).blk → i = j
  cl : ∀ (id : Nat) (vs : List AV), M[id]? = some (.r vs) → ∀ x ∈ vs, ∀ i ∈ x.ids, i < M.length
  env : ∀ k o, ρ.F k = some o → w.heap[k]? = some o ∧ ∀ i, liveAt M i → (ρ i).blk ≠ k

end Go.Eng

/- The engine, part 2: the table of types, and what an operation that leaves memory alone comes to. No conditions. -/
namespace Go.Eng
open Go Go.RowKit

theorem wrap_of_rng {k : IntKind} {n : Int} (h : rng k n) : k.wrap n = n := by
  unfold rng at h
  cases k <;> simp only [lo, hi] at h <;> simp [IntKind.wrap, IntKind.bits, IntKind.signed] <;> (try split) <;> omega

theorem rng_wrap (k : IntKind) (n : Int) : rng k (k.wrap n) := by
  unfold rng
  cases k <;> simp [lo, hi, IntKind.wrap, IntKind.bits, IntKind.signed] <;> (try split) <;> omega

structure Tab where
  sg : TypeId → Sg
  sl : TypeId → Option TypeId
  mp : TypeId → Option (TypeId × TypeId)
  rc : TypeId → Option (List AV) := fun _ => .none
  pt : TypeId → Option TypeId := fun _ => .none
  up : TypeId → Bool := fun _ => false
  ne : FuncId → Bool := fun _ => false

def zeroOk : Sg → Value → Bool
  | σ, .agg cs => σ.pure && (match σ.inf with | .arr _ _ => true | .st _ => true | _ => false) && cs.size == σ.n && (List.range σ.n).all fun j =>
      match σ.flat[j]?, cs[j]? with
      | some (.int k), some (.int k' n) => k == k' && n == 0
      | some .bool, some (.bool b) => !b
      | _, _ => false
  | σ, .int k n => (match σ.inf with | .cell (.int k') => k == k' | _ => false) && n == 0
  | σ, .bool b => (match σ.inf with | .cell .bool => true | _ => false) && !b
  | σ, .string s => (match σ with | .str => true | _ => false) && s.size == 0
  | σ, .slice .none 0 0 => σ == .ref
  | σ, .map .none => σ == .ref
  | σ, .nilFunc => σ == .ref
  | σ, .pointer .none => σ == .ref
  | _, _ => false

def infoOk (P : Program) (σ : Sg) (t : TypeId) : Bool :=
  match P.info? t with
  | some i => i.size == σ.n && (match i.zero with | some z => zeroOk σ z | .none => false) && decide (i.bytes ≤ 4096)
  | .none => false

def fldsOk (Γ : Tab) (gs : Array Field) (fs : List Sg) : Bool :=
  gs.size == fs.length && ((List.range fs.length).all fun i =>
    match gs[i]?, fldAt fs i with
    | some g, some (o, τ) => g.offset == o && Γ.sg g.type == τ && g.name != "_"
    | _, _ => false)

def shapeOk (P : Program) (Γ : Tab) (t : TypeId) : Inf → Option TypeDesc → Bool
  | .cell (.int k), some (.int k') => k == k'
  | .cell .bool, some .bool => true
  | .arr n e, some (.array m t') => n == m && Γ.sg t' == e && !(P.eqGuardType P.depth t)
  | .st fs, some (.struct gs) => fldsOk Γ gs fs && !(P.stoodInHeld t) && !(P.eqGuardType P.depth t)
  | .str, some .string => true
  | .ref, some (.slice _) => true
  | .ref, some (.map _ _) => true
  | .ref, some (.func _ _ _) => true
  | .ref, some (.pointer _) => true
  | _, _ => false

def tyOk (P : Program) (Γ : Tab) (t : TypeId) : Bool := Γ.sg t == .none || (infoOk P (Γ.sg t) t && shapeOk P Γ t (Γ.sg t).inf (P.underlying t))

/-- The zero value of one cell. -/
def zAV : AV → Value → Bool
  | .np, .pointer .none => true
  | .nsl, .slice .none 0 0 => true
  | .i k n, .int k' m => k == k' && n == 0 && m == 0
  | _, _ => false
def oneT (P : Program) (t : TypeId) : Bool := match P.info? t with | some k => k.size == 1 | .none => false
/-- A struct of single cells, with its zero value. -/
def recOk (P : Program) (t : TypeId) (zs : List AV) : Bool :=
  (decide (0 < zs.length) && liesAt P P.depth t (zs.length / P.cellsOf t) 0 t 1) &&
  (match P.info? t with
    | some i => i.size == zs.length && (match i.zero with
      | some (.agg cs) => cs.size == zs.length && (List.range zs.length).all fun j => match zs[j]?, cs[j]? with
        | some a, some v => zAV a v
        | _, _ => false
      | _ => false)
    | .none => false) &&
  (match P.underlying t with
    | some (.struct gs) => gs.size == zs.length && (List.range zs.length).all fun j => match gs[j]? with
      | some g => g.offset == j && oneT P g.type
      | .none => false
    | _ => false)

structure TabOk (P : Program) (Γ : Tab) : Prop where
  ty : ∀ t, tyOk P Γ t = true
  sl : ∀ t e, Γ.sl t = some e → P.underlying t = some (.slice e)
  mixed : P.follows .mixedOrders = true
  mp : ∀ t k e, Γ.mp t = some (k, e) → P.underlying t = some (.map k e) ∧ (Γ.sg k = .spot ∨ Γ.sg k = .sp2)
  rc : ∀ t zs, Γ.rc t = some zs → recOk P t zs = true
  up : ∀ t, Γ.up t = true → P.underlying t = some .unsafePointer
  ne : ∀ f, Γ.ne f = true → ∀ (x : Value) (w : World), (callFunc f #[x]).run P w = .ok (.value x) w
  pt : ∀ t e, Γ.pt t = some e → P.underlying t = some (.pointer e) ∧ ∃ i, P.info? e = some i ∧ i.size ≠ 0


/-! ## What the table tells -/
variable {P : Program} {Γ : Tab}

theorem TabOk.two (H : TabOk P Γ) {t : TypeId} {σ : Sg} (h : Γ.sg t = σ) (hn : σ ≠ .none) : infoOk P σ t = true ∧ shapeOk P Γ t σ.inf (P.underlying t) = true := by
  have hh := H.ty t
  unfold tyOk at hh
  rw [h] at hh
  simp only [Bool.or_eq_true, Bool.and_eq_true, beq_iff_eq] at hh
  exact hh.resolve_left hn

theorem TabOk.parts5 (H : TabOk P Γ) {t : TypeId} {σ : Sg} (h : Γ.sg t = σ) (hn : σ ≠ .none) :
    ∃ i z, P.info? t = some i ∧ i.size = σ.n ∧ i.zero = some z ∧ zeroOk σ z = true ∧ i.bytes ≤ 4096 := by
  have h1 := (H.two h hn).1
  unfold infoOk at h1
  split at h1
  · rename_i i hi
    simp only [Bool.and_eq_true, beq_iff_eq, decide_eq_true_eq] at h1
    obtain ⟨⟨h1, h2⟩, h3⟩ := h1
    split at h2
    · rename_i z hz
      exact ⟨i, z, hi, h1, hz, h2, h3⟩
    · cases h2
  · cases h1

theorem TabOk.parts (H : TabOk P Γ) {t : TypeId} {σ : Sg} (h : Γ.sg t = σ) (hn : σ ≠ .none) :
    ∃ i z, P.info? t = some i ∧ i.size = σ.n ∧ i.zero = some z ∧ zeroOk σ z = true := by
  obtain ⟨i, z, h1, h2, h3, h4, -⟩ := H.parts5 h hn
  exact ⟨i, z, h1, h2, h3, h4⟩

theorem inf_ne {σ : Sg} (h : σ.inf ≠ .st []) : σ ≠ .none := by rintro rfl; exact h rfl

theorem TabOk.cell (H : TabOk P Γ) {t : TypeId} {σ : Sg} {k : CK} (h : Γ.sg t = σ) (hc : σ.inf = .cell k) :
    P.underlying t = some (match k with | .int k => .int k | .bool => .bool) := by
  have h1 := (H.two h (inf_ne (by rw [hc]; simp))).2
  rw [hc] at h1
  cases hu : P.underlying t with
  | none => rw [hu] at h1; cases k <;> cases h1
  | some d => rw [hu] at h1; cases k <;> cases d <;> simp_all [shapeOk]

theorem TabOk.arr (H : TabOk P Γ) {t : TypeId} {σ e : Sg} {n : Nat} (h : Γ.sg t = σ) (hc : σ.inf = .arr n e) :
    ∃ t', P.underlying t = some (.array n t') ∧ Γ.sg t' = e ∧ P.eqGuardType P.depth t = false := by
  have h1 := (H.two h (inf_ne (by rw [hc]; simp))).2
  rw [hc] at h1
  cases hu : P.underlying t with
  | none => rw [hu] at h1; cases h1
  | some d => rw [hu] at h1; cases d <;> simp_all [shapeOk]

theorem TabOk.st (H : TabOk P Γ) {t : TypeId} {σ : Sg} {fs : List Sg} (h : Γ.sg t = σ) (hn : σ ≠ .none) (hc : σ.inf = .st fs) :
    ∃ gs, P.underlying t = some (.struct gs) ∧ fldsOk Γ gs fs = true ∧ P.stoodInHeld t = false ∧ P.eqGuardType P.depth t = false := by
  have h1 := (H.two h hn).2
  rw [hc] at h1
  cases hu : P.underlying t with
  | none => rw [hu] at h1; cases h1
  | some d => rw [hu] at h1; cases d <;> simp_all [shapeOk]

theorem TabOk.str (H : TabOk P Γ) {t : TypeId} (h : Γ.sg t = .str) : P.underlying t = some .string := by
  have h1 := (H.two h (by decide)).2
  cases hu : P.underlying t with
  | none => rw [hu] at h1; cases h1
  | some d => rw [hu] at h1; cases d <;> simp_all [shapeOk, Sg.inf]

theorem TabOk.rcP (H : TabOk P Γ) {t : TypeId} {zs : List AV} (h : Γ.rc t = some zs) :
    (0 < zs.length ∧ liesAt P P.depth t (zs.length / P.cellsOf t) 0 t 1 = true) ∧ (∃ i cs, P.info? t = some i ∧ i.size = zs.length ∧ i.zero = some (.agg cs) ∧ cs.size = zs.length ∧ ∀ (j : Nat) a, zs[j]? = some a → ∃ v, cs[j]? = some v ∧ zAV a v = true) ∧
    ∃ gs, P.underlying t = some (.struct gs) ∧ ∀ j, j < zs.length → ∃ (g : Field) (k : TypeInfo), gs[j]? = some g ∧ g.offset = j ∧ P.info? g.type = some k ∧ k.size = 1 := by
  have h1 := H.rc t zs h
  unfold recOk at h1
  simp only [Bool.and_eq_true, decide_eq_true_eq] at h1
  obtain ⟨⟨h0, h1⟩, h2⟩ := h1
  refine ⟨h0, ?_, ?_⟩
  · split at h1
    · rename_i i hi
      simp only [Bool.and_eq_true, beq_iff_eq] at h1
      obtain ⟨h3, h1⟩ := h1
      split at h1
      · rename_i cs hz
        simp only [Bool.and_eq_true, beq_iff_eq, List.all_eq_true, List.mem_range] at h1
        refine ⟨i, cs, hi, h3, hz, h1.1, fun j a ha => ?_⟩
        have h4 := h1.2 j (List.getElem?_eq_some_iff.1 ha).1
        rw [ha] at h4
        split at h4
        · rename_i a' v e1 e2
          cases e1
          exact ⟨v, e2, h4⟩
        · cases h4
      · cases h1
    · cases h1
  · split at h2
    · rename_i gs hu
      simp only [Bool.and_eq_true, beq_iff_eq, List.all_eq_true, List.mem_range] at h2
      refine ⟨gs, hu, fun j hj => ?_⟩
      have h4 := h2.2 j hj
      split at h4
      · rename_i g hg
        unfold oneT at h4
        simp only [Bool.and_eq_true, beq_iff_eq] at h4
        obtain ⟨h5, h6⟩ := h4
        split at h6
        · rename_i k hk
          exact ⟨g, k, hg, h5, hk, by simpa using h6⟩
        · cases h6
      · cases h4
    · cases h2

/-- Not an aggregate. -/
theorem TabOk.refs (H : TabOk P Γ) {t : TypeId} (h : Γ.sg t = .ref) : ∃ d, P.underlying t = some d ∧ (match d with | .struct _ | .array _ _ => true | _ => false) = false := by
  have h1 := (H.two h (by decide)).2
  cases hu : P.underlying t with
  | none => rw [hu] at h1; cases h1
  | some d => rw [hu] at h1; exact ⟨d, rfl, by cases d <;> simp_all [shapeOk, Sg.inf]⟩

theorem fldsOk_at {gs : Array Field} {fs : List Sg} (h : fldsOk Γ gs fs = true) {i o : Nat} {τ : Sg} (hf : fldAt fs i = some (o, τ)) :
    ∃ g, gs[i]? = some g ∧ g.offset = o ∧ Γ.sg g.type = τ ∧ g.name ≠ "_" := by
  unfold fldsOk at h
  simp only [Bool.and_eq_true, beq_iff_eq, List.all_eq_true, List.mem_range] at h
  obtain ⟨-, h⟩ := h
  have hi : i < fs.length := by
    clear h
    induction fs generalizing i o τ with
    | nil => simp [fldAt] at hf
    | cons a l ih =>
      cases i with
      | zero => simp
      | succ i =>
        simp only [fldAt] at hf
        split at hf
        · rename_i o' τ' h'
          have := ih h'
          simp; omega
        · cases hf
  have h2 := h i hi
  rw [hf] at h2
  split at h2
  · rename_i g o' τ' hg e
    cases e
    simp only [Bool.and_eq_true, beq_iff_eq, bne_iff_ne, ne_eq] at h2
    exact ⟨g, hg, h2.1.1, h2.1.2, h2.2⟩
  · cases h2

end Go.Eng

/- The engine, part 3: operands, loads, addresses. No conditions. -/
namespace Go.Eng
open Go Go.RowKit
set_option linter.unusedSectionVars false
variable [Glob]
variable {P : Program} {Γ : Tab}

theorem run_ti {t : TypeId} {i : TypeInfo} (h : P.info? t = some i) (w : World) : (typeInfo t).run P w = .ok i w := by unfold typeInfo; simp [h]

theorem run_so {t : TypeId} {i : TypeInfo} {n : Nat} (h : P.info? t = some i) (hn : i.size = n) (w : World) : (sizeOf t).run P w = .ok n w := by
  unfold sizeOf; simp [run_ti h, hn]

structure FRel (ρ : Rho) (n : Nat) (fr : List AV) (a : Act) : Prop where
  size : a.tmps.size = fr.length
  den : ∀ t, Den ρ (fr.getD t .any) (a.tmps.getD t undef)
  ids : ∀ t, ∀ i ∈ (fr.getD t .any).ids, i < n

def constAV : Value → AV
  | .int k n => if lo k ≤ n ∧ n ≤ hi k then .i k n else .any
  | .bool b => .d b
  | .string s => if s.size ≤ maxLen then .s s else .any
  | .pointer .none => .np
  | .slice .none 0 0 => .nsl
  | .func (.func f) ⟨[]⟩ ⟨[]⟩ => .fn f []
  | _ => .any

def evA (fr : List AV) : Operand → AV
  | .tmp t => fr.getD t .any
  | .const v => constAV v
  | .func f => .fn f []
  | .global _ => .any

theorem den_const (ρ : Rho) (v : Value) : Den ρ (constAV v) v := by
  unfold constAV
  split
  · split
    · exact ⟨rfl, by assumption⟩
    · trivial
  · rfl
  · split
    · exact ⟨rfl, by assumption⟩
    · trivial
  · rfl
  · rfl
  · exact ⟨rfl, by simp⟩
  · trivial

theorem den_op {ρ : Rho} {n : Nat} {fr : List AV} {a : Act} (h : FRel ρ n fr a) (x : Operand) : Den ρ (evA fr x) (a.eval x) := by
  cases x with
  | tmp t => exact h.den t
  | const v => exact den_const ρ v
  | func f => exact ⟨rfl, by simp⟩
  | global g => trivial

theorem ids_const (v : Value) : (constAV v).ids = [] := by
  unfold constAV
  split <;> (try split) <;> rfl

theorem ids_op {ρ : Rho} {n : Nat} {fr : List AV} {a : Act} (h : FRel ρ n fr a) (x : Operand) : ∀ i ∈ (evA fr x).ids, i < n := by
  cases x with
  | tmp t => exact h.ids t
  | const v => simp only [evA, ids_const]; simp
  | func f => simp [evA, AV.ids]
  | global g => simp [evA, AV.ids]

/-- One cell as a value. -/
def cellAV : CK → Int → AV
  | .int k, n => .i k n
  | .bool, n => .b (n != 0)

theorem den_cell (ρ : Rho) {k : CK} {n : Int} (h : k.ok n) : Den ρ (cellAV k n) (k.val n) := by
  cases k with
  | int k => exact ⟨rfl, h⟩
  | bool => rfl

/-- A run of cells of a block reads as told. -/
theorem cells_row {l : Loc} {C : Array Value} {xs : List Int} (hx : ∀ j x, xs[j]? = some x → C[j]? = some ((l.kind j).val x) ∧ (l.kind j).ok x) :
    ∀ (ks : List CK) (off : Nat), off + ks.length ≤ xs.length → (∀ j, j < ks.length → l.kind (off + j) = ks.getD j .bool) →
      (∀ j v, (cellsV ks ((xs.drop off).take ks.length))[j]? = some v → C[off + j]? = some v) ∧
      (cellsV ks ((xs.drop off).take ks.length)).length = ks.length ∧ cellsOk ks ((xs.drop off).take ks.length) ∧ ((xs.drop off).take ks.length).length = ks.length := by
  intro ks
  induction ks with
  | nil => intro off _ _; exact ⟨by simp [cellsV], rfl, trivial, by simp⟩
  | cons k ks ih =>
    intro off hl hk
    have hoff : off < xs.length := by simp at hl; omega
    have e : (xs.drop off).take (k :: ks).length = xs[off] :: (xs.drop (off + 1)).take ks.length := by
      rw [List.drop_eq_getElem_cons hoff]; rfl
    obtain ⟨i1, i2, i3, i4⟩ := ih (off + 1) (by simp at hl; omega) (fun j hj => by
      have := hk (j + 1) (by simp; omega)
      rw [show off + 1 + j = off + (j + 1) from by omega, this]; rfl)
    have h0 := hx off xs[off] (List.getElem?_eq_getElem hoff)
    have hk0 : l.kind off = k := by have := hk 0 (by simp); simpa using this
    rw [hk0] at h0
    rw [e]
    refine ⟨fun j v hv => ?_, by simp only [cellsV, List.length_cons]; rw [i2], ⟨h0.2, i3⟩, by simp only [List.length_cons]; rw [i4]⟩
    cases j with
    | zero => simp only [cellsV, List.getElem?_cons_zero, Option.some.injEq] at hv; rw [Nat.add_zero, ← hv]; exact h0.1
    | succ j =>
      simp only [cellsV, List.getElem?_cons_succ] at hv
      rw [show off + (j + 1) = off + 1 + j from by omega]
      exact i1 j v hv

/-- The load of a variable of shape σ. -/
def loadAV (M : List Blk) (id off : Nat) (σ : Sg) : Option AV :=
  match M[id]? with
  | some (.c _ xs) => match σ.inf with
    | .cell k => some (cellAV k (xs.getD off 0))
    | .arr _ _ => some (.ag σ ((xs.drop off).take σ.n))
    | .st _ => some (.ag σ ((xs.drop off).take σ.n))
    | _ => .none
  | some (.s ss) => match σ with
    | .str => some (.s (ss.getD off ByteArray.empty))
    | _ => .none
  | some (.rf σ' rowss) => match σ with
    | .ref => some (.fs σ' (rowss.getD off []))
    | _ => .none
  | some (.r vs) => match σ with
    | .ref => some (vs.getD off .any)
    | _ => .none
  | _ => .none

theorem kind_val_one (k : CK) (n : Int) : (k.val n).oneCell' = true := by cases k <;> rfl

theorem run_load_c {w : World} {b o : Nat} {C : Array Value} {ty : TypeId} {fz : Nat × Nat} {v : Value} (hb : w.heap[b]? = some (.cells C ty fz)) (hc : C[o]? = some v) :
    w.cell? ⟨b, o, none⟩ = some v := by rw [cell_of_row w b o C ty fz hb]; exact hc

theorem load_sound (H : TabOk P Γ) {ρ : Rho} {M : List Blk} {w : World} (hM : MRel ρ M w) {t : TypeId} {id off : Nat} {σ : Sg} {r : AV}
    (ht : Γ.sg t = σ) (hn : σ ≠ .none) (hp : PtrOk (ρ id) off σ) (h : loadAV M id off σ = some r) :
    ∃ v, Den ρ r v ∧ (loadVar t ⟨(ρ id).blk, off, none⟩).run P w = .ok v w := by
  unfold loadAV at h
  obtain ⟨hp1, hp2⟩ := hp
  split at h
  · rename_i τ xs hid
    obtain ⟨C, hb, hC, hσ, hpu, hn0, hlen, hroom, hx⟩ := hM.blk id _ hid
    have agg : σ.pure = true → (∃ d, P.underlying t = some d ∧ (match d with | .struct _ | .array _ _ => true | _ => false) = true) →
        ∃ v, Den ρ (.ag σ ((xs.drop off).take σ.n)) v ∧ (loadVar t ⟨(ρ id).blk, off, none⟩).run P w = .ok v w := by
      intro hpure hd
      obtain ⟨d, hu, hd⟩ := hd
      obtain ⟨i, z, hi, hsz, -, -⟩ := H.parts ht hn
      have hfl := Sg.flat_len σ hpure
      rw [if_pos hpure] at hp2
      obtain ⟨c1, c2, c3, c4⟩ := cells_row hx σ.flat off (by rw [hfl]; omega) (by rw [hfl]; exact hp2.2)
      rw [hfl] at c1 c2 c3 c4
      refine ⟨_, ⟨rfl, c4, c3, hpure⟩, ?_⟩
      have hag : (isAgg t).run P w = .ok true w := by
        unfold isAgg
        simp only [Sem.run_bind, run_underlying hu, Result.andThen_ok]
        cases d <;> first | rfl | cases hd
      have hso : (sizeOf t).run P w = .ok σ.n w := run_so hi hsz w
      have hl := run_loadCells_list (P := P) w ⟨(ρ id).blk, off, none⟩ (cellsV σ.flat ((xs.drop off).take σ.n)) (fun j v hv => by
        have : (⟨(ρ id).blk, off, none⟩ : Addr).add j = ⟨(ρ id).blk, off + j, none⟩ := by
          unfold Addr.add; split <;> simp_all
        rw [this]
        exact run_load_c hb (c1 j v hv))
      rw [c2] at hl
      unfold loadVar
      simp only [Sem.run_bind, hag, Result.andThen_ok, if_true, hso, hl, Sem.run_pure]
    split at h
    · rename_i k hinf
      cases h
      obtain ⟨f1, f2, f3⟩ := Sg.cell_flat σ k hinf
      rw [if_pos f3, f2, f1] at hp2
      have hk := hp2.2 0 (by omega)
      simp only [Nat.add_zero, List.getD_cons_zero] at hk
      have hlt : off < xs.length := by omega
      have h0 := hx off xs[off] (List.getElem?_eq_getElem hlt)
      rw [hk] at h0
      have hu := H.cell ht hinf
      refine ⟨k.val xs[off], ?_, ?_⟩
      · rw [List.getD_eq_getElem?_getD, List.getElem?_eq_getElem hlt]; exact den_cell ρ h0.2
      · have hag : (isAgg t).run P w = .ok false w := by
          unfold isAgg
          simp only [Sem.run_bind, run_underlying hu, Result.andThen_ok]
          cases k <;> rfl
        unfold loadVar
        simp only [Sem.run_bind, hag, Result.andThen_ok]
        simp [run_load, run_load_c hb h0.1]
    · rename_i hinf
      cases h
      obtain ⟨t', hu, -, -⟩ := H.arr ht hinf
      obtain ⟨-, -, -, -⟩ := Sg.arr_flat σ _ _ hinf
      exact agg (by cases σ <;> first | rfl | cases hinf) ⟨_, hu, rfl⟩
    · rename_i hinf
      cases h
      obtain ⟨gs, hu, -, -, -⟩ := H.st ht hn hinf
      exact agg (by cases σ <;> first | rfl | cases hinf) ⟨_, hu, rfl⟩
    · cases h
  · rename_i ss hid
    obtain ⟨C, hb, hC, hσ, hlen, hroom, hx⟩ := hM.blk id _ hid
    split at h
    · cases h
      have hlt : off < ss.length := by simp [Sg.n] at hp1; omega
      have h0 := hx off ss[off] (List.getElem?_eq_getElem hlt)
      refine ⟨.string ss[off], ?_, ?_⟩
      · rw [List.getD_eq_getElem?_getD, List.getElem?_eq_getElem hlt]; exact ⟨rfl, h0.2⟩
      · have hu := H.str ht
        have hag : (isAgg t).run P w = .ok false w := by
          unfold isAgg
          simp only [Sem.run_bind, run_underlying hu, Result.andThen_ok]
          rfl
        unfold loadVar
        simp only [Sem.run_bind, hag, Result.andThen_ok]
        simp [run_load, run_load_c hb h0.1]
    · cases h
  · rename_i σ' rowss hid
    obtain ⟨C, hb, hC, hσ, hlen, hroom, hx⟩ := hM.blk id _ hid
    split at h
    · cases h
      have hlt : off < rowss.length := by simp [Sg.n] at hp1; omega
      obtain ⟨y, hy1, hy2⟩ := hx off rowss[off] (List.getElem?_eq_getElem hlt)
      refine ⟨y, ?_, ?_⟩
      · rw [List.getD_eq_getElem?_getD, List.getElem?_eq_getElem hlt]; exact hy2
      · obtain ⟨d, hu, hd⟩ := H.refs ht
        have hag : (isAgg t).run P w = .ok false w := by
          unfold isAgg
          simp only [Sem.run_bind, run_underlying hu, Result.andThen_ok]
          cases d <;> first | rfl | cases hd
        unfold loadVar
        simp only [Sem.run_bind, hag, Result.andThen_ok]
        simp [run_load, run_load_c hb hy1]
    · cases h
  · rename_i vs hid
    obtain ⟨C, hb, hC, hσ, hlen, hroom, hx⟩ := hM.blk id _ hid
    split at h
    · cases h
      have hlt : off < vs.length := by simp [Sg.n] at hp1; omega
      obtain ⟨y, hy1, hy2, hy3⟩ := hx off vs[off] (List.getElem?_eq_getElem hlt)
      refine ⟨y, ?_, ?_⟩
      · rw [List.getD_eq_getElem?_getD, List.getElem?_eq_getElem hlt]; exact hy2
      · obtain ⟨d, hu, hd⟩ := H.refs ht
        have hag : (isAgg t).run P w = .ok false w := by
          unfold isAgg
          simp only [Sem.run_bind, run_underlying hu, Result.andThen_ok]
          cases d <;> first | rfl | cases hd
        unfold loadVar
        simp only [Sem.run_bind, hag, Result.andThen_ok]
        simp [run_load, run_load_c hb hy1]
    · cases h
  · cases h


/-- The load of a whole block. -/
def loadW (M : List Blk) (id : Nat) (σ : Sg) : Option AV :=
  match M[id]? with
  | some (.c _ xs) => match σ.inf with
    | .cell k => match xs with
      | [x] => some (cellAV k x)
      | _ => .none
    | .arr _ _ => some (.ag σ xs)
    | .st _ => some (.ag σ xs)
    | _ => .none
  | some (.s ss) => match σ, ss with
    | .str, [s] => some (.s s)
    | _, _ => .none
  | some (.r vs) => match σ, vs with
    | .ref, [v] => some v
    | _, _ => .none
  | _ => .none

theorem loadW_eq {ρ : Rho} {M : List Blk} {w : World} (hM : MRel ρ M w) {id : Nat} {σ : Sg} {r : AV} (hs : (ρ id).size = σ.n) (h : loadW M id σ = some r) : loadAV M id 0 σ = some r := by
  unfold loadW at h
  unfold loadAV
  split at h
  · rename_i τ xs hid
    rw [hid]
    dsimp only
    obtain ⟨C, hb, hC, hσ, hpu, hn0, hlen, hroom, hx⟩ := hM.blk id _ hid
    have hl : xs.length = σ.n := by omega
    have e : (xs.drop 0).take σ.n = xs := by rw [List.drop_zero, ← hl, List.take_length]
    split at h
    · rename_i k hinf
      split at h
      · cases h; rfl
      · cases h
    · rename_i n e' hinf
      rw [e]; exact h
    · rename_i fs hinf
      rw [e]; exact h
    · cases h
  · rename_i ss hid
    rw [hid]
    dsimp only
    split at h
    · cases h; rfl
    · cases h
  · rename_i vs hid
    rw [hid]
    dsimp only
    split at h
    · cases h; rfl
    · cases h
  · cases h

theorem load_ids {ρ : Rho} {M : List Blk} {w : World} (hM : MRel ρ M w) {id off : Nat} {σ : Sg} {r : AV} (h : loadAV M id off σ = some r) : ∀ i ∈ r.ids, i < M.length := by
  unfold loadAV at h
  split at h
  · split at h
    · cases h; rename_i k _; cases k <;> simp [cellAV, AV.ids]
    · cases h; simp [AV.ids]
    · cases h; simp [AV.ids]
    · cases h
  · split at h
    · cases h; simp [AV.ids]
    · cases h
  · split at h
    · cases h; simp [AV.ids]
    · cases h
  · rename_i vs hid
    split at h
    · cases h
      rw [List.getD_eq_getElem?_getD]
      cases hv : vs[off]? with
      | none => simp [AV.ids]
      | some x => exact hM.cl _ _ hid x (List.mem_of_getElem? hv)
    · cases h
  · cases h

end Go.Eng

/- The engine, part 4: new blocks and stores. No conditions. -/
namespace Go.Eng
open Go Go.RowKit
set_option linter.unusedSectionVars false
variable [Glob]
variable {P : Program} {Γ : Tab}

/-- What a piece of a run does to memory. -/
structure After (ρ : Rho) (M M' : List Blk) (w w' : World) (ρ' : Rho) : Prop where
  ext : ∀ id, id < M.length → ρ' id = ρ id
  rel : MRel ρ' M' w'
  len : M.length ≤ M'.length
  dead : ∀ id, id < M.length → liveAt M' id → liveAt M id
  fresh : ∀ id, M.length ≤ id → liveAt M' id → w.heap.size ≤ (ρ' id).blk ∨ ∃ i, i < M.length ∧ liveAt M i ∧ (ρ' id).blk = (ρ i).blk
  frame : ∀ b, b < w.heap.size → (∀ id, liveAt M id → (ρ id).blk ≠ b) → w'.heap[b]? = w.heap[b]?
  os : w'.os = w.os
  tape : w'.tape = w.tape
  output : w'.output = w.output
  size : w.heap.size ≤ w'.heap.size
  fmono : ρ.le ρ'
  fnew : ∀ k o, ρ'.F k = some o → ρ.F k = some o ∨ w.heap.size ≤ k ∨ ∃ i, liveAt M i ∧ (ρ i).blk = k

theorem liveAt.lt {M : List Blk} {id : Nat} (h : liveAt M id) : id < M.length := by
  obtain ⟨b, hb, -⟩ := h
  exact (List.getElem?_eq_some_iff.1 hb).1

theorem MRel.blk_lt {ρ : Rho} {M : List Blk} {w : World} (h : MRel ρ M w) {id : Nat} (hl : liveAt M id) : (ρ id).blk < w.heap.size := by
  obtain ⟨b, hb, hlv⟩ := hl
  have := h.blk id b hb
  have key : ∀ o, w.heap[(ρ id).blk]? = some o → (ρ id).blk < w.heap.size := fun o ho => (Array.getElem?_eq_some_iff.1 ho).1
  cases b with
  | dead => cases hlv
  | c σ xs => obtain ⟨C, hb, -⟩ := this; exact key _ hb
  | s ss => obtain ⟨C, hb, -⟩ := this; exact key _ hb
  | l σ rows => obtain ⟨C, hb, -⟩ := this; exact key _ hb
  | rf σ rows => obtain ⟨C, hb, -⟩ := this; exact key _ hb
  | r vs => obtain ⟨C, hb, -⟩ := this; exact key _ hb
  | m k es => obtain ⟨A, c, hb, -⟩ := this; exact key _ hb

theorem After.refl {ρ : Rho} {M : List Blk} {w : World} (h : MRel ρ M w) : After ρ M M w w ρ :=
  ⟨fun _ _ => rfl, h, Nat.le_refl _, fun _ _ h => h, fun id hid hl => by have := hl.lt; omega, fun _ _ _ => rfl, rfl, rfl, rfl, Nat.le_refl _, ρ.le_refl, fun _ _ h => .inl h⟩

theorem After.trans {ρ ρ1 ρ2 : Rho} {M M1 M2 : List Blk} {w w1 w2 : World} (h : After ρ M M1 w w1 ρ1) (k : After ρ1 M1 M2 w1 w2 ρ2) : After ρ M M2 w w2 ρ2 where
  ext := fun id hid => (k.ext id (by have := h.len; omega)).trans (h.ext id hid)
  rel := k.rel
  len := Nat.le_trans h.len k.len
  dead := fun id hid hl => h.dead id hid (k.dead id (by have := h.len; omega) hl)
  fresh := fun id hid hl => by
    have hold : ∀ i, i < M1.length → liveAt M1 i → w.heap.size ≤ (ρ1 i).blk ∨ ∃ j, j < M.length ∧ liveAt M j ∧ (ρ1 i).blk = (ρ j).blk := by
      intro i hi hl1
      by_cases hlt : i < M.length
      · exact .inr ⟨i, hlt, h.dead i hlt hl1, by rw [h.ext i hlt]⟩
      · exact h.fresh i (by omega) hl1
    by_cases hlt : id < M1.length
    · rw [k.ext id hlt]
      exact hold id hlt (k.dead id hlt hl)
    · rcases k.fresh id (by omega) hl with h1 | ⟨i, hi, hl1, he⟩
      · exact .inl (Nat.le_trans h.size h1)
      · rw [he]; exact hold i hi hl1
  frame := fun b hb hn => by
    rw [k.frame b (Nat.lt_of_lt_of_le hb h.size) ?_, h.frame b hb hn]
    intro id hl e
    by_cases hlt : id < M.length
    · rw [h.ext id hlt] at e
      exact hn id (h.dead id hlt hl) e
    · rcases h.fresh id (by omega) hl with h1 | ⟨i, hi, hl1, he⟩
      · omega
      · exact hn i hl1 (by rw [← he]; exact e)
  os := k.os.trans h.os
  tape := k.tape.trans h.tape
  output := k.output.trans h.output
  size := Nat.le_trans h.size k.size
  fmono := Rho.le_trans h.fmono k.fmono
  fnew := fun b o hb => by
    rcases k.fnew b o hb with h1 | h1 | ⟨i, h1, h2⟩
    · exact h.fnew b o h1
    · exact .inr (.inl (Nat.le_trans h.size h1))
    · by_cases hlt : i < M.length
      · rw [h.ext i hlt] at h2
        exact .inr (.inr ⟨i, h.dead i hlt h1, h2⟩)
      · rcases h.fresh i (by omega) h1 with h3 | ⟨j, _, h3, h4⟩
        · exact .inr (.inl (h2 ▸ h3))
        · exact .inr (.inr ⟨j, h3, by rw [← h4, h2]⟩)

theorem BRel.congr {ρ ρ' : Rho} (hF : ρ.le ρ') {l : Loc} {h : Option Obj} {b : Blk} (hb : BRel ρ l h b) (hr : ∀ vs, b = .r vs → ∀ x ∈ vs, ∀ id ∈ x.ids, ρ' id = ρ id) : BRel ρ' l h b := by
  cases b with
  | dead => trivial
  | c σ xs => exact hb
  | s ss => exact hb
  | l σ rows => exact hb
  | m k es => exact hb
  | rf σ rows =>
    obtain ⟨C, h1, h2, h3, h4, h5, h6⟩ := hb
    exact ⟨C, h1, h2, h3, h4, h5, fun j rows hj => (h6 j rows hj).imp fun y hy => ⟨hy.1, hy.2.mono hF⟩⟩
  | r vs =>
    obtain ⟨C, h1, h2, h3, h4, h5, h6⟩ := hb
    refine ⟨C, h1, h2, h3, h4, h5, fun j x hx => ?_⟩
    obtain ⟨y, hy1, hy2, hy3⟩ := h6 j x hx
    exact ⟨y, hy1, hy2.congr hF (hr vs rfl x (List.mem_of_getElem? hx)), hy3⟩


/-- ρ with one more place. -/
def up (ρ : Rho) (n : Nat) (l : Loc) : Rho := ⟨fun i => if i = n then l else ρ i, ρ.F, ρ.ok⟩

theorem up_old {ρ : Rho} {n : Nat} {l : Loc} {i : Nat} (h : i < n) : up ρ n l i = ρ i := by unfold up; dsimp only; rw [if_neg (by omega)]
theorem up_new {ρ : Rho} {n : Nat} {l : Loc} : up ρ n l n = l := by unfold up; dsimp only; rw [if_pos rfl]
theorem up_le {ρ : Rho} {n : Nat} {l : Loc} : ρ.le (up ρ n l) := fun _ _ h => h

theorem FRel.ext {ρ ρ' : Rho} {n n' : Nat} {fr : List AV} {a : Act} (hF : ρ.le ρ') (h : FRel ρ n fr a) (he : ∀ id, id < n → ρ' id = ρ id) (hn : n ≤ n') : FRel ρ' n' fr a :=
  ⟨h.size, fun t => (h.den t).congr hF fun id hi => he id (h.ids t id hi), fun t i hi => Nat.lt_of_lt_of_le (h.ids t i hi) hn⟩

theorem FRel.put {ρ : Rho} {n : Nat} {fr : List AV} {a : Act} (h : FRel ρ n fr a) {r : AV} {v : Value} (hd : Den ρ r v) (hi : ∀ i ∈ r.ids, i < n) (d : Option Tmp) :
    FRel ρ n (match d with | some d => fr.set d r | .none => fr) (a.put d v) := by
  cases d with
  | none => exact h
  | some d =>
    have e : ∀ t, (fr.set d r).getD t .any = if d = t ∧ t < fr.length then r else fr.getD t .any := by
      intro t
      rw [List.getD_eq_getElem?_getD, List.getD_eq_getElem?_getD, List.getElem?_set]
      by_cases hdt : d = t
      · subst hdt
        by_cases hl : d < fr.length
        · simp [hl]
        · simp [hl]
      · simp [hdt]
    have e2 : ∀ t, (a.tmps.setIfInBounds d v).getD t undef = if d = t ∧ t < fr.length then v else a.tmps.getD t undef := by
      intro t
      rw [Array.getD_eq_getD_getElem?, Array.getD_eq_getD_getElem?, Array.getElem?_setIfInBounds]
      by_cases hdt : d = t
      · subst hdt
        by_cases hl : d < fr.length
        · simp [hl, h.size]
        · simp [hl, h.size]
      · simp [hdt]
    refine ⟨by simp [Act.put, h.size], fun t => ?_, fun t => ?_⟩
    · simp only [Act.put]
      rw [e, e2]
      split
      · exact hd
      · exact h.den t
    · simp only
      rw [e]
      split
      · exact hi
      · exact h.ids t

/-- A new block. -/
theorem After.alloc {ρ : Rho} {M : List Blk} {w : World} (h : MRel ρ M w) {l : Loc} {b : Blk} {o : Obj} (hl : l.blk = w.heap.size) (hb : BRel ρ l (some o) b)
    (hcl : ∀ vs, b = .r vs → ∀ x ∈ vs, ∀ i ∈ x.ids, i < M.length) :
    After ρ M (M ++ [b]) w { w with heap := w.heap.push o } (up ρ M.length l) := by
  have hget : ∀ k, k < w.heap.size → (w.heap.push o)[k]? = w.heap[k]? := fun k hk => by rw [Array.getElem?_push, if_neg (by omega)]
  have hlive : ∀ i, liveAt (M ++ [b]) i → i < M.length → liveAt M i := by
    rintro i ⟨b', hb', hv⟩ hi
    rw [List.getElem?_append_left hi] at hb'
    exact ⟨b', hb', hv⟩
  refine ⟨fun id hid => up_old hid, ⟨?_, ?_, ?_, ?_⟩, by simp, fun id hid hlv => hlive id hlv hid, ?_, fun k hk _ => hget k hk, rfl, rfl, rfl, by simp, up_le, fun _ _ h => .inl h⟩
  · intro id b' hb'
    by_cases hid : id < M.length
    · rw [List.getElem?_append_left hid] at hb'
      rw [up_old hid]
      have hold := h.blk id b' hb'
      have hcl' : ∀ vs, b' = .r vs → ∀ x ∈ vs, ∀ id ∈ x.ids, up ρ M.length l id = ρ id := by
        rintro vs rfl x hx i hi
        exact up_old (h.cl id vs hb' x hx i hi)
      by_cases hdead : b'.live = true
      · rw [show ({ w with heap := w.heap.push o } : World).heap = w.heap.push o from rfl, hget _ (h.blk_lt ⟨b', hb', hdead⟩)]
        exact hold.congr up_le hcl'
      · cases b' <;> first | trivial | (exact absurd rfl hdead)
    · have hid' : id = M.length := by
        have := (List.getElem?_eq_some_iff.1 hb').1
        simp at this; omega
      subst hid'
      rw [List.getElem?_append_right (Nat.le_refl _)] at hb'
      simp only [Nat.sub_self, List.getElem?_cons_zero, Option.some.injEq] at hb'
      subst hb'
      rw [up_new, hl]
      have : ({ w with heap := w.heap.push o } : World).heap[w.heap.size]? = some o := by simp
      rw [this]
      exact hb.congr up_le (fun vs e x hx i hi => up_old (hcl vs e x hx i hi))
  · intro i j hi hj he
    by_cases hi' : i < M.length
    · by_cases hj' : j < M.length
      · rw [up_old hi', up_old hj'] at he
        exact h.inj i j (hlive i hi hi') (hlive j hj hj') he
      · have hj2 : j = M.length := by have := hj.lt; simp at this; omega
        subst hj2
        rw [up_old hi', up_new, hl] at he
        have := h.blk_lt (hlive i hi hi')
        omega
    · have hi2 : i = M.length := by have := hi.lt; simp at this; omega
      by_cases hj' : j < M.length
      · subst hi2
        rw [up_old hj', up_new, hl] at he
        have := h.blk_lt (hlive j hj hj')
        omega
      · have := hj.lt; simp at this; omega
  · intro id vs hb' x hx i hi
    simp only [List.length_append, List.length_cons, List.length_nil]
    by_cases hid : id < M.length
    · rw [List.getElem?_append_left hid] at hb'
      have := h.cl id vs hb' x hx i hi
      omega
    · have hid' : id = M.length := by
        have := (List.getElem?_eq_some_iff.1 hb').1
        simp at this; omega
      subst hid'
      rw [List.getElem?_append_right (Nat.le_refl _)] at hb'
      simp only [Nat.sub_self, List.getElem?_cons_zero, Option.some.injEq] at hb'
      have := hcl vs hb' x hx i hi
      omega
  · intro k o' hk
    obtain ⟨e1, e2⟩ := h.env k o' hk
    have hkl : k < w.heap.size := (Array.getElem?_eq_some_iff.1 e1).1
    refine ⟨by rw [show ({ w with heap := w.heap.push o } : World).heap = w.heap.push o from rfl, hget k hkl]; exact e1, fun i hi he => ?_⟩
    by_cases hi' : i < M.length
    · rw [up_old hi'] at he
      exact e2 i (hlive i hi hi') he
    · have hi2 : i = M.length := by have := hi.lt; simp at this; omega
      subst hi2
      rw [up_new, hl] at he
      omega
  · intro id hid hlv
    have hid' : id = M.length := by have := hlv.lt; simp at this; omega
    subst hid'
    rw [up_new, hl]
    exact .inl (Nat.le_refl _)


/-- A block is written. -/
theorem After.set {ρ : Rho} {M : List Blk} {w w' : World} (h : MRel ρ M w) {id : Nat} {b b' : Blk} {o' : Obj} (hid : M[id]? = some b) (hlv : b.live = true)
    (hb : BRel ρ (ρ id) (some o') b') (hlv' : b'.live = true) (hcl : ∀ vs, b' = .r vs → ∀ x ∈ vs, ∀ i ∈ x.ids, i < M.length)
    (hw : w'.heap[(ρ id).blk]? = some o') (ho : ∀ k, k ≠ (ρ id).blk → w'.heap[k]? = w.heap[k]?) (hs : w'.heap.size = w.heap.size)
    (e1 : w'.os = w.os) (e2 : w'.tape = w.tape) (e3 : w'.output = w.output) : After ρ M (M.set id b') w w' ρ := by
  have hlt : id < M.length := (List.getElem?_eq_some_iff.1 hid).1
  have hlive : ∀ i, liveAt (M.set id b') i → liveAt M i := by
    rintro i ⟨c, hc, hv⟩
    rw [List.getElem?_set] at hc
    split at hc
    · rename_i e; subst e; exact ⟨b, hid, hlv⟩
    · exact ⟨c, hc, hv⟩
  refine ⟨fun _ _ => rfl, ⟨?_, fun i j hi hj he => h.inj i j (hlive i hi) (hlive j hj) he, ?_, ?_⟩, by simp, fun i _ hl => hlive i hl, fun i hi hl => by have := (hlive i hl).lt; omega, ?_, e1, e2, e3, by omega, ρ.le_refl, fun _ _ h => .inl h⟩
  · intro i c hc
    rw [List.getElem?_set] at hc
    split at hc
    · rename_i e
      subst e
      cases hc
      rw [hw]
      exact hb
    · rename_i hne
      have hold := h.blk i c hc
      by_cases hdead : c.live = true
      · rw [ho _ (fun e => hne (h.inj i id ⟨c, hc, hdead⟩ ⟨b, hid, hlv⟩ e).symm)]
        exact hold
      · cases c <;> first | trivial | (exact absurd rfl hdead)
  · intro i vs hc x hx j hj
    rw [List.length_set]
    rw [List.getElem?_set] at hc
    split at hc
    · cases hc
      exact hcl vs rfl x hx j hj
    · exact h.cl i vs hc x hx j hj
  · intro k o hk
    obtain ⟨g1, g2⟩ := h.env k o hk
    exact ⟨by rw [ho k (fun e => g2 id ⟨b, hid, hlv⟩ e.symm)]; exact g1, fun i hi => g2 i (hlive i hi)⟩
  · intro k _ hk
    exact ho k (fun e => hk id ⟨b, hid, hlv⟩ e.symm)

/-- A value as one whole-number cell. -/
def toCell : CK → AV → Option Int
  | .int k, .i k' n => if k = k' then some n else .none
  | .bool, .b p => some (if p = true then 1 else 0)
  | .bool, .d p => some (if p = true then 1 else 0)
  | _, _ => .none

theorem toCell_den {ρ : Rho} {k : CK} {r : AV} {n : Int} {v : Value} (h : toCell k r = some n) (hd : Den ρ r v) : v = k.val n ∧ k.ok n := by
  unfold toCell at h
  split at h
  · split at h
    · rename_i e; subst e; cases h; exact hd
    · cases h
  · cases h
    simp only [Den] at hd
    subst hd
    rename_i p
    cases p <;> exact ⟨rfl, by simp [CK.ok]⟩
  · cases h
    simp only [Den] at hd
    subst hd
    rename_i p
    cases p <;> exact ⟨rfl, by simp [CK.ok]⟩
  · cases h

/-- May stand in one cell of a block of references. -/
def isRef : AV → Bool
  | .p _ _ _ => true
  | .pw _ _ => true
  | .np => true
  | .sl _ _ _ _ => true
  | .ow _ _ _ _ => true
  | .rp _ _ _ _ => true
  | .nsl => true
  | .fn _ _ => true
  | .mp _ => true
  | .fs _ _ => true
  | _ => false

theorem isRef_one {ρ : Rho} {r : AV} {v : Value} (h : isRef r = true) (hd : Den ρ r v) : v.oneCell' = true ∧ v.cells.size = 1 := by
  cases r <;> simp only [isRef, reduceCtorEq] at h <;> simp only [Den] at hd
  all_goals first
    | (obtain ⟨rfl, -⟩ := hd; exact ⟨rfl, rfl⟩)
    | (subst hd; exact ⟨rfl, rfl⟩)
    | (obtain ⟨cap, rfl, -⟩ := hd; exact ⟨rfl, rfl⟩)
    | (obtain ⟨-, -, -, a, cap, rfl, -⟩ := hd; exact ⟨rfl, rfl⟩)

/-- A part of the cells is written over. -/
def putSeg (xs : List Int) (off n : Nat) (ys : List Int) : List Int := xs.take off ++ ys ++ xs.drop (off + n)

def storeAV (M : List Blk) (id off : Nat) (σ : Sg) (r : AV) : Option (List Blk) :=
  match M[id]? with
  | some (.c τ xs) => match σ.inf with
    | .cell k => match toCell k r with
      | some n => some (M.set id (.c τ (xs.set off n)))
      | .none => .none
    | .arr _ _ => match r with
      | .ag σ' ys => if σ' = σ then some (M.set id (.c τ (putSeg xs off σ.n ys))) else .none
      | _ => .none
    | .st _ => match r with
      | .ag σ' ys => if σ' = σ then some (M.set id (.c τ (putSeg xs off σ.n ys))) else .none
      | _ => .none
    | _ => .none
  | some (.s ss) => match σ, r with
    | .str, .s s => some (M.set id (.s (ss.set off s)))
    | _, _ => .none
  | some (.r vs) => match σ with
    | .ref => if isRef r = true then some (M.set id (.r (vs.set off r))) else .none
    | _ => .none
  | _ => .none


theorem seg_get {α : Type} (xs ys : List α) (off j : Nat) (hl : off + ys.length ≤ xs.length) :
    (xs.take off ++ ys ++ xs.drop (off + ys.length))[j]? = if off ≤ j ∧ j < off + ys.length then ys[j - off]? else xs[j]? := by
  have h1 : (xs.take off).length = off := by rw [List.length_take]; omega
  by_cases hj : j < off
  · rw [if_neg (by omega), List.append_assoc, List.getElem?_append_left (by omega), List.getElem?_take, if_pos hj]
  · by_cases hj2 : j < off + ys.length
    · rw [if_pos (by omega), List.append_assoc, List.getElem?_append_right (by omega), h1, List.getElem?_append_left (by omega)]
    · rw [if_neg (by omega), List.getElem?_append_right (by rw [List.length_append, h1]; omega), List.length_append, h1, List.getElem?_drop]
      congr 1
      omega

theorem cellsV_get : ∀ (ks : List CK) (ys : List Int) (j : Nat) (y : Int) (k : CK), ys[j]? = some y → ks[j]? = some k → (cellsV ks ys)[j]? = some (k.val y)
  | [], _, _, _, _, _, h => by simp at h
  | _ :: _, [], _, _, _, h, _ => by simp at h
  | k :: ks, x :: xs, 0, y, k', h, h' => by simp at h h'; subst h; subst h'; simp [cellsV]
  | k :: ks, x :: xs, j + 1, y, k', h, h' => by
    simp only [List.getElem?_cons_succ] at h h'
    simp only [cellsV, List.getElem?_cons_succ]
    exact cellsV_get ks xs j y k' h h'

theorem cellsOk_get : ∀ (ks : List CK) (ys : List Int) (j : Nat) (y : Int) (k : CK), cellsOk ks ys → ys[j]? = some y → ks[j]? = some k → k.ok y
  | [], _, _, _, _, _, _, h => by simp at h
  | _ :: _, [], _, _, _, _, h, _ => by simp at h
  | k :: ks, x :: xs, 0, y, k', ho, h, h' => by simp at h h'; subst h; subst h'; exact ho.1
  | k :: ks, x :: xs, j + 1, y, k', ho, h, h' => by
    simp only [List.getElem?_cons_succ] at h h'
    exact cellsOk_get ks xs j y k' ho.2 h h'

theorem cellsV_len : ∀ (ks : List CK) (ys : List Int), ks.length = ys.length → (cellsV ks ys).length = ys.length
  | [], [], _ => rfl
  | k :: ks, y :: ys, h => by simp only [cellsV, List.length_cons]; rw [cellsV_len ks ys (by simpa using h)]

theorem cellsV_one : ∀ (ks : List CK) (ys : List Int), ∀ v ∈ cellsV ks ys, v.oneCell' = true
  | k :: ks, y :: ys, v, hv => by
    simp only [cellsV, List.mem_cons] at hv
    rcases hv with rfl | hv
    · exact kind_val_one k y
    · exact cellsV_one ks ys v hv
  | [], _, v, hv => by simp [cellsV] at hv
  | _ :: _, [], v, hv => by simp [cellsV] at hv

/-- A piece of a block of cells is written. -/
theorem brel_seg {ρ : Rho} {l : Loc} {C : Array Value} {τ : Sg} {xs : List Int} (hb : BRel ρ l (some (.cells C l.ty (0, 0))) (.c τ xs))
    {ks : List CK} {ys : List Int} {off : Nat} (hk : ks.length = ys.length) (hl : off + ys.length ≤ xs.length) (hkind : ∀ j, j < ys.length → l.kind (off + j) = ks.getD j .bool) (hok : cellsOk ks ys) :
    BRel ρ l (some (.cells (C.toList.take off ++ cellsV ks ys ++ C.toList.drop (off + (cellsV ks ys).length)).toArray l.ty (0, 0))) (.c τ (xs.take off ++ ys ++ xs.drop (off + ys.length))) := by
  obtain ⟨C0, e, h2, h3, h4, h5, h6, h7, h8⟩ := hb
  cases e
  have hcl := cellsV_len ks ys hk
  have hsz : (C.toList.take off ++ cellsV ks ys ++ C.toList.drop (off + (cellsV ks ys).length)).length = C.size := by
    have : C.toList.length = C.size := Array.length_toList
    simp only [List.length_append, List.length_take, List.length_drop, this, hcl]; omega
  refine ⟨_, rfl, by simpa [h2] using hsz, h3, h4, h5, ?_, h7, fun j x hx => ?_⟩
  · simp only [List.length_append, List.length_take, List.length_drop]; omega
  · rw [seg_get xs ys off j hl] at hx
    rw [List.getElem?_toArray, seg_get _ _ _ _ (by have : C.toList.length = C.size := Array.length_toList; omega), hcl]
    split at hx
    · rename_i hj
      rw [if_pos hj]
      have hkk : ks[j - off]? = some (ks.getD (j - off) .bool) := by
        rw [List.getD_eq_getElem?_getD, List.getElem?_eq_getElem (by omega)]; rfl
      have hkd := hkind (j - off) (by omega)
      rw [show off + (j - off) = j from by omega] at hkd
      rw [hkd]
      exact ⟨cellsV_get _ _ _ _ _ hx hkk, cellsOk_get _ _ _ _ _ hok hx hkk⟩
    · rename_i hj
      rw [if_neg hj, Array.getElem?_toList]
      exact h8 j x hx

theorem storeVar_run {w : World} {t : TypeId} {n : Nat} {i : TypeInfo} {v : Value} {g o : Nat} {C : Array Value} {ty : TypeId} (hi : P.info? t = some i) (hsz : i.size = n) (hv : v.cells.size = n)
    (hg : w.heap[g]? = some (.cells C ty (0, 0))) (ho : o + n ≤ C.size) (h1 : ∀ x ∈ v.cells.toList, x.oneCell' = true) :
    (storeVar t ⟨g, o, .none⟩ v).run P w = .ok () (w.setRow g (C.toList.take o ++ v.cells.toList ++ C.toList.drop (o + v.cells.toList.length)).toArray) := by
  unfold storeVar
  simp only [Sem.run_bind, run_so hi hsz, Result.andThen_ok, hv, ne_eq, not_true_eq_false, if_false]
  have := run_storeCells_at P g o ty v.cells.toList 0 C w hg (by rw [Array.length_toList, hv]; omega) h1
  simpa using this


theorem After.seg {ρ : Rho} {M : List Blk} {w : World} (hM : MRel ρ M w) {id : Nat} {C : Array Value} {b b' : Blk} {C' : Array Value} (hid : M[id]? = some b) (hlv : b.live = true) (hlv' : b'.live = true)
    (hg : w.heap[(ρ id).blk]? = some (.cells C (ρ id).ty (0, 0))) (hb : BRel ρ (ρ id) (some (.cells C' (ρ id).ty (0, 0))) b')
    (hcl : ∀ vs, b' = .r vs → ∀ x ∈ vs, ∀ i ∈ x.ids, i < M.length) : After ρ M (M.set id b') w (w.setRow (ρ id).blk C') ρ :=
  After.set hM hid hlv hb hlv' hcl (setRow_heap w _ C C' _ _ hg) (fun k hk => setRow_other w _ k C' hk) (setRow_size w _ _) rfl rfl rfl

theorem set_seg {α : Type} (xs : List α) (off : Nat) (x : α) (h : off < xs.length) : xs.set off x = xs.take off ++ [x] ++ xs.drop (off + 1) := by
  rw [List.set_eq_take_append_cons_drop, if_pos h]; simp

theorem store_sound (H : TabOk P Γ) {ρ : Rho} {M M' : List Blk} {w : World} (hM : MRel ρ M w) {t : TypeId} {id off : Nat} {σ : Sg} {r : AV} {v : Value}
    (ht : Γ.sg t = σ) (hn : σ ≠ .none) (hp : PtrOk (ρ id) off σ) (hd : Den ρ r v) (hids : ∀ i ∈ r.ids, i < M.length) (h : storeAV M id off σ r = some M') :
    ∃ w', (storeVar t ⟨(ρ id).blk, off, .none⟩ v).run P w = .ok () w' ∧ After ρ M M' w w' ρ := by
  unfold storeAV at h
  obtain ⟨hp1, hp2⟩ := hp
  obtain ⟨i, z, hi, hsz, -, -⟩ := H.parts ht hn
  split at h
  · rename_i τ xs hid
    have hB := hM.blk id _ hid
    have hB0 := hB
    obtain ⟨C, hb, hC, hσ, hpu, hn0, hlen, hroom, hx⟩ := hB0
    rw [hb] at hB
    have agg : ∀ ys, σ.pure = true → v = .agg (cellsV σ.flat ys).toArray → ys.length = σ.n → cellsOk σ.flat ys →
        ∃ w', (storeVar t ⟨(ρ id).blk, off, .none⟩ v).run P w = .ok () w' ∧ After ρ M (M.set id (.c τ (xs.take off ++ ys ++ xs.drop (off + σ.n)))) w w' ρ := by
      intro ys hpure hv hy hok
      subst hv
      have hfl := Sg.flat_len σ hpure
      rw [if_pos hpure] at hp2
      have hvl := cellsV_len σ.flat ys (by omega)
      have h1 := brel_seg hB (ks := σ.flat) (ys := ys) (off := off) (by omega) (by omega) (fun j hj => hp2.2 j (by omega)) hok
      have hr := storeVar_run (P := P) (w := w) (t := t) (n := σ.n) (v := .agg (cellsV σ.flat ys).toArray) (o := off) hi hsz (by simp [Value.cells, hvl, hy]) hb (by omega) (by simpa [Value.cells] using cellsV_one σ.flat ys)
      refine ⟨_, hr, ?_⟩
      rw [← hy]
      exact After.seg hM hid rfl rfl hb (by simpa [Value.cells] using h1) (fun vs e => by cases e)
    split at h
    · rename_i k hinf
      split at h
      · rename_i n hcell
        cases h
        obtain ⟨f1, f2, f3⟩ := Sg.cell_flat σ k hinf
        rw [if_pos f3, f2, f1] at hp2
        obtain ⟨rfl, hok⟩ := toCell_den hcell hd
        have h1 := brel_seg hB (ks := [k]) (ys := [n]) (off := off) rfl (by simp; omega) (fun j hj => by have := hp2.2 j (by simpa using hj); simpa using this) ⟨hok, trivial⟩
        have hr := storeVar_run (P := P) (w := w) (t := t) (n := σ.n) (v := k.val n) (o := off) hi hsz (by rw [f2]; cases k <;> rfl) hb (by omega) (by
          intro x hx; cases k <;> simp [CK.val, Value.cells] at hx <;> subst hx <;> rfl)
        refine ⟨_, hr, ?_⟩
        rw [set_seg xs off n (by omega)]
        refine After.seg hM hid rfl rfl hb ?_ (fun vs e => by cases e)
        have e : (k.val n).cells.toList = cellsV [k] [n] := by cases k <;> rfl
        rw [e]
        simpa using h1
      · cases h
    · rename_i n e hinf
      split at h
      · rename_i σ' ys
        split at h
        · rename_i es
          subst es
          cases h
          obtain ⟨hv, hy, hok, hpu'⟩ := hd
          exact agg ys hpu' hv hy hok
        · cases h
      · cases h
    · split at h
      · rename_i σ' ys
        split at h
        · rename_i es
          subst es
          cases h
          obtain ⟨hv, hy, hok, hpu'⟩ := hd
          exact agg ys hpu' hv hy hok
        · cases h
      · cases h
    · cases h
  · rename_i ss hid
    have hB := hM.blk id _ hid
    obtain ⟨C, hb, hC, hσ, hlen, hroom, hx⟩ := hB
    split at h
    · rename_i s
      cases h
      obtain ⟨rfl, hs⟩ := hd
      have hlt : off < ss.length := by simp [Sg.n] at hp1; omega
      have hr := storeVar_run (P := P) (w := w) (t := t) (n := 1) (v := .string s) (o := off) hi (by rw [hsz]; rfl) rfl hb (by omega) (by intro x hx; simp [Value.cells] at hx; subst hx; rfl)
      refine ⟨_, hr, After.seg hM hid rfl rfl hb ?_ (fun vs e => by cases e)⟩
      have hCl : C.toList.length = C.size := Array.length_toList
      refine ⟨_, rfl, ?_, hσ, by simp [hlen], hroom, fun j x hx' => ?_⟩
      · simp [Value.cells, hCl]; omega
      · rw [set_seg ss off s hlt] at hx'
        have e := seg_get ss [s] off j (by simp; omega)
        simp only [List.length_cons, List.length_nil, Nat.zero_add] at e
        rw [e] at hx'
        have e' := seg_get C.toList [Value.string s] off j (by simp; omega)
        simp only [List.length_cons, List.length_nil, Nat.zero_add] at e'
        simp only [Value.cells, List.getElem?_toArray, List.length_cons, List.length_nil, Nat.zero_add]
        rw [e']
        split at hx'
        · rename_i hj
          rw [if_pos hj]
          have : j - off = 0 := by omega
          rw [this] at hx' ⊢
          simp at hx'
          subst hx'
          exact ⟨rfl, hs⟩
        · rename_i hj
          rw [if_neg hj, Array.getElem?_toList]
          exact hx j x hx'
    · cases h
  · rename_i vs hid
    have hB := hM.blk id _ hid
    obtain ⟨C, hb, hC, hσ, hlen, hroom, hx⟩ := hB
    split at h
    · split at h
      · rename_i href
        cases h
        obtain ⟨o1, o2⟩ := isRef_one href hd
        have hlt : off < vs.length := by simp [Sg.n] at hp1; omega
        have ecell : v.cells.toList = [v] := by cases v <;> first | rfl | (cases o1)
        have hr := storeVar_run (P := P) (w := w) (t := t) (n := 1) (v := v) (o := off) hi (by rw [hsz]; rfl) o2 hb (by omega) (by rw [ecell]; intro x hx; simp at hx; subst hx; exact o1)
        refine ⟨_, hr, After.seg hM hid rfl rfl hb ?_ ?_⟩
        · have hCl : C.toList.length = C.size := Array.length_toList
          refine ⟨_, rfl, ?_, hσ, by simp [hlen], hroom, fun j x hx' => ?_⟩
          · simp [ecell, hCl]; omega
          · rw [set_seg vs off r hlt] at hx'
            have e := seg_get vs [r] off j (by simp; omega)
            simp only [List.length_cons, List.length_nil, Nat.zero_add] at e
            rw [e] at hx'
            have e' := seg_get C.toList [v] off j (by simp; omega)
            simp only [List.length_cons, List.length_nil, Nat.zero_add] at e'
            simp only [ecell, List.getElem?_toArray, List.length_cons, List.length_nil, Nat.zero_add]
            rw [e']
            split at hx'
            · rename_i hj
              rw [if_pos hj]
              have : j - off = 0 := by omega
              rw [this] at hx' ⊢
              simp at hx'
              subst hx'
              exact ⟨v, rfl, hd, o1⟩
            · rename_i hj
              rw [if_neg hj, Array.getElem?_toList]
              exact hx j x hx'
        · intro vs' e x hx' i hi'
          cases e
          rw [set_seg vs off r hlt] at hx'
          simp only [List.mem_append, List.mem_singleton] at hx'
          rcases hx' with (hx' | rfl) | hx'
          · exact hM.cl id vs hid x (List.mem_of_mem_take hx') i hi'
          · exact hids i hi'
          · exact hM.cl id vs hid x (List.mem_of_mem_drop hx') i hi'
      · cases h
    · cases h
  · cases h

def storeW (M : List Blk) (id : Nat) (σ : Sg) (r : AV) : Option (List Blk) :=
  match M[id]? with
  | some (.c τ _) => match σ.inf with
    | .cell k => match toCell k r with
      | some n => some (M.set id (.c τ [n]))
      | .none => .none
    | .arr _ _ => match r with
      | .ag σ' ys => if σ' = σ then some (M.set id (.c τ ys)) else .none
      | _ => .none
    | .st _ => match r with
      | .ag σ' ys => if σ' = σ then some (M.set id (.c τ ys)) else .none
      | _ => .none
    | _ => .none
  | some (.s _) => match σ, r with
    | .str, .s s => some (M.set id (.s [s]))
    | _, _ => .none
  | some (.r _) => match σ with
    | .ref => if isRef r = true then some (M.set id (.r [r])) else .none
    | _ => .none
  | _ => .none

theorem set_one {α : Type} {xs : List α} {x : α} (h : xs.length = 1) : xs.set 0 x = [x] := by
  cases xs with
  | nil => simp at h
  | cons a l => cases l with
    | nil => rfl
    | cons b l => simp at h

theorem storeW_eq {ρ : Rho} {M M' : List Blk} {w : World} (hM : MRel ρ M w) {id : Nat} {σ : Sg} {r : AV} (hs : (ρ id).size = σ.n) (h : storeW M id σ r = some M') : storeAV M id 0 σ r = some M' := by
  unfold storeW at h
  unfold storeAV
  split at h
  · rename_i τ xs hid
    obtain ⟨C, hb, hC, hσ, hpu, hn0, hlen, hroom, hx⟩ := hM.blk id _ hid
    have hl : xs.length = σ.n := by omega
    have e : ∀ ys : List Int, putSeg xs 0 σ.n ys = ys := by intro ys; unfold putSeg; rw [Nat.zero_add, ← hl]; simp
    split at h
    · rename_i k hinf
      have h1 : σ.n = 1 := (Sg.cell_flat σ k hinf).2.1
      split at h
      · rename_i n hc
        rw [set_one (by omega)]
        exact h
      · cases h
    · rename_i n e' hinf
      split at h
      · simp only [e]; exact h
      · cases h
    · rename_i fs hinf
      split at h
      · simp only [e]; exact h
      · cases h
    · cases h
  · rename_i ss hid
    obtain ⟨C, hb, hC, hσ, hlen, hroom, hx⟩ := hM.blk id _ hid
    split at h
    · rw [set_one (by simp [Sg.n] at hs; omega)]; exact h
    · cases h
  · rename_i vs hid
    obtain ⟨C, hb, hC, hσ, hlen, hroom, hx⟩ := hM.blk id _ hid
    split at h
    · rw [set_one (by simp [Sg.n] at hs; omega)]; exact h
    · cases h
  · cases h

end Go.Eng
