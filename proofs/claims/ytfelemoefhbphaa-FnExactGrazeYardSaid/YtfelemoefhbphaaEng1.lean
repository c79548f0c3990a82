/- The engine, part 1: abstract values, memory and what they stand for. No conditions: definitions and small laws alone. -/
import Derived.WalkKit
import Derived.Orders
import Derived.ChangeKeysEq
namespace Go.Eng
open Go Go.RowKit

def lo : IntKind → Int
  | .i8 => -128 | .i16 => -32768 | .i32 => -2147483648 | .i64 => -9223372036854775808
  | .u8 => 0 | .u16 => 0 | .u32 => 0 | .u64 => 0
def hi : IntKind → Int
  | .i8 => 127 | .i16 => 32767 | .i32 => 2147483647 | .i64 => 9223372036854775807
  | .u8 => 255 | .u16 => 65535 | .u32 => 4294967295 | .u64 => 18446744073709551615
def rng (k : IntKind) (n : Int) : Prop := lo k ≤ n ∧ n ≤ hi k

inductive CK where
  | int (k : IntKind)
  | bool
  deriving DecidableEq

def CK.val : CK → Int → Value
  | .int k, n => .int k n
  | .bool, n => .bool (n != 0)
def CK.ok : CK → Int → Prop
  | .int k, n => rng k n
  | .bool, n => n = 0 ∨ n = 1

inductive Sg where
  | i8 | i16 | i32 | i64 | u8 | u16 | u32 | u64 | bool | str | ref
  | spot | row | grid | w10 | pas | tab | gro | goat | hur | b10 | bgrid | l10 | lgrid | two | sp2 | none
  deriving DecidableEq

inductive Inf where
  | cell (k : CK)
  | arr (n : Nat) (e : Sg)
  | st (fs : List Sg)
  | str
  | ref

def Sg.inf : Sg → Inf
  | .i8 => .cell (.int .i8) | .i16 => .cell (.int .i16) | .i32 => .cell (.int .i32) | .i64 => .cell (.int .i64)
  | .u8 => .cell (.int .u8) | .u16 => .cell (.int .u16) | .u32 => .cell (.int .u32) | .u64 => .cell (.int .u64)
  | .bool => .cell .bool | .str => .str | .ref => .ref
  | .spot => .st [.i8, .i8]
  | .row => .arr 10 .i16
  | .grid => .arr 10 .row
  | .w10 => .arr 10 .u16
  | .pas => .st [.i8, .i8, .grid, .w10, .w10]
  | .tab => .arr 11 .i8
  | .gro => .st [.tab, .i16]
  | .goat => .st [.spot, .spot, .i16, .i16, .i8]
  | .hur => .st [.spot, .bool]
  | .b10 => .arr 10 .bool
  | .bgrid => .arr 10 .b10
  | .l10 => .arr 10 .i64
  | .lgrid => .arr 10 .l10
  | .two => .arr 2 .i64
  | .sp2 => .arr 2 .spot
  | .none => .st []

/-- The kinds of a shape's cells. -/
def Sg.flat : Sg → List CK
  | .i8 => [.int .i8] | .i16 => [.int .i16] | .i32 => [.int .i32] | .i64 => [.int .i64]
  | .u8 => [.int .u8] | .u16 => [.int .u16] | .u32 => [.int .u32] | .u64 => [.int .u64]
  | .bool => [.bool] | .str => [] | .ref => []
  | .spot => [.int .i8, .int .i8]
  | .row => List.replicate 10 (.int .i16)
  | .grid => List.replicate 100 (.int .i16)
  | .w10 => List.replicate 10 (.int .u16)
  | .pas => [.int .i8, .int .i8] ++ List.replicate 100 (.int .i16) ++ List.replicate 20 (.int .u16)
  | .tab => List.replicate 11 (.int .i8)
  | .gro => List.replicate 11 (.int .i8) ++ [.int .i16]
  | .goat => [.int .i8, .int .i8, .int .i8, .int .i8, .int .i16, .int .i16, .int .i8]
  | .hur => [.int .i8, .int .i8, .bool]
  | .b10 => List.replicate 10 .bool
  | .bgrid => List.replicate 100 .bool
  | .l10 => List.replicate 10 (.int .i64)
  | .lgrid => List.replicate 100 (.int .i64)
  | .two => List.replicate 2 (.int .i64)
  | .sp2 => List.replicate 4 (.int .i8)
  | .none => []

/-- How many cells a shape has. -/
def Sg.n : Sg → Nat
  | .i8 => 1 | .i16 => 1 | .i32 => 1 | .i64 => 1 | .u8 => 1 | .u16 => 1 | .u32 => 1 | .u64 => 1 | .bool => 1 | .str => 1 | .ref => 1
  | .spot => 2 | .row => 10 | .grid => 100 | .w10 => 10 | .pas => 122 | .tab => 11 | .gro => 12 | .goat => 7 | .hur => 3
  | .b10 => 10 | .bgrid => 100 | .l10 => 10 | .lgrid => 100 | .two => 2 | .sp2 => 4 | .none => 0

def sumN : List Sg → Nat
  | [] => 0
  | σ :: l => σ.n + sumN l
def flats : List Sg → List CK
  | [] => []
  | σ :: l => σ.flat ++ flats l
/-- Where field i lies, and its shape. -/
def fldAt : List Sg → Nat → Option (Nat × Sg)
  | [], _ => .none
  | σ :: _, 0 => some (0, σ)
  | σ :: l, i + 1 => match fldAt l i with | some (o, τ) => some (σ.n + o, τ) | .none => .none

def Sg.pure : Sg → Bool
  | .str => false
  | .ref => false
  | _ => true

theorem Sg.flat_len (σ : Sg) (h : σ.pure = true) : σ.flat.length = σ.n := by cases σ <;> first | rfl | (exact absurd h (by decide))

theorem Sg.st_flat (σ : Sg) (fs : List Sg) (h : σ.inf = .st fs) : σ.flat = flats fs ∧ σ.n = sumN fs ∧ (∀ τ ∈ fs, τ.pure = true) := by
  cases σ <;> simp only [Sg.inf, Inf.st.injEq, reduceCtorEq] at h <;> subst h <;> exact ⟨rfl, rfl, by decide⟩

def rep {α : Type} : Nat → List α → List α
  | 0, _ => []
  | n + 1, l => l ++ rep n l

theorem Sg.arr_flat (σ e : Sg) (n : Nat) (h : σ.inf = .arr n e) : σ.flat = rep n e.flat ∧ σ.n = n * e.n ∧ e.pure = true ∧ 0 < e.n := by
  cases σ <;> simp only [Sg.inf, Inf.arr.injEq, reduceCtorEq] at h <;> obtain ⟨rfl, rfl⟩ := h <;> exact ⟨rfl, rfl, rfl, by decide⟩

theorem Sg.cell_flat (σ : Sg) (k : CK) (h : σ.inf = .cell k) : σ.flat = [k] ∧ σ.n = 1 ∧ σ.pure = true := by
  cases σ <;> simp only [Sg.inf, Inf.cell.injEq, reduceCtorEq] at h <;> subst h <;> exact ⟨rfl, rfl, rfl⟩

theorem flats_len (fs : List Sg) (h : ∀ τ ∈ fs, τ.pure = true) : (flats fs).length = sumN fs := by
  induction fs with
  | nil => rfl
  | cons a l ih =>
    simp only [flats, sumN, List.length_append]
    rw [ih (fun τ hτ => h τ (List.mem_cons_of_mem _ hτ)), Sg.flat_len a (h a List.mem_cons_self)]

theorem flats_fld (fs : List Sg) (i o : Nat) (τ : Sg) (hp : ∀ τ ∈ fs, τ.pure = true) (h : fldAt fs i = some (o, τ)) :
    o + τ.n ≤ sumN fs ∧ ∀ j, j < τ.n → (flats fs)[o + j]? = τ.flat[j]? := by
  induction fs generalizing i o with
  | nil => simp [fldAt] at h
  | cons a l ih =>
    have ha := Sg.flat_len a (hp a List.mem_cons_self)
    cases i with
    | zero =>
      simp only [fldAt, Option.some.injEq, Prod.mk.injEq] at h
      obtain ⟨rfl, rfl⟩ := h
      refine ⟨by simp [sumN], fun j hj => ?_⟩
      simp only [flats, Nat.zero_add]
      rw [List.getElem?_append_left (by omega)]
    | succ i =>
      simp only [fldAt] at h
      split at h
      · rename_i o' τ' h'
        simp only [Option.some.injEq, Prod.mk.injEq] at h
        obtain ⟨rfl, rfl⟩ := h
        obtain ⟨h1, h2⟩ := ih i o' (fun τ hτ => hp τ (List.mem_cons_of_mem _ hτ)) h'
        refine ⟨by simp only [sumN]; omega, fun j hj => ?_⟩
        simp only [flats]
        rw [List.getElem?_append_right (by omega), show a.n + o' + j - a.flat.length = o' + j from by omega]
        exact h2 j hj
      · cases h

theorem rep_get {α : Type} (l : List α) (n i j : Nat) (hi : i < n) (hj : j < l.length) : (rep n l)[i * l.length + j]? = l[j]? := by
  induction n generalizing i with
  | zero => omega
  | succ n ih =>
    simp only [rep]
    cases i with
    | zero => rw [Nat.zero_mul, Nat.zero_add, List.getElem?_append_left hj]
    | succ i =>
      rw [List.getElem?_append_right (by rw [Nat.succ_mul]; omega), show (i + 1) * l.length + j - l.length = i * l.length + j from by rw [Nat.succ_mul]; omega]
      exact ih i (by omega)

/-- Where a block lies. -/
structure Loc where
  blk : Nat
  size : Nat
  room : Nat
  σ : Sg
  ty : TypeId

def Loc.kind (l : Loc) (j : Nat) : CK := l.σ.flat.getD (j % l.σ.n) .bool

/-- Where each block lies, and what lies there frozen. -/
structure Rho where
  loc : Nat → Loc
  F : Nat → Option Obj
instance : CoeFun Rho fun _ => Nat → Loc := ⟨Rho.loc⟩
def Rho.le (ρ ρ' : Rho) : Prop := ∀ k o, ρ.F k = some o → ρ'.F k = some o
def Rho.ren (ρ : Rho) (f : Nat → Nat) : Rho := ⟨fun i => ρ (f i), ρ.F⟩
theorem Rho.le_refl (ρ : Rho) : ρ.le ρ := fun _ _ h => h
theorem Rho.le_trans {ρ ρ1 ρ2 : Rho} (h : ρ.le ρ1) (k : ρ1.le ρ2) : ρ.le ρ2 := fun a o e => k a o (h a o e)

inductive AV where
  | any
  | i (k : IntKind) (n : Int)
  | b (p : Bool)
  | d (p : Bool)
  | s (x : ByteArray)
  | ag (σ : Sg) (xs : List Int)
  | p (id off : Nat) (σ : Sg)
  | pw (id : Nat) (σ : Sg)
  | np
  | sl (id off len : Nat) (σ : Sg)
  | ow (id len : Nat) (σ : Sg) (e : TypeId)
  | lp (id i o : Nat) (σ τ : Sg)
  | fs (σ : Sg) (rows : List (List Int))
  | fp (o : Nat) (σ τ : Sg) (xs : List Int)
  | fz (σ : Sg) (rowss : List (List (List Int)))
  | fstr (l : List ByteArray)
  | fq (σ : Sg) (rows : List (List Int))
  | fqs (s : ByteArray)
  | es
  | un
  | nsl
  | fn (f : FuncId) (caps : List (Nat × Sg))
  | mp (id : Nat)
  | t2 (a b : AV)
  | t3 (a b c : AV)
  | t4 (a b c d : AV)
  | v (x : Value)

inductive Blk where
  | dead
  | c (σ : Sg) (xs : List Int)
  | s (l : List ByteArray)
  | l (σ : Sg) (rows : List (List Int))
  | rf (σ : Sg) (rowss : List (List (List Int)))
  | r (l : List AV)

/-- The cells of an aggregate. -/
def cellsV : List CK → List Int → List Value
  | k :: ks, x :: xs => k.val x :: cellsV ks xs
  | _, _ => []
def cellsOk : List CK → List Int → Prop
  | k :: ks, x :: xs => k.ok x ∧ cellsOk ks xs
  | _, _ => True

def PtrOk (l : Loc) (off : Nat) (σ : Sg) : Prop :=
  off + σ.n ≤ l.size ∧ (if σ.pure then l.σ.pure = true ∧ ∀ j, j < σ.n → l.kind (off + j) = σ.flat.getD j .bool else l.σ = σ)

/-- The cells of one row. -/
def rowAt (C : Array Value) (σ : Sg) (o : Nat) (row : List Int) : Prop :=
  row.length = σ.n ∧ ∀ (j : Nat) (y : Int), row[j]? = some y → C[o + j]? = some ((σ.flat.getD j .bool).val y) ∧ (σ.flat.getD j .bool).ok y
/-- The cells of a row of rows. -/
def rowsAt (C : Array Value) (σ : Sg) (o : Nat) (rows : List (List Int)) : Prop :=
  ∀ (i : Nat) (row : List Int), rows[i]? = some row → rowAt C σ (o + i * σ.n) row

/-- A slice whose elements are frozen. -/
def FS (F : Nat → Option Obj) (σ : Sg) (rows : List (List Int)) (x : Value) : Prop :=
  σ.pure = true ∧ 0 < σ.n ∧ rows.length ≤ maxLen ∧ ∃ a cap, x = .slice a rows.length cap ∧ rows.length ≤ cap ∧ (rows = [] ∨ ∃ k o C ty fz, a = some ⟨k, o, none⟩ ∧ F k = some (.cells C ty fz) ∧ rowsAt C σ o rows)
def FSS (F : Nat → Option Obj) (σ : Sg) (rowss : List (List (List Int))) (x : Value) : Prop :=
  rowss.length ≤ maxLen ∧ ∃ a cap, x = .slice a rowss.length cap ∧ rowss.length ≤ cap ∧ (rowss = [] ∨ ∃ k o C ty fz, a = some ⟨k, o, none⟩ ∧ F k = some (.cells C ty fz) ∧ ∀ (j : Nat) rows, rowss[j]? = some rows → ∃ y, C[o + j]? = some y ∧ FS F σ rows y)
def FStr (F : Nat → Option Obj) (l : List ByteArray) (x : Value) : Prop :=
  l.length ≤ maxLen ∧ ∃ a cap, x = .slice a l.length cap ∧ l.length ≤ cap ∧ (l = [] ∨ ∃ k o C ty fz, a = some ⟨k, o, none⟩ ∧ F k = some (.cells C ty fz) ∧ ∀ (j : Nat) s, l[j]? = some s → C[o + j]? = some (.string s) ∧ s.size ≤ maxLen)

theorem FS.mono {F F' : Nat → Option Obj} (h : ∀ k o, F k = some o → F' k = some o) {σ : Sg} {rows : List (List Int)} {x : Value} (hx : FS F σ rows x) : FS F' σ rows x := by
  obtain ⟨h1, h2, h3, a, cap, h4, hc, h5⟩ := hx
  refine ⟨h1, h2, h3, a, cap, h4, hc, h5.imp id ?_⟩
  rintro ⟨k, o, C, ty, fz, g1, g2, g3⟩
  exact ⟨k, o, C, ty, fz, g1, h _ _ g2, g3⟩
theorem FSS.mono {F F' : Nat → Option Obj} (h : ∀ k o, F k = some o → F' k = some o) {σ : Sg} {rowss : List (List (List Int))} {x : Value} (hx : FSS F σ rowss x) : FSS F' σ rowss x := by
  obtain ⟨h3, a, cap, h4, hc, h5⟩ := hx
  refine ⟨h3, a, cap, h4, hc, h5.imp id ?_⟩
  rintro ⟨k, o, C, ty, fz, g1, g2, g3⟩
  exact ⟨k, o, C, ty, fz, g1, h _ _ g2, fun j rows hj => (g3 j rows hj).imp fun y hy => ⟨hy.1, hy.2.mono h⟩⟩
theorem FStr.mono {F F' : Nat → Option Obj} (h : ∀ k o, F k = some o → F' k = some o) {l : List ByteArray} {x : Value} (hx : FStr F l x) : FStr F' l x := by
  obtain ⟨h3, a, cap, h4, hc, h5⟩ := hx
  refine ⟨h3, a, cap, h4, hc, h5.imp id ?_⟩
  rintro ⟨k, o, C, ty, fz, g1, g2, g3⟩
  exact ⟨k, o, C, ty, fz, g1, h _ _ g2, g3⟩

def Den (ρ : Rho) : AV → Value → Prop
  | .any, _ => True
  | .i k n, x => x = .int k n ∧ rng k n
  | .b p, x => x = .bool p
  | .d p, x => x = .bool p
  | .s s, x => x = .string s ∧ s.size ≤ maxLen
  | .ag σ xs, x => x = .agg (cellsV σ.flat xs).toArray ∧ xs.length = σ.n ∧ cellsOk σ.flat xs ∧ σ.pure = true
  | .p id off σ, x => x = .pointer (some ⟨(ρ id).blk, off, none⟩) ∧ PtrOk (ρ id) off σ
  | .pw id σ, x => x = .pointer (some ⟨(ρ id).blk, 0, none⟩) ∧ PtrOk (ρ id) 0 σ ∧ (ρ id).size = σ.n
  | .np, x => x = .pointer none
  | .sl id off len σ, x => ∃ cap, x = .slice (some ⟨(ρ id).blk, off, none⟩) len cap ∧ len ≤ cap ∧ 0 < σ.n ∧ (∀ i, i < len → PtrOk (ρ id) (off + i * σ.n) σ) ∧ off + len * σ.n ≤ (ρ id).size ∧ off + cap * σ.n ≤ (ρ id).room
  | .ow id len σ e, x => ∃ cap, x = .slice (some ⟨(ρ id).blk, 0, none⟩) len cap ∧ len ≤ cap ∧ cap ≤ maxLen ∧ (ρ id).σ = σ ∧ 0 < σ.n ∧ (ρ id).size = len * σ.n ∧ (ρ id).room = cap * σ.n ∧ (ρ id).ty = e
  | .lp id i o σ τ, x => x = .pointer (some ⟨(ρ id).blk, i * σ.n + o, none⟩) ∧ (ρ id).σ = σ ∧ σ.pure = true ∧ τ.pure = true ∧ 0 < τ.n ∧ o + τ.n ≤ σ.n ∧ i * σ.n + σ.n ≤ (ρ id).size ∧ ∀ j, j < τ.n → σ.flat.getD (o + j) .bool = τ.flat.getD j .bool
  | .fs σ rows, x => FS ρ.F σ rows x
  | .fp o σ τ xs, x => σ.pure = true ∧ τ.pure = true ∧ 0 < τ.n ∧ o + τ.n ≤ σ.n ∧ (∀ j, j < τ.n → σ.flat.getD (o + j) .bool = τ.flat.getD j .bool) ∧
      ∃ k b C ty fz, x = .pointer (some ⟨k, b + o, none⟩) ∧ ρ.F k = some (.cells C ty fz) ∧ rowAt C σ b xs
  | .fq σ rows, x => ∃ k b C ty fz y, x = .pointer (some ⟨k, b, none⟩) ∧ ρ.F k = some (.cells C ty fz) ∧ C[b]? = some y ∧ FS ρ.F σ rows y
  | .fqs s, x => s.size ≤ maxLen ∧ ∃ k b C ty fz, x = .pointer (some ⟨k, b, none⟩) ∧ ρ.F k = some (.cells C ty fz) ∧ C[b]? = some (.string s)
  | .es, x => ∃ a, x = .slice a 0 0
  | .un, x => x = undef
  | .fz σ rowss, x => FSS ρ.F σ rowss x
  | .fstr l, x => FStr ρ.F l x
  | .nsl, x => x = .slice none 0 0
  | .fn f caps, x => x = .func (.func f) #[] (caps.map fun c => Value.pointer (some ⟨(ρ c.1).blk, 0, none⟩)).toArray ∧ ∀ c ∈ caps, PtrOk (ρ c.1) 0 c.2 ∧ (ρ c.1).size = c.2.n
  | .mp id, x => x = .map (some (ρ id).blk)
  | .t2 a b, x => ∃ u v, x = .tuple #[u, v] ∧ Den ρ a u ∧ Den ρ b v
  | .t3 a b c, x => ∃ u v w, x = .tuple #[u, v, w] ∧ Den ρ a u ∧ Den ρ b v ∧ Den ρ c w
  | .t4 a b c d, x => ∃ u v w z, x = .tuple #[u, v, w, z] ∧ Den ρ a u ∧ Den ρ b v ∧ Den ρ c w ∧ Den ρ d z
  | .v y, x => x = y

/-- The ids that a value names. -/
def AV.ids : AV → List Nat
  | .p id _ _ => [id]
  | .pw id _ => [id]
  | .sl id _ _ _ => [id]
  | .ow id _ _ _ => [id]
  | .lp id _ _ _ _ => [id]
  | .fn _ caps => caps.map (·.1)
  | .mp id => [id]
  | .t2 x y => x.ids ++ y.ids
  | .t3 x y z => x.ids ++ y.ids ++ z.ids
  | .t4 x y z u => x.ids ++ y.ids ++ z.ids ++ u.ids
  | _ => []

theorem Den.congr {ρ ρ' : Rho} (hF : ρ.le ρ') : ∀ {r : AV} {x : Value}, (∀ id ∈ r.ids, ρ' id = ρ id) → Den ρ r x → Den ρ' r x
  | .any, _, _, _ => trivial
  | .i _ _, _, _, h => h
  | .b _, _, _, h => h
  | .d _, _, _, h => h
  | .s _, _, _, h => h
  | .ag _ _, _, _, h => h
  | .p id off σ, x, he, h => by simp only [Den] at *; rw [he id (by simp [AV.ids])]; exact h
  | .pw id σ, x, he, h => by simp only [Den] at *; rw [he id (by simp [AV.ids])]; exact h
  | .np, _, _, h => h
  | .sl id off len σ, x, he, h => by simp only [Den] at *; rw [he id (by simp [AV.ids])]; exact h
  | .ow id len σ e, x, he, h => by simp only [Den] at *; rw [he id (by simp [AV.ids])]; exact h
  | .lp id i o σ τ, x, he, h => by simp only [Den] at *; rw [he id (by simp [AV.ids])]; exact h
  | .fs σ rows, x, he, h => h.mono hF
  | .fp o σ τ xs, x, he, ⟨h1, h2, g1, g2, g3, k, b, C, ty, fz, h3, h4, h5⟩ => ⟨h1, h2, g1, g2, g3, k, b, C, ty, fz, h3, hF _ _ h4, h5⟩
  | .fq σ rows, x, he, ⟨k, b, C, ty, fz, y, h1, h2, h3, h4⟩ => ⟨k, b, C, ty, fz, y, h1, hF _ _ h2, h3, h4.mono hF⟩
  | .fqs s, x, he, ⟨h0, k, b, C, ty, fz, h1, h2, h3⟩ => ⟨h0, k, b, C, ty, fz, h1, hF _ _ h2, h3⟩
  | .es, _, _, h => h
  | .un, _, _, h => h
  | .fz σ rows, x, he, h => h.mono hF
  | .fstr l, x, he, h => h.mono hF
  | .nsl, _, _, h => h
  | .fn f caps, x, he, h => by
    simp only [Den] at *
    obtain ⟨h1, h2⟩ := h
    have e : ∀ c ∈ caps, ρ' c.1 = ρ c.1 := fun c hc => he c.1 (List.mem_map_of_mem hc)
    refine ⟨?_, fun c hc => by rw [e c hc]; exact h2 c hc⟩
    rw [h1]
    congr 2
    exact List.map_congr_left fun c hc => by rw [e c hc]
  | .mp id, x, he, h => by simp only [Den] at *; rw [he id (by simp [AV.ids])]; exact h
  | .t2 a b, x, he, h => by
    obtain ⟨u, v, hx, h1, h2⟩ := h
    exact ⟨u, v, hx, Den.congr hF (fun id hi => he id (by simp [AV.ids, hi])) h1, Den.congr hF (fun id hi => he id (by simp [AV.ids, hi])) h2⟩
  | .t3 a b c, x, he, h => by
    obtain ⟨u, v, w, hx, h1, h2, h3⟩ := h
    exact ⟨u, v, w, hx, Den.congr hF (fun id hi => he id (by simp [AV.ids, hi])) h1, Den.congr hF (fun id hi => he id (by simp [AV.ids, hi])) h2, Den.congr hF (fun id hi => he id (by simp [AV.ids, hi])) h3⟩
  | .t4 a b c d, x, he, h => by
    obtain ⟨u, v, w, z, hx, h1, h2, h3, h4⟩ := h
    exact ⟨u, v, w, z, hx, Den.congr hF (fun id hi => he id (by simp [AV.ids, hi])) h1, Den.congr hF (fun id hi => he id (by simp [AV.ids, hi])) h2, Den.congr hF (fun id hi => he id (by simp [AV.ids, hi])) h3, Den.congr hF (fun id hi => he id (by simp [AV.ids, hi])) h4⟩
  | .v _, _, _, h => h

def BRel (ρ : Rho) (l : Loc) (h : Option Obj) : Blk → Prop
  | .dead => True
  | .c σ xs => ∃ C : Array Value, h = some (.cells C l.ty (0, 0)) ∧ C.size = l.room ∧ l.σ = σ ∧ σ.pure = true ∧ 0 < σ.n ∧ xs.length = l.size ∧ l.size ≤ l.room ∧
      ∀ j x, xs[j]? = some x → C[j]? = some ((l.kind j).val x) ∧ (l.kind j).ok x
  | .s ss => ∃ C : Array Value, h = some (.cells C l.ty (0, 0)) ∧ C.size = l.room ∧ l.σ = .str ∧ ss.length = l.size ∧ l.size ≤ l.room ∧
      ∀ (j : Nat) (x : ByteArray), ss[j]? = some x → C[j]? = some (Value.string x) ∧ x.size ≤ maxLen
  | .l σ rows => ∃ C : Array Value, h = some (.cells C l.ty (0, 0)) ∧ C.size = l.room ∧ l.σ = σ ∧ σ.pure = true ∧ 0 < σ.n ∧ rows.length * σ.n = l.size ∧ l.size ≤ l.room ∧ rowsAt C σ 0 rows
  | .rf σ rowss => ∃ C : Array Value, h = some (.cells C l.ty (0, 0)) ∧ C.size = l.room ∧ l.σ = .ref ∧ rowss.length = l.size ∧ l.size ≤ l.room ∧
      ∀ (j : Nat) rows, rowss[j]? = some rows → ∃ y : Value, C[j]? = some y ∧ FS ρ.F σ rows y
  | .r vs => ∃ C : Array Value, h = some (.cells C l.ty (0, 0)) ∧ C.size = l.room ∧ l.σ = .ref ∧ vs.length = l.size ∧ l.size ≤ l.room ∧
      ∀ (j : Nat) (x : AV), vs[j]? = some x → ∃ y : Value, C[j]? = some y ∧ Den ρ x y ∧ y.oneCell' = true

def Blk.live : Blk → Bool
  | .dead => false
  | _ => true

def liveAt (M : List Blk) (id : Nat) : Prop := ∃ b, M[id]? = some b ∧ b.live = true

structure MRel (ρ : Rho) (M : List Blk) (w : World) : Prop where
  blk : ∀ id b, M[id]? = some b → BRel ρ (ρ id) w.heap[(ρ id).blk]? b
  inj : ∀ i j, liveAt M i → liveAt M j → (ρ i).blk = (ρ j).blk → i = j
  cl : ∀ (id : Nat) (vs : List AV), M[id]? = some (.r vs) → ∀ x ∈ vs, ∀ i ∈ x.ids, i < M.length
  env : ∀ k o, ρ.F k = some o → w.heap[k]? = some o ∧ ∀ i, liveAt M i → (ρ i).blk ≠ k

end Go.Eng
