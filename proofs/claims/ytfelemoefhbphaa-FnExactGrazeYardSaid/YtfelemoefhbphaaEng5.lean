/- The engine, part 5: operations that leave memory alone. No conditions. -/
import Derived.Test.YtfelemoefhbphaaEng4
import Derived.Laws.StructEq
namespace Go.Eng
open Go Go.RowKit
variable {P : Program} {Γ : Tab}

def allP : List Prop → Prop
  | [] => True
  | p :: ps => p ∧ allP ps

theorem allP_app {a b : List Prop} : allP (a ++ b) ↔ allP a ∧ allP b := by
  induction a with
  | nil => simp [allP]
  | cons x l ih => simp only [List.cons_append, allP, ih, and_assoc]

def bitsI (op : BinOp) (k : IntKind) (x y : Int) : Int :=
  let a := BitVec.ofInt k.bits x
  let b := BitVec.ofInt k.bits y
  k.wrap (match op with
    | .and => (a &&& b).toNat
    | .or => (a ||| b).toNat
    | .xor => (a ^^^ b).toNat
    | _ => (a &&& ~~~b).toNat)

def ar (wr : Bool) (k : IntKind) (n : Int) : Option (AV × List Prop) :=
  match wr with
  | true => some (.i k (k.wrap n), [])
  | false => some (.i k n, [rng k n])

theorem ar_sound {ρ : Rho} {wr : Bool} {k : IntKind} {n : Int} {r : AV} {vcs : List Prop} (h : ar wr k n = some (r, vcs)) (hv : allP vcs) : Den ρ r (.int k (k.wrap n)) ∧ r.ids = [] := by
  cases wr with
  | true => cases h; exact ⟨⟨rfl, rng_wrap k n⟩, rfl⟩
  | false => cases h; exact ⟨⟨by rw [wrap_of_rng hv.1], hv.1⟩, rfl⟩

def evInt (wr : Bool) (op : BinOp) (k k' : IntKind) (a b : Int) : Option (AV × List Prop) :=
  match op with
  | .shl => some (.i k (k.wrap (a * 2 ^ (min b.toNat k.bits))), [0 ≤ b])
  | .shr => some (.i k (a.fdiv (2 ^ (min b.toNat k.bits))), [0 ≤ b, rng k (a.fdiv (2 ^ (min b.toNat k.bits)))])
  | .add => if k = k' then ar wr k (a + b) else .none
  | .sub => if k = k' then ar wr k (a - b) else .none
  | .mul => if k = k' then ar wr k (a * b) else .none
  | .quo => if k = k' then some (.i k (a.tdiv b), [b ≠ 0, rng k (a.tdiv b)]) else .none
  | .rem => if k = k' then some (.i k (a.tmod b), [b ≠ 0, rng k (a.tmod b)]) else .none
  | .and => if k = k' then some (.i k (bitsI .and k a b), []) else .none
  | .or => if k = k' then some (.i k (bitsI .or k a b), []) else .none
  | .xor => if k = k' then some (.i k (bitsI .xor k a b), []) else .none
  | .andNot => if k = k' then some (.i k (bitsI .andNot k a b), []) else .none
  | .eql => if k = k' then some (.b (decide (a = b)), []) else .none
  | .neq => if k = k' then some (.b (!decide (a = b)), []) else .none
  | .lss => if k = k' then some (.b (decide (a < b)), []) else .none
  | .leq => if k = k' then some (.b (decide (a ≤ b)), []) else .none
  | .gtr => if k = k' then some (.b (decide (b < a)), []) else .none
  | .geq => if k = k' then some (.b (decide (b ≤ a)), []) else .none

theorem run_eqGuard_int (w : World) (op : BinOp) (t : TypeId) (x y : Operand) (k k' : IntKind) (a b : Int) : (eqGuard op t x y (.int k a) (.int k' b)).run P w = .ok () w := by
  unfold eqGuard
  split <;> rfl

theorem evInt_sound {ρ : Rho} {wr : Bool} {op : BinOp} {k k' : IntKind} {a b : Int} {r : AV} {vcs : List Prop} (t : TypeId) (h : evInt wr op k k' a b = some (r, vcs)) (hv : allP vcs) (w : World) :
    ∃ z, Den ρ r z ∧ r.ids = [] ∧ (binOp op t (.int k a) (.int k' b)).run P w = .ok z w := by
  cases op <;> simp only [evInt] at h
  case shl =>
    cases h
    refine ⟨_, ⟨rfl, rng_wrap _ _⟩, rfl, ?_⟩
    have : ¬ b < 0 := by have := hv.1; omega
    simp [binOp, Op.shift, this]
  case shr =>
    cases h
    refine ⟨_, ⟨rfl, hv.2.1⟩, rfl, ?_⟩
    have : ¬ b < 0 := by have := hv.1; omega
    simp [binOp, Op.shift, this]
  all_goals
    split at h
    case isFalse => cases h
    rename_i ek
    subst ek
  case add => exact ⟨_, (ar_sound h hv).1, (ar_sound (ρ := ρ) h hv).2, by simp [binOp, Op.intArith]⟩
  case sub => exact ⟨_, (ar_sound h hv).1, (ar_sound (ρ := ρ) h hv).2, by simp [binOp, Op.intArith]⟩
  case mul => exact ⟨_, (ar_sound h hv).1, (ar_sound (ρ := ρ) h hv).2, by simp [binOp, Op.intArith]⟩
  case quo =>
    cases h
    refine ⟨_, ⟨rfl, hv.2.1⟩, rfl, ?_⟩
    have h0 : b ≠ 0 := hv.1
    simp [binOp, Op.intDiv, h0, wrap_of_rng hv.2.1]
  case rem =>
    cases h
    refine ⟨_, ⟨rfl, hv.2.1⟩, rfl, ?_⟩
    have h0 : b ≠ 0 := hv.1
    simp [binOp, Op.intDiv, h0]
  case and => cases h; exact ⟨_, ⟨rfl, rng_wrap _ _⟩, rfl, by simp [binOp, Op.intBits, bitsI]⟩
  case or => cases h; exact ⟨_, ⟨rfl, rng_wrap _ _⟩, rfl, by simp [binOp, Op.intBits, bitsI]⟩
  case xor => cases h; exact ⟨_, ⟨rfl, rng_wrap _ _⟩, rfl, by simp [binOp, Op.intBits, bitsI]⟩
  case andNot => cases h; exact ⟨_, ⟨rfl, rng_wrap _ _⟩, rfl, by simp [binOp, Op.intBits, bitsI]⟩
  case eql => cases h; exact ⟨_, rfl, rfl, by simp [binOp, Op.intCmp]; rfl⟩
  case neq => cases h; exact ⟨_, rfl, rfl, by simp [binOp, Op.intCmp]; rfl⟩
  case lss => cases h; exact ⟨_, rfl, rfl, by simp [binOp, Op.intCmp]⟩
  case leq => cases h; exact ⟨_, rfl, rfl, by simp [binOp, Op.intCmp]⟩
  case gtr => cases h; exact ⟨_, rfl, rfl, by simp [binOp, Op.intCmp]⟩
  case geq => cases h; exact ⟨_, rfl, rfl, by simp [binOp, Op.intCmp]⟩

end Go.Eng
