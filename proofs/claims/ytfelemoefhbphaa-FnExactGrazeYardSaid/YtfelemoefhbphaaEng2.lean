/- The engine, part 2: the table of types, and what an operation that leaves memory alone comes to. No conditions. -/
import Derived.Test.YtfelemoefhbphaaEng1
namespace Go.Eng
open Go Go.RowKit

theorem wrap_of_rng {k : IntKind} {n : Int} (h : rng k n) : k.wrap n = n := by
  unfold rng at h
  cases k <;> simp only [lo, hi] at h <;> simp [IntKind.wrap, IntKind.bits, IntKind.signed] <;> (try split) <;> omega

theorem rng_wrap (k : IntKind) (n : Int) : rng k (k.wrap n) := by
  unfold rng
  cases k <;> simp [lo, hi, IntKind.wrap, IntKind.bits, IntKind.signed] <;> (try split) <;> omega

structure Tab where
  sg : TypeId → Sg
  sl : TypeId → Option TypeId

def zeroOk : Sg → Value → Bool
  | σ, .agg cs => σ.pure && (match σ.inf with | .arr _ _ => true | .st _ => true | _ => false) && cs.size == σ.n && (List.range σ.n).all fun j =>
      match σ.flat[j]?, cs[j]? with
      | some (.int k), some (.int k' n) => k == k' && n == 0
      | some .bool, some (.bool b) => !b
      | _, _ => false
  | σ, .int k n => (match σ.inf with | .cell (.int k') => k == k' | _ => false) && n == 0
  | σ, .bool b => (match σ.inf with | .cell .bool => true | _ => false) && !b
  | σ, .string s => (match σ with | .str => true | _ => false) && s.size == 0
  | σ, .slice .none 0 0 => σ == .ref
  | σ, .map .none => σ == .ref
  | σ, .nilFunc => σ == .ref
  | σ, .pointer .none => σ == .ref
  | _, _ => false

def infoOk (P : Program) (σ : Sg) (t : TypeId) : Bool :=
  match P.info? t with
  | some i => i.size == σ.n && (match i.zero with | some z => zeroOk σ z | .none => false) && decide (i.bytes ≤ 4096)
  | .none => false

def fldsOk (Γ : Tab) (gs : Array Field) (fs : List Sg) : Bool :=
  gs.size == fs.length && ((List.range fs.length).all fun i =>
    match gs[i]?, fldAt fs i with
    | some g, some (o, τ) => g.offset == o && Γ.sg g.type == τ && g.name != "_"
    | _, _ => false)

def shapeOk (P : Program) (Γ : Tab) (t : TypeId) : Inf → Option TypeDesc → Bool
  | .cell (.int k), some (.int k') => k == k'
  | .cell .bool, some .bool => true
  | .arr n e, some (.array m t') => n == m && Γ.sg t' == e && !(P.eqGuardType P.depth t)
  | .st fs, some (.struct gs) => fldsOk Γ gs fs && !(P.stoodInHeld t) && !(P.eqGuardType P.depth t)
  | .str, some .string => true
  | .ref, some (.slice _) => true
  | .ref, some (.map _ _) => true
  | .ref, some (.func _ _ _) => true
  | .ref, some (.pointer _) => true
  | _, _ => false

def tyOk (P : Program) (Γ : Tab) (t : TypeId) : Bool := Γ.sg t == .none || (infoOk P (Γ.sg t) t && shapeOk P Γ t (Γ.sg t).inf (P.underlying t))

structure TabOk (P : Program) (Γ : Tab) : Prop where
  ty : ∀ t, tyOk P Γ t = true
  sl : ∀ t e, Γ.sl t = some e → P.underlying t = some (.slice e)
  mixed : P.follows .mixedOrders = true


/-! ## What the table tells -/
variable {P : Program} {Γ : Tab}

theorem TabOk.two (H : TabOk P Γ) {t : TypeId} {σ : Sg} (h : Γ.sg t = σ) (hn : σ ≠ .none) : infoOk P σ t = true ∧ shapeOk P Γ t σ.inf (P.underlying t) = true := by
  have hh := H.ty t
  unfold tyOk at hh
  rw [h] at hh
  simp only [Bool.or_eq_true, Bool.and_eq_true, beq_iff_eq] at hh
  exact hh.resolve_left hn

theorem TabOk.parts5 (H : TabOk P Γ) {t : TypeId} {σ : Sg} (h : Γ.sg t = σ) (hn : σ ≠ .none) :
    ∃ i z, P.info? t = some i ∧ i.size = σ.n ∧ i.zero = some z ∧ zeroOk σ z = true ∧ i.bytes ≤ 4096 := by
  have h1 := (H.two h hn).1
  unfold infoOk at h1
  split at h1
  · rename_i i hi
    simp only [Bool.and_eq_true, beq_iff_eq, decide_eq_true_eq] at h1
    obtain ⟨⟨h1, h2⟩, h3⟩ := h1
    split at h2
    · rename_i z hz
      exact ⟨i, z, hi, h1, hz, h2, h3⟩
    · cases h2
  · cases h1

theorem TabOk.parts (H : TabOk P Γ) {t : TypeId} {σ : Sg} (h : Γ.sg t = σ) (hn : σ ≠ .none) :
    ∃ i z, P.info? t = some i ∧ i.size = σ.n ∧ i.zero = some z ∧ zeroOk σ z = true := by
  obtain ⟨i, z, h1, h2, h3, h4, -⟩ := H.parts5 h hn
  exact ⟨i, z, h1, h2, h3, h4⟩

theorem inf_ne {σ : Sg} (h : σ.inf ≠ .st []) : σ ≠ .none := by rintro rfl; exact h rfl

theorem TabOk.cell (H : TabOk P Γ) {t : TypeId} {σ : Sg} {k : CK} (h : Γ.sg t = σ) (hc : σ.inf = .cell k) :
    P.underlying t = some (match k with | .int k => .int k | .bool => .bool) := by
  have h1 := (H.two h (inf_ne (by rw [hc]; simp))).2
  rw [hc] at h1
  cases hu : P.underlying t with
  | none => rw [hu] at h1; cases k <;> cases h1
  | some d => rw [hu] at h1; cases k <;> cases d <;> simp_all [shapeOk]

theorem TabOk.arr (H : TabOk P Γ) {t : TypeId} {σ e : Sg} {n : Nat} (h : Γ.sg t = σ) (hc : σ.inf = .arr n e) :
    ∃ t', P.underlying t = some (.array n t') ∧ Γ.sg t' = e ∧ P.eqGuardType P.depth t = false := by
  have h1 := (H.two h (inf_ne (by rw [hc]; simp))).2
  rw [hc] at h1
  cases hu : P.underlying t with
  | none => rw [hu] at h1; cases h1
  | some d => rw [hu] at h1; cases d <;> simp_all [shapeOk]

theorem TabOk.st (H : TabOk P Γ) {t : TypeId} {σ : Sg} {fs : List Sg} (h : Γ.sg t = σ) (hn : σ ≠ .none) (hc : σ.inf = .st fs) :
    ∃ gs, P.underlying t = some (.struct gs) ∧ fldsOk Γ gs fs = true ∧ P.stoodInHeld t = false ∧ P.eqGuardType P.depth t = false := by
  have h1 := (H.two h hn).2
  rw [hc] at h1
  cases hu : P.underlying t with
  | none => rw [hu] at h1; cases h1
  | some d => rw [hu] at h1; cases d <;> simp_all [shapeOk]

theorem TabOk.str (H : TabOk P Γ) {t : TypeId} (h : Γ.sg t = .str) : P.underlying t = some .string := by
  have h1 := (H.two h (by decide)).2
  cases hu : P.underlying t with
  | none => rw [hu] at h1; cases h1
  | some d => rw [hu] at h1; cases d <;> simp_all [shapeOk, Sg.inf]

/-- Not an aggregate. -/
theorem TabOk.refs (H : TabOk P Γ) {t : TypeId} (h : Γ.sg t = .ref) : ∃ d, P.underlying t = some d ∧ (match d with | .struct _ | .array _ _ => true | _ => false) = false := by
  have h1 := (H.two h (by decide)).2
  cases hu : P.underlying t with
  | none => rw [hu] at h1; cases h1
  | some d => rw [hu] at h1; exact ⟨d, rfl, by cases d <;> simp_all [shapeOk, Sg.inf]⟩

theorem fldsOk_at {gs : Array Field} {fs : List Sg} (h : fldsOk Γ gs fs = true) {i o : Nat} {τ : Sg} (hf : fldAt fs i = some (o, τ)) :
    ∃ g, gs[i]? = some g ∧ g.offset = o ∧ Γ.sg g.type = τ ∧ g.name ≠ "_" := by
  unfold fldsOk at h
  simp only [Bool.and_eq_true, beq_iff_eq, List.all_eq_true, List.mem_range] at h
  obtain ⟨-, h⟩ := h
  have hi : i < fs.length := by
    clear h
    induction fs generalizing i o τ with
    | nil => simp [fldAt] at hf
    | cons a l ih =>
      cases i with
      | zero => simp
      | succ i =>
        simp only [fldAt] at hf
        split at hf
        · rename_i o' τ' h'
          have := ih h'
          simp; omega
        · cases hf
  have h2 := h i hi
  rw [hf] at h2
  split at h2
  · rename_i g o' τ' hg e
    cases e
    simp only [Bool.and_eq_true, beq_iff_eq, bne_iff_ne, ne_eq] at h2
    exact ⟨g, hg, h2.1.1, h2.1.2, h2.2⟩
  · cases h2

end Go.Eng
