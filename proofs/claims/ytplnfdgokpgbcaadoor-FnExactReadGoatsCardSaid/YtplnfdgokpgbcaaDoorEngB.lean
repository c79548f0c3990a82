/- The engine, texts 5 5b 6 6b 6c 6d 6e 7 8 8b 8c 9. No conditions. -/
import Derived.Test.YtplnfdgokpgbcaaDoorEngA
import Derived.Laws.StructEq
import Derived.Lib.Builder
import Derived.Laws.Tables
import Derived.Laws.BytesString
/- The engine, part 5: operations that leave memory alone. No conditions. -/
namespace Go.Eng
open Go Go.RowKit
set_option linter.unusedSectionVars false
variable [Glob]
variable {P : Program} {Γ : Tab}

def allP : List Prop → Prop
  | [] => True
  | p :: ps => p ∧ allP ps

theorem allP_app {a b : List Prop} : allP (a ++ b) ↔ allP a ∧ allP b := by
  induction a with
  | nil => simp [allP]
  | cons x l ih => simp only [List.cons_append, allP, ih, and_assoc]

def bitsI (op : BinOp) (k : IntKind) (x y : Int) : Int :=
  let a := BitVec.ofInt k.bits x
  let b := BitVec.ofInt k.bits y
  k.wrap (match op with
    | .and => (a &&& b).toNat
    | .or => (a ||| b).toNat
    | .xor => (a ^^^ b).toNat
    | _ => (a &&& ~~~b).toNat)

def ar (wr : Bool) (k : IntKind) (n : Int) : Option (AV × List Prop) :=
  match wr with
  | true => some (.i k (k.wrap n), [])
  | false => some (.i k n, [rng k n])

theorem ar_sound {ρ : Rho} {wr : Bool} {k : IntKind} {n : Int} {r : AV} {vcs : List Prop} (h : ar wr k n = some (r, vcs)) (hv : allP vcs) : Den ρ r (.int k (k.wrap n)) ∧ r.ids = [] := by
  cases wr with
  | true => cases h; exact ⟨⟨rfl, rng_wrap k n⟩, rfl⟩
  | false => cases h; exact ⟨⟨by rw [wrap_of_rng hv.1], hv.1⟩, rfl⟩

def evInt (wr : Bool) (op : BinOp) (k k' : IntKind) (a b : Int) : Option (AV × List Prop) :=
  match op with
  | .shl => some (.i k (k.wrap (a * 2 ^ (min b.toNat k.bits))), [0 ≤ b])
  | .shr => some (.i k (a.fdiv (2 ^ (min b.toNat k.bits))), [0 ≤ b, rng k (a.fdiv (2 ^ (min b.toNat k.bits)))])
  | .add => if k = k' then ar wr k (a + b) else .none
  | .sub => if k = k' then ar wr k (a - b) else .none
  | .mul => if k = k' then ar wr k (a * b) else .none
  | .quo => if k = k' then some (.i k (a.tdiv b), [b ≠ 0, rng k (a.tdiv b)]) else .none
  | .rem => if k = k' then some (.i k (a.tmod b), [b ≠ 0, rng k (a.tmod b)]) else .none
  | .and => if k = k' then some (.i k (bitsI .and k a b), []) else .none
  | .or => if k = k' then some (.i k (bitsI .or k a b), []) else .none
  | .xor => if k = k' then some (.i k (bitsI .xor k a b), []) else .none
  | .andNot => if k = k' then some (.i k (bitsI .andNot k a b), []) else .none
  | .eql => if k = k' then some (.b (decide (a = b)), []) else .none
  | .neq => if k = k' then some (.b (!decide (a = b)), []) else .none
  | .lss => if k = k' then some (.b (decide (a < b)), []) else .none
  | .leq => if k = k' then some (.b (decide (a ≤ b)), []) else .none
  | .gtr => if k = k' then some (.b (decide (b < a)), []) else .none
  | .geq => if k = k' then some (.b (decide (b ≤ a)), []) else .none

theorem run_eqGuard_int (w : World) (op : BinOp) (t : TypeId) (x y : Operand) (k k' : IntKind) (a b : Int) : (eqGuard op t x y (.int k a) (.int k' b)).run P w = .ok () w := by
  unfold eqGuard
  split <;> rfl

theorem evInt_sound {ρ : Rho} {wr : Bool} {op : BinOp} {k k' : IntKind} {a b : Int} {r : AV} {vcs : List Prop} (t : TypeId) (h : evInt wr op k k' a b = some (r, vcs)) (hv : allP vcs) (w : World) :
    ∃ z, Den ρ r z ∧ r.ids = [] ∧ (binOp op t (.int k a) (.int k' b)).run P w = .ok z w := by
  cases op <;> simp only [evInt] at h
  case shl =>
    cases h
    refine ⟨_, ⟨rfl, rng_wrap _ _⟩, rfl, ?_⟩
    have : ¬ b < 0 := by have := hv.1; omega
    simp [binOp, Op.shift, this]
  case shr =>
    cases h
    refine ⟨_, ⟨rfl, hv.2.1⟩, rfl, ?_⟩
    have : ¬ b < 0 := by have := hv.1; omega
    simp [binOp, Op.shift, this]
  all_goals
    split at h
    case isFalse => cases h
    rename_i ek
    subst ek
  case add => exact ⟨_, (ar_sound h hv).1, (ar_sound (ρ := ρ) h hv).2, by simp [binOp, Op.intArith]⟩
  case sub => exact ⟨_, (ar_sound h hv).1, (ar_sound (ρ := ρ) h hv).2, by simp [binOp, Op.intArith]⟩
  case mul => exact ⟨_, (ar_sound h hv).1, (ar_sound (ρ := ρ) h hv).2, by simp [binOp, Op.intArith]⟩
  case quo =>
    cases h
    refine ⟨_, ⟨rfl, hv.2.1⟩, rfl, ?_⟩
    have h0 : b ≠ 0 := hv.1
    simp [binOp, Op.intDiv, h0, wrap_of_rng hv.2.1]
  case rem =>
    cases h
    refine ⟨_, ⟨rfl, hv.2.1⟩, rfl, ?_⟩
    have h0 : b ≠ 0 := hv.1
    simp [binOp, Op.intDiv, h0]
  case and => cases h; exact ⟨_, ⟨rfl, rng_wrap _ _⟩, rfl, by simp [binOp, Op.intBits, bitsI]⟩
  case or => cases h; exact ⟨_, ⟨rfl, rng_wrap _ _⟩, rfl, by simp [binOp, Op.intBits, bitsI]⟩
  case xor => cases h; exact ⟨_, ⟨rfl, rng_wrap _ _⟩, rfl, by simp [binOp, Op.intBits, bitsI]⟩
  case andNot => cases h; exact ⟨_, ⟨rfl, rng_wrap _ _⟩, rfl, by simp [binOp, Op.intBits, bitsI]⟩
  case eql => cases h; exact ⟨_, rfl, rfl, by simp [binOp, Op.intCmp]; rfl⟩
  case neq => cases h; exact ⟨_, rfl, rfl, by simp [binOp, Op.intCmp]; rfl⟩
  case lss => cases h; exact ⟨_, rfl, rfl, by simp [binOp, Op.intCmp]⟩
  case leq => cases h; exact ⟨_, rfl, rfl, by simp [binOp, Op.intCmp]⟩
  case gtr => cases h; exact ⟨_, rfl, rfl, by simp [binOp, Op.intCmp]⟩
  case geq => cases h; exact ⟨_, rfl, rfl, by simp [binOp, Op.intCmp]⟩

end Go.Eng

/- The engine, part 5b: parts of aggregates, and equality of two aggregates. No conditions. -/
namespace Go.Eng
open Go Go.RowKit
set_option linter.unusedSectionVars false
variable [Glob]
variable {P : Program} {Γ : Tab}

theorem cellsV_getE : ∀ (ks : List CK) (xs : List Int) (j : Nat), (cellsV ks xs)[j]? = (ks[j]?).bind fun k => (xs[j]?).map fun x => k.val x
  | [], xs, j => by simp [cellsV]
  | k :: ks, [], j => by cases h : (k :: ks)[j]? <;> simp [cellsV]
  | k :: ks, x :: xs, 0 => by simp [cellsV]
  | k :: ks, x :: xs, j + 1 => by simpa [cellsV] using cellsV_getE ks xs j

theorem cellsV_sub (ks ks' : List CK) (xs : List Int) (o n : Nat) (hn : ks'.length = n) (hk : ∀ j, j < n → ks[o + j]? = ks'[j]?) :
    ((cellsV ks xs).drop o).take n = cellsV ks' ((xs.drop o).take n) := by
  apply List.ext_getElem?
  intro j
  rw [cellsV_getE]
  by_cases hj : j < n
  · rw [List.getElem?_take, if_pos hj, List.getElem?_drop, cellsV_getE, hk j hj, List.getElem?_take, if_pos hj, List.getElem?_drop]
  · rw [List.getElem?_take, if_neg hj, List.getElem?_eq_none (l := ks') (by omega)]
    rfl

theorem cellsOk_sub : ∀ (ks ks' : List CK) (xs : List Int) (o n : Nat), ks'.length = n → (∀ j, j < n → ks[o + j]? = ks'[j]?) → cellsOk ks xs → cellsOk ks' ((xs.drop o).take n) := by
  intro ks ks' xs o n
  induction ks' generalizing o n with
  | nil => intros; trivial
  | cons k' ks' ih =>
    intro hn hk hok
    subst hn
    cases hx : xs.drop o with
    | nil => simp [cellsOk]
    | cons x r =>
      have h0 : xs[o]? = some x := by rw [← List.head?_drop, hx]; rfl
      have hr : xs.drop (o + 1) = r := by rw [← List.drop_drop, hx]; rfl
      refine ⟨?_, ?_⟩
      · have := hk 0 (by simp)
        exact cellsOk_get ks xs o x k' hok h0 (by simpa using this)
      · rw [← hr]
        exact ih (o + 1) ks'.length rfl (fun j hj => by
          have := hk (j + 1) (by simp; omega)
          rw [show o + 1 + j = o + (j + 1) from by omega, this]; rfl) hok

/-- A variable's value of a shape. -/
def valOf (σ : Sg) (xs : List Int) : Value :=
  match σ.inf with
  | .cell k => k.val (xs.getD 0 0)
  | _ => .agg (cellsV σ.flat xs).toArray

theorem pure_no {σ : Sg} (h : σ.pure = true) : σ.inf ≠ .str ∧ σ.inf ≠ .ref := by cases σ <;> first | (exact absurd h (by decide)) | exact ⟨by simp [Sg.inf], by simp [Sg.inf]⟩

theorem isAgg_run (H : TabOk P Γ) {t : TypeId} {σ : Sg} (ht : Γ.sg t = σ) (hn : σ ≠ .none) (hp : σ.pure = true) (w : World) :
    (isAgg t).run P w = .ok (match σ.inf with | .cell _ => false | _ => true) w := by
  unfold isAgg
  cases hi : σ.inf with
  | cell k => have hu := H.cell ht hi; simp only [Sem.run_bind, run_underlying hu, Result.andThen_ok]; cases k <;> rfl
  | arr n e => obtain ⟨t', hu, -⟩ := H.arr ht hi; simp only [Sem.run_bind, run_underlying hu, Result.andThen_ok]; rfl
  | st fs => obtain ⟨gs, hu, -⟩ := H.st ht hn hi; simp only [Sem.run_bind, run_underlying hu, Result.andThen_ok]; rfl
  | str => exact absurd hi (pure_no hp).1
  | ref => exact absurd hi (pure_no hp).2

theorem part_run (H : TabOk P Γ) {e : TypeId} {τ : Sg} (ht : Γ.sg e = τ) (hn : τ ≠ .none) (hp : τ.pure = true) {ks : List CK} {xs : List Int} {o : Nat} (ho : o + τ.n ≤ xs.length)
    (hk : ∀ j, j < τ.n → ks[o + j]? = τ.flat[j]?) (w : World) : (part e (cellsV ks xs).toArray o).run P w = .ok (valOf τ ((xs.drop o).take τ.n)) w := by
  unfold part valOf
  have hfl := Sg.flat_len τ hp
  cases hi : τ.inf with
  | cell k =>
    obtain ⟨f1, f2, -⟩ := Sg.cell_flat τ k hi
    have h0 := hk 0 (by omega)
    rw [f1] at h0
    simp only [Nat.add_zero, List.getElem?_cons_zero] at h0
    have hx : xs[o]? = some xs[o] := List.getElem?_eq_getElem (by omega)
    have hc : (cellsV ks xs).toArray[o]? = some (k.val xs[o]) := by rw [List.getElem?_toArray]; exact cellsV_get ks xs o _ k hx h0
    simp only [Sem.run_bind, isAgg_run H ht hn hp, hi, Result.andThen_ok, Bool.false_eq_true, if_false, hc, Sem.run_pure, f2]
    congr 2
    rw [List.getD_eq_getElem?_getD, List.getElem?_take]
    simp [hx]
  | arr n e' =>
    obtain ⟨i, z, hi', hsz, -, -⟩ := H.parts ht hn
    simp only [Sem.run_bind, isAgg_run H ht hn hp, hi, Result.andThen_ok, if_true, run_so hi' hsz, Sem.run_pure]
    congr 2
    rw [← cellsV_sub ks τ.flat xs o τ.n hfl hk]
    simp [List.extract_eq_take_drop]
  | st fs =>
    obtain ⟨i, z, hi', hsz, -, -⟩ := H.parts ht hn
    simp only [Sem.run_bind, isAgg_run H ht hn hp, hi, Result.andThen_ok, if_true, run_so hi' hsz, Sem.run_pure]
    congr 2
    rw [← cellsV_sub ks τ.flat xs o τ.n hfl hk]
    simp [List.extract_eq_take_drop]
  | str => exact absurd hi (pure_no hp).1
  | ref => exact absurd hi (pure_no hp).2

/-- As an abstract value. -/
def subAV (τ : Sg) (xs : List Int) (o : Nat) : AV :=
  match τ.inf with
  | .cell k => cellAV k (xs.getD o 0)
  | _ => .ag τ ((xs.drop o).take τ.n)

theorem den_sub (ρ : Rho) {τ : Sg} (hp : τ.pure = true) {ks : List CK} {xs : List Int} {o : Nat} (hok : cellsOk ks xs) (ho : o + τ.n ≤ xs.length) (hk : ∀ j, j < τ.n → ks[o + j]? = τ.flat[j]?) :
    Den ρ (subAV τ xs o) (valOf τ ((xs.drop o).take τ.n)) := by
  unfold subAV valOf
  have hfl := Sg.flat_len τ hp
  cases hi : τ.inf with
  | cell k =>
    obtain ⟨f1, f2, -⟩ := Sg.cell_flat τ k hi
    have h0 := hk 0 (by omega)
    rw [f1] at h0
    simp only [Nat.add_zero, List.getElem?_cons_zero] at h0
    have hx : xs[o]? = some xs[o] := List.getElem?_eq_getElem (by omega)
    have e : ((xs.drop o).take τ.n).getD 0 0 = xs.getD o 0 := by
      rw [List.getD_eq_getElem?_getD, List.getD_eq_getElem?_getD, List.getElem?_take, f2]; simp
    dsimp only
    rw [e, List.getD_eq_getElem?_getD, hx]
    exact den_cell ρ (cellsOk_get ks xs o _ k hok hx h0)
  | arr n e' => exact ⟨rfl, by rw [List.length_take, List.length_drop]; omega, cellsOk_sub ks τ.flat xs o τ.n hfl hk hok, hp⟩
  | st fs => exact ⟨rfl, by rw [List.length_take, List.length_drop]; omega, cellsOk_sub ks τ.flat xs o τ.n hfl hk hok, hp⟩
  | str => exact absurd hi (pure_no hp).1
  | ref => exact absurd hi (pure_no hp).2

theorem sub_ids (τ : Sg) (xs : List Int) (o : Nat) : (subAV τ xs o).ids = [] := by
  unfold subAV
  split
  · rename_i k _; cases k <;> rfl
  · rfl


/-! ## Equality -/
def Sg.dep : Sg → Nat
  | .spot => 1 | .row => 1 | .grid => 2 | .w10 => 1 | .pas => 3 | .tab => 1 | .gro => 2 | .goat => 2 | .hur => 2
  | .b10 => 1 | .bgrid => 2 | .l10 => 1 | .lgrid => 2 | .two => 1 | .sp2 => 2 | .g8r => 1 | .g8 => 2 | .flo => 3 | _ => 0

theorem Sg.dep_arr {σ e : Sg} {n : Nat} (h : σ.inf = .arr n e) : e.dep < σ.dep := by
  cases σ <;> simp only [Sg.inf, Inf.arr.injEq, reduceCtorEq] at h <;> obtain ⟨rfl, rfl⟩ := h <;> decide
theorem Sg.dep_st {σ : Sg} {fs : List Sg} (h : σ.inf = .st fs) : ∀ τ ∈ fs, τ.dep < σ.dep ∧ τ ≠ .none := by
  cases σ <;> simp only [Sg.inf, Inf.st.injEq, reduceCtorEq] at h <;> subst h <;> decide

theorem app_iff {α : Type} {a b c d : List α} (h : a.length = c.length) : a ++ b = c ++ d ↔ a = c ∧ b = d := by
  constructor
  · intro e; exact List.append_inj e h
  · rintro ⟨rfl, rfl⟩; rfl

theorem drop_split {α : Type} (xs : List α) (o a b : Nat) : (xs.drop o).take (a + b) = (xs.drop o).take a ++ (xs.drop (o + a)).take b := by
  rw [List.take_add, List.drop_drop]

theorem eqItems_run {d : Nat} {e : TypeId} {c : Nat} {cs ds : List CK} {xs ys : List Int} {w : World}
    (step : ∀ i o, o = i * c → o + c ≤ xs.length → ∃ u v, (part e (cellsV cs xs).toArray o).run P w = .ok u w ∧ (part e (cellsV ds ys).toArray o).run P w = .ok v w ∧ (Op.equalIn d e u v).run P w = .ok (decide ((xs.drop o).take c = (ys.drop o).take c)) w)
    (hl : xs.length = ys.length) : ∀ (m k : Nat), (k + m) * c ≤ xs.length →
    (Op.eqItems d e c (cellsV cs xs).toArray (cellsV ds ys).toArray (List.range' k m)).run P w = .ok (decide ((xs.drop (k * c)).take (m * c) = (ys.drop (k * c)).take (m * c))) w := by
  intro m
  induction m with
  | zero => intro k _; simp [Op.eqItems]
  | succ m ih =>
    intro k hk
    have hkc : (k + (m + 1)) * c = k * c + c + m * c := by rw [Nat.add_mul, Nat.succ_mul]; omega
    obtain ⟨u, v, h1, h2, h3⟩ := step k (k * c) rfl (by omega)
    rw [List.range'_succ]
    simp only [Op.eqItems, Sem.run_bind, h1, h2, h3, Result.andThen_ok]
    have hi := ih (k + 1) (by rw [show k + 1 + m = k + (m + 1) from by omega]; exact hk)
    have e1 : (k + 1) * c = k * c + c := Nat.succ_mul k c
    rw [e1] at hi
    rw [show (m + 1) * c = c + m * c from by rw [Nat.succ_mul]; omega, drop_split, drop_split]
    have hlen : ((xs.drop (k * c)).take c).length = ((ys.drop (k * c)).take c).length := by simp [hl]
    by_cases heq : (xs.drop (k * c)).take c = (ys.drop (k * c)).take c
    · simp only [heq, decide_true, Bool.not_true, Bool.false_eq_true, if_false, hi]
      congr 1
      simp
    · simp only [heq, decide_false, Bool.not_false, if_true, Sem.run_pure]
      congr 1
      rw [eq_comm, decide_eq_false_iff_not, app_iff hlen]
      exact fun h => heq h.1

theorem eqFields_run {d : Nat} {cs ds : List CK} {xs ys : List Int} {w : World} (hl : xs.length = ys.length) : ∀ (gl : List Field) (fl : List Sg) (o : Nat), gl.length = fl.length →
    (∀ i g τ, gl[i]? = some g → fl[i]? = some τ → g.offset = o + sumN (fl.take i) ∧ g.name ≠ "_" ∧
      ∃ u v, (part g.type (cellsV cs xs).toArray g.offset).run P w = .ok u w ∧ (part g.type (cellsV ds ys).toArray g.offset).run P w = .ok v w ∧ (Op.equalIn d g.type u v).run P w = .ok (decide ((xs.drop g.offset).take τ.n = (ys.drop g.offset).take τ.n)) w) →
    (Op.eqFields d (cellsV cs xs).toArray (cellsV ds ys).toArray gl).run P w = .ok (decide ((xs.drop o).take (sumN fl) = (ys.drop o).take (sumN fl))) w := by
  intro gl
  induction gl with
  | nil =>
    intro fl o hlen _
    cases fl with
    | nil => simp [Op.eqFields, sumN]
    | cons a l => simp at hlen
  | cons g gl ih =>
    intro fl o hlen hall
    cases fl with
    | nil => simp at hlen
    | cons τ fl =>
      obtain ⟨ho, hnm, u, v, h1, h2, h3⟩ := hall 0 g τ rfl rfl
      simp only [List.take_zero, sumN, Nat.add_zero] at ho
      rw [ho] at h1 h2 h3
      have hi := ih fl (o + τ.n) (by simpa using hlen) (fun i g' τ' hg hf => by
        obtain ⟨h1, h2, h3⟩ := hall (i + 1) g' τ' (by simpa using hg) (by simpa using hf)
        refine ⟨?_, h2, h3⟩
        rw [h1]; simp only [List.take_succ_cons, sumN]; omega)
      simp only [Op.eqFields, hnm, ne_eq, not_false_eq_true, if_true, Sem.run_bind, ho, h1, h2, h3, Result.andThen_ok]
      have hlen' : ((xs.drop o).take τ.n).length = ((ys.drop o).take τ.n).length := by simp [hl]
      have key : (xs.drop o).take (sumN (τ :: fl)) = (ys.drop o).take (sumN (τ :: fl)) ↔ (xs.drop o).take τ.n = (ys.drop o).take τ.n ∧ (xs.drop (o + τ.n)).take (sumN fl) = (ys.drop (o + τ.n)).take (sumN fl) := by
        show (xs.drop o).take (τ.n + sumN fl) = (ys.drop o).take (τ.n + sumN fl) ↔ _
        rw [drop_split, drop_split, app_iff hlen']
      by_cases heq : (xs.drop o).take τ.n = (ys.drop o).take τ.n
      · simp only [heq, decide_true, Bool.not_true, Bool.false_eq_true, if_false, hi]
        congr 1
        rw [decide_eq_decide, key]
        exact ⟨fun h => ⟨heq, h⟩, fun h => h.2⟩
      · simp only [heq, decide_false, Bool.not_false, if_true, Sem.run_pure]
        congr 1
        rw [eq_comm, decide_eq_false_iff_not, key]
        exact fun h => heq h.1

theorem fldAt_get : ∀ (fs : List Sg) (i : Nat) (τ : Sg), fs[i]? = some τ → fldAt fs i = some (sumN (fs.take i), τ)
  | [], i, τ, h => by simp at h
  | a :: l, 0, τ, h => by simp at h; subst h; rfl
  | a :: l, i + 1, τ, h => by
    have := fldAt_get l i τ (by simpa using h)
    simp only [fldAt, this, List.take_succ_cons, sumN]

theorem eq_sound (H : TabOk P Γ) (w : World) : ∀ (m : Nat) (σ : Sg) (t : TypeId) (d : Nat) (xs ys : List Int), σ.dep < m → Γ.sg t = σ → σ ≠ .none → σ.pure = true → xs.length = σ.n → ys.length = σ.n → cellsOk σ.flat xs → cellsOk σ.flat ys →
    (Op.equalIn (d + m) t (valOf σ xs) (valOf σ ys)).run P w = .ok (decide (xs = ys)) w
  | 0, _, _, _, _, _, h, _, _, _, _, _, _, _ => by omega
  | m + 1, σ, t, d, xs, ys, hm, ht, hn, hp, hx, hy, hox, hoy => by
    have hfl := Sg.flat_len σ hp
    cases hi : σ.inf with
    | cell k =>
      obtain ⟨f1, f2, -⟩ := Sg.cell_flat σ k hi
      have hu := H.cell ht hi
      obtain ⟨x, rfl⟩ := List.length_eq_one_iff.1 (hx.trans f2)
      obtain ⟨y, rfl⟩ := List.length_eq_one_iff.1 (hy.trans f2)
      unfold valOf
      rw [hi]
      dsimp only [List.getD_cons_zero]
      cases k with
      | int k =>
        show (Op.equalIn (d + m + 1) t (.int k x) (.int k y)).run P w = _
        rw [run_equalIn_int w (d + m) t k k x y hu]
        congr 1
        rw [Bool.eq_iff_iff]; simp
      | bool =>
        show (Op.equalIn (d + m + 1) t (.bool (x != 0)) (.bool (y != 0))).run P w = _
        rw [run_equalIn_bool' w (d + m) t _ _ hu]
        rw [f1] at hox hoy
        have h1 : x = 0 ∨ x = 1 := hox.1
        have h2 : y = 0 ∨ y = 1 := hoy.1
        congr 1
        rcases h1 with rfl | rfl <;> rcases h2 with rfl | rfl <;> rfl
    | arr n e =>
      obtain ⟨t', hu, he, -⟩ := H.arr ht hi
      obtain ⟨g1, g2, g3, g4⟩ := Sg.arr_flat σ e n hi
      have hd := Sg.dep_arr hi
      have hne : e ≠ .none := by rintro rfl; simp [Sg.n] at g4
      have hel := Sg.flat_len e g3
      obtain ⟨i, z, hi', hsz, -, -⟩ := H.parts he hne
      unfold valOf
      rw [hi]
      dsimp only
      rw [← Nat.add_assoc, run_equalIn_array w (d + m) _ _ hu hi', show P.cellsOf t' = e.n from by simp [Program.cellsOf, hi', hsz], List.range_eq_range']
      have := eqItems_run (P := P) (d := d + m) (e := t') (c := e.n) (cs := σ.flat) (ds := σ.flat) (xs := xs) (ys := ys) (w := w) (fun i o ho hle => by
        have hk : ∀ j, j < e.n → σ.flat[o + j]? = e.flat[j]? := by
          intro j hj
          rw [g1, ho, ← hel]
          have hin : i < n := by
            rcases Nat.lt_or_ge i n with h | h
            · exact h
            · have := Nat.mul_le_mul_right e.n h; omega
          exact rep_get e.flat n i j hin (by omega)
        refine ⟨_, _, part_run H he hne g3 (by omega) hk w, part_run H he hne g3 (by omega) hk w, ?_⟩
        exact eq_sound H w m e t' d _ _ (by omega) he hne g3 (by rw [List.length_take, List.length_drop]; omega) (by rw [List.length_take, List.length_drop]; omega) (cellsOk_sub _ _ _ _ _ hel hk hox) (cellsOk_sub _ _ _ _ _ hel hk hoy)) (by omega) n 0 (by rw [Nat.zero_add]; omega)
      rw [this]
      congr 1
      rw [Nat.zero_mul, List.drop_zero, List.drop_zero, ← g2, List.take_of_length_le (by omega), List.take_of_length_le (by omega)]
    | st fs =>
      obtain ⟨gs, hu, hf, hst, -⟩ := H.st ht hn hi
      obtain ⟨g1, g2, g3⟩ := Sg.st_flat σ fs hi
      have hd := Sg.dep_st hi
      have hfo : P.fieldsOf t = gs := by unfold Program.fieldsOf; rw [hu]
      unfold valOf
      rw [hi]
      dsimp only
      rw [← Nat.add_assoc, run_equalIn_struct w (d + m) t _ _ (by rw [hfo]; exact hu) hst, hfo]
      have hsz : gs.toList.length = fs.length := by
        have h0 := hf
        unfold fldsOk at h0
        simp only [Bool.and_eq_true, beq_iff_eq] at h0
        simpa using h0.1
      have := eqFields_run (P := P) (d := d + m) (cs := σ.flat) (ds := σ.flat) (xs := xs) (ys := ys) (w := w) (by omega) gs.toList fs 0 hsz (fun i g τ hg hτ => by
        have hfa := fldAt_get fs i τ hτ
        obtain ⟨g', hg', ho, hty, hnm⟩ := fldsOk_at hf hfa
        have : g' = g := by rw [Array.getElem?_toList] at hg; rw [hg] at hg'; exact (Option.some.inj hg').symm
        subst this
        have hmem : τ ∈ fs := List.mem_of_getElem? hτ
        obtain ⟨q1, q2⟩ := flats_fld fs i _ τ g3 hfa
        rw [← g2] at q1
        rw [← g1] at q2
        refine ⟨by omega, hnm, ?_⟩
        rw [ho]
        refine ⟨_, _, part_run H hty (hd τ hmem).2 (g3 τ hmem) (by omega) q2 w, part_run H hty (hd τ hmem).2 (g3 τ hmem) (by omega) q2 w, ?_⟩
        exact eq_sound H w m τ g'.type d _ _ (by have := (hd τ hmem).1; omega) hty (hd τ hmem).2 (g3 τ hmem) (by rw [List.length_take, List.length_drop]; omega) (by rw [List.length_take, List.length_drop]; omega) (cellsOk_sub _ _ _ _ _ (Sg.flat_len τ (g3 τ hmem)) q2 hox) (cellsOk_sub _ _ _ _ _ (Sg.flat_len τ (g3 τ hmem)) q2 hoy))
      rw [this]
      congr 1
      rw [List.drop_zero, List.drop_zero, ← g2, List.take_of_length_le (by omega), List.take_of_length_le (by omega)]
    | str => exact absurd hi (pure_no hp).1
    | ref => exact absurd hi (pure_no hp).2

end Go.Eng

/- The engine, part 6: what an operation that leaves memory alone comes to. No conditions. -/
namespace Go.Eng
open Go Go.RowKit
set_option linter.unusedSectionVars false
variable [Glob]
variable {P : Program} {Γ : Tab}

def asB : AV → Option Bool
  | .b p => some p
  | .d p => some p
  | _ => .none

theorem asB_den {ρ : Rho} {x : AV} {p : Bool} {v : Value} (h : asB x = some p) (hd : Den ρ x v) : v = .bool p := by
  cases x <;> simp only [asB, Option.some.injEq, reduceCtorEq] at h <;> subst h <;> exact hd

def evBin (Γ : Tab) (wr : Bool) (op : BinOp) (t : TypeId) (x y : AV) : Option (AV × List Prop) :=
  match x, y with
  | .i k a, .i k' b => evInt wr op k k' a b
  | .ag σ xs, .ag σ' ys => if Γ.sg t = σ ∧ σ' = σ ∧ σ ≠ .none then (match σ.inf with
      | .cell _ => .none
      | _ => match op with
        | .eql => some (.b (decide (xs = ys)), [])
        | .neq => some (.b (!decide (xs = ys)), [])
        | _ => .none) else .none
  | .s a, .s b => match op with
    | .eql => some (.b (decide (a = b)), [])
    | .neq => some (.b (!decide (a = b)), [])
    | .add => some (.s (a ++ b), [(a ++ b).size ≤ maxLen])
    | .lss => some (.b (Op.bytesLess a.toList b.toList), [])
    | _ => .none
  | .fs _ rows, .nsl => if (Γ.sl t).isSome = true then (match op with
      | .eql => some (.d false, [0 < rows.length])
      | .neq => some (.d true, [0 < rows.length])
      | _ => .none) else .none
  | .ow _ _ _ _, .nsl => if (Γ.sl t).isSome = true then (match op with
      | .eql => some (.d false, [])
      | .neq => some (.d true, [])
      | _ => .none) else .none
  | .nsl, .nsl => if (Γ.sl t).isSome = true then (match op with
      | .eql => some (.d true, [])
      | .neq => some (.d false, [])
      | _ => .none) else .none
  | x, y => match asB x, asB y with
    | some p, some q => if Γ.sg t = .bool then (match op with
      | .eql => some (.b (p == q), [])
      | .neq => some (.b (!(p == q)), [])
      | _ => .none) else .none
    | _, _ => .none

theorem run_eqGuard_any (w : World) (op : BinOp) (t : TypeId) (x y : Operand) (a b : Value) (h1 : ¬ (a = .nilIface ∧ b = .nilIface)) (h2 : ∀ cs ds, ¬ (a = .agg cs ∧ b = .agg ds)) : (eqGuard op t x y a b).run P w = .ok () w := by
  unfold eqGuard
  split <;> simp only [Bool.not_true, Bool.not_false, Bool.false_eq_true, if_false, if_true]
  all_goals first
    | rfl
    | (split
       · exact absurd ⟨rfl, rfl⟩ h1
       · exact absurd ⟨rfl, rfl⟩ (h2 _ _)
       · rfl)

theorem nil_cmp (H : TabOk P Γ) {ρ : Rho} {op : BinOp} {t : TypeId} {r : AV} {vcs : List Prop} (ox oy : Operand) {a : Option Addr} {l c : Nat} {e d : Bool} (hs : (Γ.sl t).isSome = true) (ha : a.isNone = e) (hd : d = !e)
    (h : (match op with | .eql => some (AV.d e, vcs) | .neq => some (AV.d d, vcs) | _ => .none) = some (r, vcs)) (w : World) :
    ∃ z, Den ρ r z ∧ r.ids = [] ∧ (eqGuard op t ox oy (.slice a l c) (.slice none 0 0)).run P w = .ok () w ∧ (binOp op t (.slice a l c) (.slice none 0 0)).run P w = .ok z w := by
  obtain ⟨e', he'⟩ := Option.isSome_iff_exists.1 hs
  have hu := H.sl t e' he'
  have hq : (Op.equalIn (9999 + 1) t (.slice a l c) (.slice none 0 0)).run P w = .ok a.isNone w := by
    generalize 9999 = m
    cases a <;> simp [Op.equalIn, run_underlying hu]
  subst hd
  refine (fun k : ∃ z, Den ρ r z ∧ r.ids = [] ∧ (binOp op t (.slice a l c) (.slice none 0 0)).run P w = .ok z w => ?_) ?_
  · obtain ⟨z, k1, k2, k3⟩ := k
    exact ⟨z, k1, k2, run_eqGuard_any w op t ox oy _ _ (by simp) (by simp), k3⟩
  split at h
  · cases h; exact ⟨.bool e, rfl, rfl, by simp [binOp, Op.equal, Op.maxDepth, hq, ha]⟩
  · cases h; exact ⟨.bool (!e), rfl, rfl, by simp [binOp, Op.equal, Op.maxDepth, hq, ha]⟩
  · cases h

theorem evBin_sound (H : TabOk P Γ) {ρ : Rho} {wr : Bool} {op : BinOp} {t : TypeId} {x y r : AV} {u v : Value} {vcs : List Prop} (ox oy : Operand) (h : evBin Γ wr op t x y = some (r, vcs)) (hv : allP vcs)
    (hx : Den ρ x u) (hy : Den ρ y v) (w : World) :
    ∃ z, Den ρ r z ∧ r.ids = [] ∧ (eqGuard op t ox oy u v).run P w = .ok () w ∧ (binOp op t u v).run P w = .ok z w := by
  unfold evBin at h
  split at h
  · obtain ⟨rfl, -⟩ := hx
    obtain ⟨rfl, -⟩ := hy
    obtain ⟨z, h1, h2, h3⟩ := evInt_sound (P := P) (ρ := ρ) t h hv w
    exact ⟨z, h1, h2, run_eqGuard_int w op t ox oy _ _ _ _, h3⟩
  · split at h
    · rename_i σ xs σ' ys hc
      obtain ⟨ht, hs, hn⟩ := hc
      subst hs
      obtain ⟨rfl, l1, o1, hp⟩ := hx
      obtain ⟨rfl, l2, o2, -⟩ := hy
      have hg : P.eqGuardType P.depth t = false := by
        cases hi : σ'.inf with
        | cell k => rw [hi] at h; cases h
        | arr n e => exact (H.arr ht hi).choose_spec.2.2
        | st fs => exact (H.st ht hn hi).choose_spec.2.2.2
        | str => exact absurd hi (pure_no hp).1
        | ref => exact absurd hi (pure_no hp).2
      have hd : σ'.dep < 4 := by cases σ' <;> decide
      have he := eq_sound H w 4 σ' t 9996 xs ys hd ht hn hp l1 l2 o1 o2
      have hval : ∀ zs, (match σ'.inf with | .cell _ => False | _ => True) → valOf σ' zs = .agg (cellsV σ'.flat zs).toArray := by
        intro zs hc; unfold valOf; split <;> first | rfl | (rename_i e; rw [e] at hc; exact hc.elim)
      cases hi : σ'.inf with
      | cell k => rw [hi] at h; cases h
      | str => exact absurd hi (pure_no hp).1
      | ref => exact absurd hi (pure_no hp).2
      | arr n e =>
        rw [hi] at h
        rw [hval xs (by rw [hi]; trivial), hval ys (by rw [hi]; trivial)] at he
        dsimp only at h
        split at h
        · cases h; exact ⟨_, rfl, rfl, run_eqGuard_agg w _ t ox oy _ _ hg, by rw [run_eql_struct, he]; rfl⟩
        · cases h; exact ⟨_, rfl, rfl, run_eqGuard_agg w _ t ox oy _ _ hg, by rw [run_neq_struct, he]; rfl⟩
        · cases h
      | st fs =>
        rw [hi] at h
        rw [hval xs (by rw [hi]; trivial), hval ys (by rw [hi]; trivial)] at he
        dsimp only at h
        split at h
        · cases h; exact ⟨_, rfl, rfl, run_eqGuard_agg w _ t ox oy _ _ hg, by rw [run_eql_struct, he]; rfl⟩
        · cases h; exact ⟨_, rfl, rfl, run_eqGuard_agg w _ t ox oy _ _ hg, by rw [run_neq_struct, he]; rfl⟩
        · cases h
    · cases h
  · obtain ⟨rfl, -⟩ := hx
    obtain ⟨rfl, -⟩ := hy
    rename_i a b
    have hb : (a.toList == b.toList) = decide (a = b) := by
      rw [Bool.eq_iff_iff, beq_iff_eq, decide_eq_true_iff, ByteArray.toList_eq, ByteArray.toList_eq]
      obtain ⟨⟨x⟩⟩ := a
      obtain ⟨⟨y⟩⟩ := b
      simp
    refine (fun k : ∃ z, Den ρ r z ∧ r.ids = [] ∧ (binOp op t (.string a) (.string b)).run P w = .ok z w => ?_) ?_
    · obtain ⟨z, k1, k2, k3⟩ := k
      exact ⟨z, k1, k2, run_eqGuard_any w op t ox oy _ _ (by simp) (by simp), k3⟩
    split at h
    · cases h; exact ⟨_, rfl, rfl, by simp [binOp, Op.stringOp, hb]⟩
    · cases h; exact ⟨_, rfl, rfl, by simp [binOp, Op.stringOp, hb]⟩
    · cases h
      have h1 : (a ++ b).size ≤ maxLen := hv.1
      refine ⟨_, ⟨rfl, h1⟩, rfl, ?_⟩
      have h2 : ¬ (((a.size + b.size : Nat) : Int) > IntKind.i64.max) := by
        rw [ByteArray.size_append] at h1
        unfold maxLen at h1
        simp [IntKind.max, IntKind.signed, IntKind.bits]
        omega
      simp only [binOp, Op.stringOp]
      rw [if_neg h2]
      rfl
    · cases h; exact ⟨_, rfl, rfl, by simp [binOp, Op.stringOp]⟩
    · cases h
  · split at h
    · rename_i hs
      obtain ⟨-, -, -, a, cap, rfl, -, hx⟩ := hx
      subst hy
      rename_i rows
      have hvc : vcs = [0 < rows.length] := by split at h <;> cases h <;> rfl
      subst hvc
      have ha : a.isNone = false := by
        rcases hx with e | ⟨k, o, C, ty, fz, rfl, -⟩
        · have := hv.1; rw [e] at this; cases this
        · rfl
      exact nil_cmp H ox oy hs ha rfl (by cases op <;> first | exact h | cases h) w
    · cases h
  · split at h
    · rename_i hs
      obtain ⟨cap, rfl, -⟩ := hx
      subst hy
      have hvc : vcs = [] := by split at h <;> cases h <;> rfl
      subst hvc
      exact nil_cmp H ox oy hs (by rfl) rfl (by cases op <;> first | exact h | cases h) w
    · cases h
  · split at h
    · rename_i hs
      subst hx
      subst hy
      have hvc : vcs = [] := by split at h <;> cases h <;> rfl
      subst hvc
      exact nil_cmp H ox oy hs (by rfl) rfl (by cases op <;> first | exact h | cases h) w
    · cases h
  · split at h
    · rename_i p q hp hq
      have e1 := asB_den hp hx
      have e2 := asB_den hq hy
      subst e1
      subst e2
      split at h
      · rename_i ht
        have hu := H.cell ht (k := .bool) rfl
        have he := run_equalIn_bool w 9999 t p q hu
        refine (fun k : ∃ z, Den ρ r z ∧ r.ids = [] ∧ (binOp op t (.bool p) (.bool q)).run P w = .ok z w => ?_) ?_
        · obtain ⟨z, k1, k2, k3⟩ := k
          exact ⟨z, k1, k2, run_eqGuard_any w op t ox oy _ _ (by simp) (by simp), k3⟩
        split at h
        · cases h; exact ⟨_, rfl, rfl, by simp [binOp, Op.equal, Op.maxDepth, he]⟩
        · cases h; exact ⟨_, rfl, rfl, by simp [binOp, Op.equal, Op.maxDepth, he]⟩
        · cases h
      · cases h
    · cases h


/-- The address of field f. -/
def fldAV (Γ : Tab) (t : TypeId) (f : Nat) : AV → Option AV
  | .p id off σ => if Γ.sg t = σ ∧ σ ≠ .none then (match σ.inf with
      | .st fs => (match fldAt fs f with
        | some (o, τ) => if τ = .none then .none else some (.p id (off + o) τ)
        | .none => .none)
      | _ => .none) else .none
  | .pw id σ => if Γ.sg t = σ ∧ σ ≠ .none then (match σ.inf with
      | .st fs => (match fldAt fs f with
        | some (o, τ) => if τ = .none then .none else some (.p id o τ)
        | .none => .none)
      | _ => .none) else .none
  | _ => .none

theorem add_addr (b off j : Nat) : (⟨b, off, .none⟩ : Addr).add j = ⟨b, off + j, .none⟩ := by
  unfold Addr.add; split <;> simp_all

theorem ptr_fld {l : Loc} {off o : Nat} {σ τ : Sg} {fs : List Sg} {f : Nat} (hp : PtrOk l off σ) (hi : σ.inf = .st fs) (hf : fldAt fs f = some (o, τ)) : PtrOk l (off + o) τ ∧ τ.pure = true := by
  obtain ⟨g1, g2, g3⟩ := Sg.st_flat σ fs hi
  obtain ⟨q1, q2⟩ := flats_fld fs f o τ g3 hf
  have hpu : σ.pure = true := by cases σ <;> first | rfl | cases hi
  have hmem : τ ∈ fs := by
    clear hp hi g1 g2 q1 q2
    induction fs generalizing f o with
    | nil => simp [fldAt] at hf
    | cons a l ih =>
      cases f with
      | zero => simp only [fldAt, Option.some.injEq, Prod.mk.injEq] at hf; rw [← hf.2]; exact List.mem_cons_self
      | succ f =>
        simp only [fldAt] at hf
        split at hf
        · rename_i o' τ' h'
          simp only [Option.some.injEq, Prod.mk.injEq] at hf
          rw [← hf.2]
          exact List.mem_cons_of_mem _ (by rw [hf.2]; exact ih (o := o') (f := f) (by rw [h', hf.2]) (fun τ h => g3 τ (List.mem_cons_of_mem _ h)))
        · cases hf
  have ht := g3 τ hmem
  obtain ⟨p1, p2⟩ := hp
  rw [if_pos hpu] at p2
  refine ⟨⟨by omega, ?_⟩, ht⟩
  rw [if_pos ht]
  refine ⟨p2.1, fun j hj => ?_⟩
  have := p2.2 (o + j) (by omega)
  rw [Nat.add_assoc, this, List.getD_eq_getElem?_getD, g1, q2 j hj, ← List.getD_eq_getElem?_getD]

theorem fldAV_sound (H : TabOk P Γ) {ρ : Rho} {t : TypeId} {f : Nat} {x r : AV} {v : Value} (h : fldAV Γ t f x = some r) (hd : Den ρ x v) (w : World) :
    ∃ z, Den ρ r z ∧ (∀ i ∈ r.ids, i ∈ x.ids) ∧ (Instr.fieldAt t v f).run P w = .ok z w := by
  have core : ∀ (id off : Nat) (σ : Sg) (fs : List Sg) (o : Nat) (τ : Sg), Γ.sg t = σ → σ ≠ .none → σ.inf = .st fs → fldAt fs f = some (o, τ) → τ ≠ .none → PtrOk (ρ id) off σ →
      PtrOk (ρ id) (off + o) τ ∧ (Instr.fieldAt t (.pointer (some ⟨(ρ id).blk, off, .none⟩)) f).run P w = .ok (.pointer (some ⟨(ρ id).blk, off + o, .none⟩)) w := by
    intro id off σ fs o τ ht hn hi hf hτ hp
    obtain ⟨gs, hu, hfo, -, -⟩ := H.st ht hn hi
    obtain ⟨g, hg, go, gt, -⟩ := fldsOk_at hfo hf
    obtain ⟨i, z, hinf, hsz, -, -⟩ := H.parts gt hτ
    obtain ⟨p1, p2⟩ := ptr_fld hp hi hf
    refine ⟨p1, ?_⟩
    have hn0 : ¬ τ.n = 0 := by cases τ <;> first | (exact absurd rfl hτ) | decide
    simp only [Instr.fieldAt, Sem.run_bind, run_underlying hu, Result.andThen_ok, hg, Instr.sureAddr, Sem.run_pure, fieldPlace, run_so hinf hsz, hn0, if_false, add_addr, go]
  unfold fldAV at h
  split at h
  · split at h
    · rename_i id off σ hc
      split at h
      · rename_i fs hi
        split at h
        · rename_i o τ hf
          split at h
          · cases h
          · rename_i hτ
            cases h
            obtain ⟨rfl, hp⟩ := hd
            obtain ⟨c1, c2⟩ := core id off σ fs o τ hc.1 hc.2 hi hf hτ hp
            exact ⟨_, ⟨rfl, c1⟩, fun i hi => hi, c2⟩
        · cases h
      · cases h
    · cases h
  · split at h
    · rename_i id σ hc
      split at h
      · rename_i fs hi
        split at h
        · rename_i o τ hf
          split at h
          · cases h
          · rename_i hτ
            cases h
            obtain ⟨rfl, hp, -⟩ := hd
            obtain ⟨c1, c2⟩ := core id 0 σ fs o τ hc.1 hc.2 hi hf hτ hp
            rw [Nat.zero_add] at c1 c2
            exact ⟨_, ⟨rfl, c1⟩, fun i hi => hi, c2⟩
        · cases h
      · cases h
    · cases h
  · cases h

/-- The address of element i: of an array behind a pointer, of a slice. -/
def idxAV (Γ : Tab) (t : TypeId) : AV → AV → Option (AV × List Prop)
  | .p id off σ, .i _ i => if Γ.sg t = σ then (match σ.inf with
      | .arr n e => some (.p id (off + i.toNat * e.n) e, [0 ≤ i ∧ i < (n : Int)])
      | _ => .none) else .none
  | .pw id σ, .i _ i => if Γ.sg t = σ then (match σ.inf with
      | .arr n e => some (.p id (i.toNat * e.n) e, [0 ≤ i ∧ i < (n : Int)])
      | _ => .none) else .none
  | .ow id len σ _, .i _ i => match Γ.sl t with
      | some e => if Γ.sg e = σ ∧ σ ≠ .none then some (.p id (i.toNat * σ.n) σ, [0 ≤ i ∧ i < (len : Int)]) else .none
      | .none => .none
  | .sl id off len σ, .i _ i => match Γ.sl t with
      | some e => if Γ.sg e = σ ∧ σ ≠ .none then some (.p id (off + i.toNat * σ.n) σ, [0 ≤ i ∧ i < (len : Int)]) else .none
      | .none => .none
  | _, _ => .none

theorem ptr_idx {l : Loc} {off n i : Nat} {σ e : Sg} (hp : PtrOk l off σ) (hi : σ.inf = .arr n e) (hlt : i < n) : PtrOk l (off + i * e.n) e := by
  obtain ⟨g1, g2, g3, g4⟩ := Sg.arr_flat σ e n hi
  have hpu : σ.pure = true := by cases σ <;> first | rfl | cases hi
  obtain ⟨p1, p2⟩ := hp
  rw [if_pos hpu] at p2
  have hel := Sg.flat_len e g3
  have hle : i * e.n + e.n ≤ σ.n := by rw [g2, ← Nat.succ_mul]; exact Nat.mul_le_mul_right _ hlt
  refine ⟨by omega, ?_⟩
  rw [if_pos g3]
  refine ⟨p2.1, fun j hj => ?_⟩
  have := p2.2 (i * e.n + j) (by omega)
  have hr := rep_get e.flat n i j hlt (by omega)
  rw [hel] at hr
  rw [Nat.add_assoc, this, List.getD_eq_getElem?_getD, g1, hr, ← List.getD_eq_getElem?_getD]

theorem ptr_sl {l : Loc} {off len i : Nat} {σ : Sg} (hs : l.σ = σ) (ho : off % σ.n = 0) (hle : off + len * σ.n ≤ l.size) (hlt : i < len) : PtrOk l (off + i * σ.n) σ := by
  have h1 : i * σ.n + σ.n ≤ len * σ.n := by rw [← Nat.succ_mul]; exact Nat.mul_le_mul_right _ hlt
  refine ⟨by omega, ?_⟩
  split
  · rename_i hp
    refine ⟨by rw [hs]; exact hp, fun j hj => ?_⟩
    unfold Loc.kind
    rw [hs]
    congr 1
    rw [Nat.add_assoc, Nat.add_mod, ho, Nat.zero_add, Nat.mod_mod, Nat.add_comm, Nat.add_mul_mod_self_right, Nat.mod_eq_of_lt hj]
  · exact hs

theorem idxAV_sound (H : TabOk P Γ) {ρ : Rho} {t : TypeId} {x y r : AV} {u v : Value} {vcs : List Prop} (h : idxAV Γ t x y = some (r, vcs)) (hv : allP vcs) (hx : Den ρ x u) (hy : Den ρ y v) (w : World) :
    ∃ z, Den ρ r z ∧ (∀ i ∈ r.ids, i ∈ x.ids) ∧ (Instr.indexAt t u v).run P w = .ok z w := by
  have core : ∀ (id off n : Nat) (σ e : Sg) (k : IntKind) (i : Int), Γ.sg t = σ → σ.inf = .arr n e → PtrOk (ρ id) off σ → 0 ≤ i → i < (n : Int) →
      PtrOk (ρ id) (off + i.toNat * e.n) e ∧ (Instr.indexAt t (.pointer (some ⟨(ρ id).blk, off, .none⟩)) (.int k i)).run P w = .ok (.pointer (some ⟨(ρ id).blk, off + i.toNat * e.n, .none⟩)) w := by
    intro id off n σ e k i ht hi hp h0 h1
    obtain ⟨t', hu, he, -⟩ := H.arr ht hi
    obtain ⟨g1, g2, g3, g4⟩ := Sg.arr_flat σ e n hi
    have hne : e ≠ .none := by rintro rfl; simp [Sg.n] at g4
    obtain ⟨ti, z, hinf, hsz, -, -⟩ := H.parts he hne
    refine ⟨ptr_idx hp hi (by omega), ?_⟩
    simp only [Instr.indexAt, asIntOf, Sem.run_bind, Sem.run_pure, run_underlying hu, Result.andThen_ok, Instr.sureAddr, h0, h1, and_self, if_true, run_so hinf hsz, add_addr]
  unfold idxAV at h
  split at h
  · split at h
    · rename_i id off σ k i ht
      split at h
      · rename_i n e hi
        cases h
        obtain ⟨rfl, hp⟩ := hx
        obtain ⟨rfl, -⟩ := hy
        obtain ⟨c1, c2⟩ := core id off n σ e k i ht hi hp hv.1.1 hv.1.2
        exact ⟨_, ⟨rfl, c1⟩, fun i hi => hi, c2⟩
      · cases h
    · cases h
  · split at h
    · rename_i id σ k i ht
      split at h
      · rename_i n e hi
        cases h
        obtain ⟨rfl, hp, -⟩ := hx
        obtain ⟨rfl, -⟩ := hy
        obtain ⟨c1, c2⟩ := core id 0 n σ e k i ht hi hp hv.1.1 hv.1.2
        rw [Nat.zero_add] at c1 c2
        exact ⟨_, ⟨rfl, c1⟩, fun i hi => hi, c2⟩
      · cases h
    · cases h
  · split at h
    · rename_i id len σ e0 k i _ e hsl
      split at h
      · rename_i hc
        cases h
        obtain ⟨cap, rfl, hcap, -, hs, -, hsz', -⟩ := hx
        obtain ⟨rfl, -⟩ := hy
        obtain ⟨h0, h1⟩ := hv.1
        have hu := H.sl t e hsl
        obtain ⟨ti, z, hinf, hsz, -, -⟩ := H.parts hc.1 hc.2
        have hpt := ptr_sl (off := 0) (i := i.toNat) hs (Nat.zero_mod _) (len := len) (by omega) (by omega)
        rw [Nat.zero_add] at hpt
        refine ⟨_, ⟨rfl, hpt⟩, fun i hi => hi, ?_⟩
        simp only [Instr.indexAt, asIntOf, Sem.run_bind, Sem.run_pure, run_underlying hu, Result.andThen_ok, h0, h1, and_self, if_true, run_so hinf hsz, add_addr, Nat.zero_add]
      · cases h
    · cases h
  · split at h
    · rename_i id off len σ k i _ e hsl
      split at h
      · rename_i hc
        cases h
        obtain ⟨cap, rfl, hcap, -, hpt, hle, -⟩ := hx
        obtain ⟨rfl, -⟩ := hy
        obtain ⟨h0, h1⟩ := hv.1
        have hu := H.sl t e hsl
        obtain ⟨ti, z, hinf, hsz, -, -⟩ := H.parts hc.1 hc.2
        refine ⟨_, ⟨rfl, hpt _ (by omega)⟩, fun i hi => hi, ?_⟩
        simp only [Instr.indexAt, asIntOf, Sem.run_bind, Sem.run_pure, run_underlying hu, Result.andThen_ok, h0, h1, and_self, if_true, run_so hinf hsz, add_addr]
      · cases h
    · cases h
  · cases h

end Go.Eng

/- The engine, part 6b: rows of elements, own and frozen: addresses, loads, stores. No conditions. -/
namespace Go.Eng
open Go Go.RowKit
set_option linter.unusedSectionVars false
variable [Glob]
variable {P : Program} {Γ : Tab}

theorem flatten_getD {σn : Nat} : ∀ {rows : List (List Int)} (h : ∀ r ∈ rows, r.length = σn) (i o : Nat), i < rows.length → o < σn → rows.flatten[i * σn + o]? = (rows.getD i [])[o]?
  | [], _, i, o, hi, _ => by simp at hi
  | r :: rows, h, 0, o, _, ho => by
    have := h r List.mem_cons_self
    simp only [List.flatten_cons, Nat.zero_mul, Nat.zero_add, List.getD_cons_zero]
    rw [List.getElem?_append_left (by omega)]
  | r :: rows, h, i + 1, o, hi, ho => by
    have hr := h r List.mem_cons_self
    simp only [List.flatten_cons, List.getD_cons_succ]
    rw [List.getElem?_append_right (by rw [Nat.succ_mul]; omega), show (i + 1) * σn + o - r.length = i * σn + o from by rw [Nat.succ_mul]; omega]
    exact flatten_getD (fun r hr => h r (List.mem_cons_of_mem _ hr)) i o (by simpa using hi) ho

theorem flatten_len {σn : Nat} : ∀ {rows : List (List Int)} (_ : ∀ r ∈ rows, r.length = σn), rows.flatten.length = rows.length * σn
  | [], _ => by simp
  | r :: rows, h => by
    have := h r List.mem_cons_self
    rw [List.flatten_cons, List.length_append, flatten_len (fun r hr => h r (List.mem_cons_of_mem _ hr)), this, List.length_cons, Nat.succ_mul]; omega

theorem rowsAt_len {C : Array Value} {σ : Sg} {o : Nat} {rows : List (List Int)} (h : rowsAt C σ o rows) : ∀ r ∈ rows, r.length = σ.n := by
  intro r hr
  obtain ⟨i, hi, e⟩ := List.getElem_of_mem hr
  exact (h i r (by rw [List.getElem?_eq_getElem hi, e])).1

theorem kind_mul {l : Loc} {σ : Sg} (hs : l.σ = σ) {i j : Nat} (hj : j < σ.n) : l.kind (i * σ.n + j) = σ.flat.getD j .bool := by
  unfold Loc.kind
  rw [hs, Nat.add_comm, Nat.add_mul_mod_self_right, Nat.mod_eq_of_lt hj]

/-- A block of rows is a block of cells, and the other way. -/
theorem brel_lc {ρ : Rho} {l : Loc} {h : Option Obj} {σ : Sg} {rows : List (List Int)} (hb : BRel ρ l h (.l σ rows)) : BRel ρ l h (.c σ rows.flatten) ∧ (∀ r ∈ rows, r.length = σ.n) := by
  obtain ⟨C, h1, h2, h3, h4, h5, h6, h7, h8⟩ := hb
  have hl := rowsAt_len h8
  refine ⟨⟨C, h1, h2, h3, h4, h5, by rw [flatten_len hl, h6], h7, fun j x hx => ?_⟩, hl⟩
  have hjl : j < rows.length * σ.n := by have := (List.getElem?_eq_some_iff.1 hx).1; rwa [flatten_len hl] at this
  have hdiv : j / σ.n < rows.length := by rw [Nat.div_lt_iff_lt_mul h5]; exact hjl
  have hmod := Nat.mod_lt j h5
  have hsum : j / σ.n * σ.n + j % σ.n = j := by rw [Nat.mul_comm]; exact Nat.div_add_mod j σ.n
  have hg := flatten_getD hl (j / σ.n) (j % σ.n) hdiv hmod
  rw [hsum, hx] at hg
  have hr := h8 (j / σ.n) (rows.getD (j / σ.n) []) (by rw [List.getD_eq_getElem?_getD, List.getElem?_eq_getElem hdiv]; rfl)
  have := hr.2 _ _ hg.symm
  rw [Nat.zero_add, hsum] at this
  have hk := kind_mul h3 (i := j / σ.n) hmod
  rw [hsum] at hk
  rw [hk]
  exact this

theorem brel_cl {ρ : Rho} {l : Loc} {h : Option Obj} {σ : Sg} {rows : List (List Int)} (hl : ∀ r ∈ rows, r.length = σ.n) (hb : BRel ρ l h (.c σ rows.flatten)) : BRel ρ l h (.l σ rows) := by
  obtain ⟨C, h1, h2, h3, h4, h5, h6, h7, h8⟩ := hb
  refine ⟨C, h1, h2, h3, h4, h5, by rw [← h6, flatten_len hl], h7, fun i row hr => ?_⟩
  have hi := (List.getElem?_eq_some_iff.1 hr).1
  have hrl := hl row (List.mem_of_getElem? hr)
  refine ⟨hrl, fun j y hy => ?_⟩
  have hj : j < σ.n := by have := (List.getElem?_eq_some_iff.1 hy).1; omega
  have hg := flatten_getD hl i j hi hj
  rw [List.getD_eq_getElem?_getD, hr] at hg
  have := h8 (i * σ.n + j) y (by rw [hg]; exact hy)
  rw [kind_mul h3 hj] at this
  rw [Nat.zero_add]
  exact this

/-- Another sight of one block. -/
theorem MRel.sight {ρ : Rho} {M : List Blk} {w : World} (hM : MRel ρ M w) {id : Nat} {b b' : Blk} (hid : M[id]? = some b) (hl : b.live = true) (hl' : b'.live = true) (hb : BRel ρ (ρ id) w.heap[(ρ id).blk]? b')
    (hcl : ∀ vs, b' = .r vs → ∀ x ∈ vs, ∀ i ∈ x.ids, i < M.length) : MRel ρ (M.set id b') w := by
  have hlive : ∀ i, liveAt (M.set id b') i → liveAt M i := by
    rintro i ⟨c, hc, hv⟩
    rw [List.getElem?_set] at hc
    split at hc
    · rename_i e; subst e; exact ⟨b, hid, hl⟩
    · exact ⟨c, hc, hv⟩
  refine ⟨fun i c hc => ?_, fun i j hi hj he => hM.inj i j (hlive i hi) (hlive j hj) he, fun i vs hc x hx j hj => ?_, fun k o hk => ⟨(hM.env k o hk).1, fun i hi => (hM.env k o hk).2 i (hlive i hi)⟩⟩
  · rw [List.getElem?_set] at hc
    split at hc
    · rename_i e
      subst e
      split at hc
      · cases hc; exact hb
      · cases hc
    · exact hM.blk i c hc
  · rw [List.length_set]
    rw [List.getElem?_set] at hc
    split at hc
    · split at hc
      · cases hc; exact hcl vs rfl x hx j hj
      · cases hc
    · exact hM.cl i vs hc x hx j hj

/-- What a run does, over another sight of one block at both ends. -/
theorem After.sight {ρ ρ' : Rho} {M : List Blk} {w w' : World} {id : Nat} {b c c' b' : Blk} (hM : MRel ρ M w) (hid : M[id]? = some b) (hl : b.live = true) (hcl : c.live = true) (hcl' : c'.live = true) (hl' : b'.live = true)
    (h : After ρ (M.set id c) ((M.set id c).set id c') w w' ρ') (hb' : BRel ρ' (ρ' id) w'.heap[(ρ' id).blk]? b') (hcl2 : ∀ vs, b' = .r vs → ∀ x ∈ vs, ∀ i ∈ x.ids, i < M.length) : After ρ M (M.set id b') w w' ρ' := by
  have hlt : id < M.length := (List.getElem?_eq_some_iff.1 hid).1
  have l1 : ∀ i, liveAt (M.set id c) i ↔ liveAt M i := by
    intro i
    constructor
    · rintro ⟨d, hd, hv⟩
      rw [List.getElem?_set] at hd
      split at hd
      · rename_i e; subst e; exact ⟨b, hid, hl⟩
      · exact ⟨d, hd, hv⟩
    · rintro ⟨d, hd, hv⟩
      by_cases e : id = i
      · subst e; exact ⟨c, by rw [List.getElem?_set]; simp [hlt], hcl⟩
      · exact ⟨d, by rw [List.getElem?_set, if_neg e]; exact hd, hv⟩
  have l2 : ∀ i, liveAt (M.set id b') i → liveAt ((M.set id c).set id c') i := by
    rintro i ⟨d, hd, hv⟩
    rw [List.set_set]
    by_cases e : id = i
    · subst e; exact ⟨c', by rw [List.getElem?_set]; simp [hlt], hcl'⟩
    · rw [List.getElem?_set, if_neg e] at hd
      exact ⟨d, by rw [List.getElem?_set, if_neg e]; exact hd, hv⟩
  have hg : (M.set id c).set id c' = M.set id c' := List.set_set ..
  have hr := h.rel
  rw [hg] at hr
  have hr' := hr.sight (b := c') (b' := b') (id := id) (by rw [List.getElem?_set]; simp [hlt]) hcl' hl' hb' (by simpa using hcl2)
  rw [List.set_set] at hr'
  refine ⟨fun i hi => h.ext i (by simpa using hi), hr', by simp, fun i hi hv => (l1 i).1 (h.dead i (by simpa using hi) (l2 i hv)), fun i hi hv => ?_, fun k hk hn => h.frame k hk (fun i hi => hn i ((l1 i).1 hi)), h.os, h.tape, h.output, h.size, h.fmono, fun k o hk => ?_⟩
  · have := hv.lt; simp at this; omega
  · exact (h.fnew k o hk).imp_right (Or.imp_right fun ⟨i, q1, q2⟩ => ⟨i, (l1 i).1 q1, q2⟩)

/-- A part of a row. -/
def partOf (σ τ : Sg) (o : Nat) (row : List Int) : Option AV :=
  match τ.inf with
  | .cell k => some (cellAV k (row.getD o 0))
  | .arr _ _ => if o = 0 ∧ τ = σ then some (.ag τ row) else some (.ag τ ((row.drop o).take τ.n))
  | .st _ => if o = 0 ∧ τ = σ then some (.ag τ row) else some (.ag τ ((row.drop o).take τ.n))
  | _ => .none

def lpLoad (M : List Blk) (id i o : Nat) (σ τ : Sg) : Option AV :=
  match M[id]? with
  | some (.l _ rows) => partOf σ τ o (rows.getD i [])
  | _ => .none

/-- A row with a part of it written over. -/
def partSet (σ τ : Sg) (o : Nat) (row : List Int) (r : AV) : Option (List Int) :=
  match τ.inf with
  | .cell k => match toCell k r with
    | some n => some (row.set o n)
    | .none => .none
  | .arr _ _ => match r with
    | .ag τ' ys => if τ' = τ then (if o = 0 ∧ τ = σ then some ys else some (putSeg row o τ.n ys)) else .none
    | _ => .none
  | .st _ => match r with
    | .ag τ' ys => if τ' = τ then (if o = 0 ∧ τ = σ then some ys else some (putSeg row o τ.n ys)) else .none
    | _ => .none
  | _ => .none

def lpStore (M : List Blk) (id i o : Nat) (σ τ : Sg) (r : AV) : Option (List Blk) :=
  match M[id]? with
  | some (.l σ' rows) => match partSet σ τ o (rows.getD i []) r with
    | some row => some (M.set id (.l σ' (rows.set i row)))
    | .none => .none
  | _ => .none

theorem flatten_seg {σn : Nat} {rows : List (List Int)} (h : ∀ r ∈ rows, r.length = σn) (i o n : Nat) (hi : i < rows.length) (ho : o + n ≤ σn) : (rows.flatten.drop (i * σn + o)).take n = ((rows.getD i []).drop o).take n := by
  have hrl : (rows.getD i []).length = σn := by rw [List.getD_eq_getElem?_getD, List.getElem?_eq_getElem hi]; exact h _ (List.getElem_mem hi)
  apply List.ext_getElem?
  intro j
  rw [List.getElem?_take, List.getElem?_take]
  split
  · rename_i hj
    rw [List.getElem?_drop, List.getElem?_drop, Nat.add_assoc]
    exact flatten_getD h i (o + j) hi (by omega)
  · rfl

theorem lpLoad_sound (H : TabOk P Γ) {ρ : Rho} {M : List Blk} {w : World} (hM : MRel ρ M w) {t : TypeId} {id i o : Nat} {σ τ : Sg} {r : AV} {v : Value} (ht : Γ.sg t = τ) (hd : Den ρ (.lp id i o σ τ) v) (h : lpLoad M id i o σ τ = some r) :
    ∃ z a, Den ρ r z ∧ r.ids = [] ∧ v = .pointer (some a) ∧ (loadVar t a).run P w = .ok z w := by
  obtain ⟨rfl, hs, hpσ, hpτ, hτ0, ho, hsz, hk⟩ := hd
  unfold lpLoad at h
  split at h
  case h_2 => cases h
  rename_i σ' rows hid
  have hB := hM.blk id _ hid
  obtain ⟨hBc, hl⟩ := brel_lc hB
  have hσ' : σ' = σ := by obtain ⟨C, -, -, h3, -⟩ := hB; rw [← h3, hs]
  subst hσ'
  have hlt : id < M.length := (List.getElem?_eq_some_iff.1 hid).1
  have hM' := hM.sight (b' := .c σ' rows.flatten) hid rfl rfl hBc (fun vs e => by cases e)
  have hlen : rows.length * σ'.n = (ρ id).size := by obtain ⟨C, -, -, -, -, -, h6, -⟩ := hB; exact h6
  have hi : i < rows.length := by
    rcases Nat.lt_or_ge i rows.length with h | h
    · exact h
    · have : rows.length * σ'.n ≤ i * σ'.n := Nat.mul_le_mul_right _ h
      omega
  have hp : PtrOk (ρ id) (i * σ'.n + o) τ := by
    refine ⟨by omega, ?_⟩
    rw [if_pos hpτ]
    exact ⟨by rw [hs]; exact hpσ, fun j hj => by rw [Nat.add_assoc, kind_mul hs (by omega)]; exact hk j hj⟩
  have hg : (M.set id (.c σ' rows.flatten))[id]? = some (.c σ' rows.flatten) := by rw [List.getElem?_set]; simp [hlt]
  have hne : τ ≠ .none := by rintro rfl; cases hpτ <;> simp [Sg.n] at hτ0
  have hcell : rows.flatten.getD (i * σ'.n + o) 0 = (rows.getD i []).getD o 0 := by
    rw [List.getD_eq_getElem?_getD, List.getD_eq_getElem?_getD (l := rows.getD i []), flatten_getD hl i o hi (by omega)]
  have hseg := flatten_seg hl i o τ.n hi ho
  have hrl : (rows.getD i []).length = σ'.n := by rw [List.getD_eq_getElem?_getD, List.getElem?_eq_getElem hi]; exact hl _ (List.getElem_mem hi)
  have hwhole : o = 0 ∧ τ = σ' → (rows.flatten.drop (i * σ'.n + o)).take τ.n = rows.getD i [] := by
    rintro ⟨rfl, rfl⟩
    rw [hseg, List.drop_zero, ← hrl, List.take_length]
  have fin : ∀ r', loadAV (M.set id (.c σ' rows.flatten)) id (i * σ'.n + o) τ = some r' → ∃ z, Den ρ r' z ∧ (loadVar t ⟨(ρ id).blk, i * σ'.n + o, none⟩).run P w = .ok z w := by
    intro r' hr'
    obtain ⟨z, h1, h2⟩ := load_sound H hM' ht hne hp hr'
    exact ⟨z, h1, h2⟩
  unfold partOf at h
  split at h
  · rename_i k hinf
    cases h
    obtain ⟨z, h1, h2⟩ := fin (cellAV k ((rows.getD i []).getD o 0)) (by unfold loadAV; rw [hg]; simp only [hinf]; rw [hcell])
    exact ⟨z, _, h1, by cases k <;> rfl, rfl, h2⟩
  · rename_i n e hinf
    split at h
    · rename_i hc
      cases h
      obtain ⟨z, h1, h2⟩ := fin (.ag τ (rows.getD i [])) (by unfold loadAV; rw [hg]; simp only [hinf]; rw [hwhole hc])
      exact ⟨z, _, h1, rfl, rfl, h2⟩
    · cases h
      obtain ⟨z, h1, h2⟩ := fin (.ag τ (((rows.getD i []).drop o).take τ.n)) (by unfold loadAV; rw [hg]; simp only [hinf]; rw [hseg])
      exact ⟨z, _, h1, rfl, rfl, h2⟩
  · rename_i fs hinf
    split at h
    · rename_i hc
      cases h
      obtain ⟨z, h1, h2⟩ := fin (.ag τ (rows.getD i [])) (by unfold loadAV; rw [hg]; simp only [hinf]; rw [hwhole hc])
      exact ⟨z, _, h1, rfl, rfl, h2⟩
    · cases h
      obtain ⟨z, h1, h2⟩ := fin (.ag τ (((rows.getD i []).drop o).take τ.n)) (by unfold loadAV; rw [hg]; simp only [hinf]; rw [hseg])
      exact ⟨z, _, h1, rfl, rfl, h2⟩
  · cases h

theorem flatten_set {σn : Nat} {rows : List (List Int)} (h : ∀ r ∈ rows, r.length = σn) {row : List Int} (hrow : row.length = σn) (i o n : Nat) (ys : List Int) (hi : i < rows.length) (ho : o + n ≤ σn) (hn : ys.length = n)
    (e : row = (rows.getD i []).take o ++ ys ++ (rows.getD i []).drop (o + n)) : (rows.set i row).flatten = rows.flatten.take (i * σn + o) ++ ys ++ rows.flatten.drop (i * σn + o + n) := by
  have hrl : (rows.getD i []).length = σn := by rw [List.getD_eq_getElem?_getD, List.getElem?_eq_getElem hi]; exact h _ (List.getElem_mem hi)
  have h' : ∀ r ∈ rows.set i row, r.length = σn := by
    intro r hr
    rcases List.mem_or_eq_of_mem_set hr with h1 | h1
    · exact h r h1
    · rw [h1, hrow]
  have hle : i * σn + σn ≤ rows.length * σn := by rw [← Nat.succ_mul]; exact Nat.mul_le_mul_right _ hi
  have hfl := flatten_len h
  have hfl' := flatten_len h'
  rw [List.length_set] at hfl'
  subst hn
  apply List.ext_getElem?
  intro j
  rw [seg_get _ _ _ _ (by omega)]
  by_cases hj : j < rows.length * σn
  · have hσ : 0 < σn := by
      rcases Nat.eq_zero_or_pos σn with h0 | h0
      · rw [h0] at hj; simp at hj
      · exact h0
    have hdiv : j / σn < rows.length := by rw [Nat.div_lt_iff_lt_mul hσ]; exact hj
    have hmod := Nat.mod_lt j hσ
    have hsum : j / σn * σn + j % σn = j := by rw [Nat.mul_comm]; exact Nat.div_add_mod j σn
    have g1 := flatten_getD h' (j / σn) (j % σn) (by rw [List.length_set]; exact hdiv) hmod
    have g2 := flatten_getD h (j / σn) (j % σn) hdiv hmod
    rw [hsum] at g1 g2
    rw [g1]
    by_cases hij : i = j / σn
    · have hget : (rows.set i row).getD (j / σn) [] = row := by
        rw [List.getD_eq_getElem?_getD, List.getElem?_set, if_pos hij, if_pos hi]; rfl
      rw [hget, e, seg_get _ _ _ _ (by omega)]
      by_cases hc : o ≤ j % σn ∧ j % σn < o + ys.length
      · rw [if_pos hc, if_pos (by rw [← hsum, ← hij]; omega)]
        congr 1
        conv => rhs; rw [← hsum, ← hij]
        omega
      · rw [if_neg hc, if_neg (by rw [← hsum, ← hij]; omega), hij]
        exact g2.symm
    · have hget : (rows.set i row).getD (j / σn) [] = rows.getD (j / σn) [] := by
        rw [List.getD_eq_getElem?_getD, List.getElem?_set, if_neg hij, ← List.getD_eq_getElem?_getD]
      rw [hget, ← g2, if_neg]
      rintro ⟨c1, c2⟩
      apply hij
      have h1 : i ≤ j / σn := by rw [Nat.le_div_iff_mul_le hσ]; omega
      have h2 : j / σn < i + 1 := by rw [Nat.div_lt_iff_lt_mul hσ, Nat.succ_mul]; omega
      omega
  · rw [List.getElem?_eq_none (by omega), if_neg (by omega), List.getElem?_eq_none (by omega)]

theorem lpStore_sound (H : TabOk P Γ) {ρ : Rho} {M M' : List Blk} {w : World} (hM : MRel ρ M w) {t : TypeId} {id i o : Nat} {σ τ : Sg} {r : AV} {u v : Value}
    (ht : Γ.sg t = τ) (hx : Den ρ (.lp id i o σ τ) u) (hd : Den ρ r v) (h : lpStore M id i o σ τ r = some M') :
    ∃ w' a, u = .pointer (some a) ∧ (storeVar t a v).run P w = .ok () w' ∧ After ρ M M' w w' ρ := by
  obtain ⟨rfl, hs, hpσ, hpτ, hτ0, ho, hsz, hk⟩ := hx
  unfold lpStore at h
  split at h
  case h_2 => cases h
  rename_i σ' rows hid
  split at h
  case h_2 => cases h
  rename_i row hrow
  cases h
  have hB := hM.blk id _ hid
  obtain ⟨hBc, hl⟩ := brel_lc hB
  have hσ' : σ' = σ := by obtain ⟨C, -, -, h3, -⟩ := hB; rw [← h3, hs]
  subst hσ'
  have hlt : id < M.length := (List.getElem?_eq_some_iff.1 hid).1
  have hM' := hM.sight (b' := .c σ' rows.flatten) hid rfl rfl hBc (fun vs e => by cases e)
  have hlen : rows.length * σ'.n = (ρ id).size := by obtain ⟨C, -, -, -, -, -, h6, -⟩ := hB; exact h6
  have hi : i < rows.length := by
    rcases Nat.lt_or_ge i rows.length with h | h
    · exact h
    · have : rows.length * σ'.n ≤ i * σ'.n := Nat.mul_le_mul_right _ h
      omega
  have hp : PtrOk (ρ id) (i * σ'.n + o) τ := by
    refine ⟨by omega, ?_⟩
    rw [if_pos hpτ]
    exact ⟨by rw [hs]; exact hpσ, fun j hj => by rw [Nat.add_assoc, kind_mul hs (by omega)]; exact hk j hj⟩
  have hg : (M.set id (.c σ' rows.flatten))[id]? = some (.c σ' rows.flatten) := by rw [List.getElem?_set]; simp [hlt]
  have hne : τ ≠ .none := by rintro rfl; cases hpτ <;> simp [Sg.n] at hτ0
  have hrl : (rows.getD i []).length = σ'.n := by rw [List.getD_eq_getElem?_getD, List.getElem?_eq_getElem hi]; exact hl _ (List.getElem_mem hi)
  -- the store over the cells' sight
  have key : ∀ (ys : List Int), ys.length = τ.n → row = (rows.getD i []).take o ++ ys ++ (rows.getD i []).drop (o + τ.n) →
      storeAV (M.set id (.c σ' rows.flatten)) id (i * σ'.n + o) τ r = some ((M.set id (.c σ' rows.flatten)).set id (.c σ' (rows.flatten.take (i * σ'.n + o) ++ ys ++ rows.flatten.drop (i * σ'.n + o + τ.n)))) → r.ids = [] →
      ∃ w' a, (.pointer (some ⟨(ρ id).blk, i * σ'.n + o, none⟩) : Value) = .pointer (some a) ∧ (storeVar t a v).run P w = .ok () w' ∧ After ρ M (M.set id (.l σ' (rows.set i row))) w w' ρ := by
    intro ys hys he hst hids
    obtain ⟨w', h1, h2⟩ := store_sound H hM' ht hne hp hd (by rw [hids]; simp) hst
    have hrowl : row.length = σ'.n := by rw [he]; simp only [List.length_append, List.length_take, List.length_drop, hrl, hys]; omega
    have hfs := flatten_set hl hrowl i o τ.n ys hi ho hys he
    refine ⟨w', _, rfl, h1, After.sight hM hid rfl rfl rfl rfl h2 ?_ (fun vs e => by cases e)⟩
    have hb2 := h2.rel.blk id _ (by rw [List.set_set, List.getElem?_set]; simp [hlt]; rfl)
    simp only [List.append_assoc] at hfs hb2
    rw [← hfs] at hb2
    refine brel_cl ?_ hb2
    intro r hr
    rcases List.mem_or_eq_of_mem_set hr with h1 | h1
    · exact hl r h1
    · rw [h1, hrowl]
  unfold partSet at hrow
  split at hrow
  · rename_i k hinf
    split at hrow
    · rename_i n hcell
      cases hrow
      obtain ⟨f1, f2, f3⟩ := Sg.cell_flat τ k hinf
      have hids : r.ids = [] := by
        unfold toCell at hcell
        split at hcell <;> first | rfl | cases hcell
      refine key [n] (by rw [f2]; rfl) (by rw [set_seg _ _ _ (by omega), f2]) ?_ hids
      have hfl := flatten_len hl
      unfold storeAV
      rw [hg]
      simp only [hinf, hcell]
      rw [set_seg rows.flatten _ _ (by omega), f2]
    · cases hrow
  · rename_i n e hinf
    split at hrow
    · rename_i τ' ys
      split at hrow
      · rename_i e'
        subst e'
        have hyl : ys.length = τ'.n := hd.2.1
        have hrow2 : row = (rows.getD i []).take o ++ ys ++ (rows.getD i []).drop (o + τ'.n) := by
          split at hrow
          · rename_i hc
            cases hrow
            obtain ⟨rfl, rfl⟩ := hc
            rw [Nat.zero_add, List.take_zero, List.drop_eq_nil_of_le (by omega)]; simp
          · cases hrow; rfl
        refine key ys hyl hrow2 ?_ rfl
        unfold storeAV
        rw [hg]
        simp only [hinf, if_true]
        rfl
      · cases hrow
    · cases hrow
  · rename_i fs hinf
    split at hrow
    · rename_i τ' ys
      split at hrow
      · rename_i e'
        subst e'
        have hyl : ys.length = τ'.n := hd.2.1
        have hrow2 : row = (rows.getD i []).take o ++ ys ++ (rows.getD i []).drop (o + τ'.n) := by
          split at hrow
          · rename_i hc
            cases hrow
            obtain ⟨rfl, rfl⟩ := hc
            rw [Nat.zero_add, List.take_zero, List.drop_eq_nil_of_le (by omega)]; simp
          · cases hrow; rfl
        refine key ys hyl hrow2 ?_ rfl
        unfold storeAV
        rw [hg]
        simp only [hinf, if_true]
        rfl
      · cases hrow
    · cases hrow
  · cases hrow

end Go.Eng

/- The engine, part 6c: frozen rows, and addresses within rows. No conditions. -/
namespace Go.Eng
open Go Go.RowKit
set_option linter.unusedSectionVars false
variable [Glob]
variable {P : Program} {Γ : Tab}

theorem getD_some {α : Type} {l : List α} {i : Nat} (h : i < l.length) (d : α) : l[i]? = some (l.getD i d) := by
  rw [List.getD_eq_getElem?_getD, List.getElem?_eq_getElem h]; rfl

/-- A part of a row that lies somewhere is loaded. -/
theorem partOf_sound (H : TabOk P Γ) {ρ : Rho} {w : World} {t : TypeId} {k b o : Nat} {σ τ : Sg} {xs : List Int} {r : AV} (ht : Γ.sg t = τ) (hpτ : τ.pure = true) (hτ0 : 0 < τ.n) (ho : o + τ.n ≤ σ.n)
    (hk : ∀ j, j < τ.n → σ.flat.getD (o + j) .bool = τ.flat.getD j .bool) {C : Array Value} {ty : TypeId} {fz : Nat × Nat} (hb : w.heap[k]? = some (.cells C ty fz)) (hr : rowAt C σ b xs) (h : partOf σ τ o xs = some r) :
    ∃ z, Den ρ r z ∧ r.ids = [] ∧ (loadVar t ⟨k, b + o, none⟩).run P w = .ok z w := by
  obtain ⟨hl, hx⟩ := hr
  have hne : τ ≠ .none := by rintro rfl; simp [Sg.n] at hτ0
  have hfl := Sg.flat_len τ hpτ
  have agg : (∃ d, P.underlying t = some d ∧ (match d with | .struct _ | .array _ _ => true | _ => false) = true) →
      ∃ z, Den ρ (.ag τ ((xs.drop o).take τ.n)) z ∧ (loadVar t ⟨k, b + o, none⟩).run P w = .ok z w := by
    rintro ⟨d, hu, hd⟩
    obtain ⟨i, z, hi, hsz, -, -⟩ := H.parts ht hne
    have hlen : ((xs.drop o).take τ.n).length = τ.n := by rw [List.length_take, List.length_drop]; omega
    have hget : ∀ (j : Nat) (y : Int), ((xs.drop o).take τ.n)[j]? = some y → C[b + o + j]? = some ((τ.flat.getD j .bool).val y) ∧ (τ.flat.getD j .bool).ok y := by
      intro j y hj
      have hjl : j < τ.n := by have := (List.getElem?_eq_some_iff.1 hj).1; omega
      rw [List.getElem?_take_of_lt hjl, List.getElem?_drop] at hj
      have := hx _ _ hj
      rw [hk j hjl] at this
      rw [Nat.add_assoc]; exact this
    have hok : cellsOk τ.flat ((xs.drop o).take τ.n) := by
      have ext : ∀ {ks : List CK} {xs : List Int}, (∀ (j : Nat) (x : Int) (k : CK), xs[j]? = some x → ks[j]? = some k → k.ok x) → cellsOk ks xs := by
        intro ks
        induction ks with
        | nil => intro xs _; cases xs <;> trivial
        | cons k ks ih =>
          intro xs h
          cases xs with
          | nil => trivial
          | cons x xs => exact ⟨h 0 x k rfl rfl, ih fun j x k h1 h2 => h (j + 1) x k (by simpa using h1) (by simpa using h2)⟩
      refine ext fun j x k hj hkj => ?_
      have := (hget j x hj).2
      rwa [List.getD_eq_getElem?_getD, hkj] at this
    refine ⟨_, ⟨rfl, hlen, hok, hpτ⟩, ?_⟩
    have hag : (isAgg t).run P w = .ok true w := by
      unfold isAgg
      simp only [Sem.run_bind, run_underlying hu, Result.andThen_ok]
      cases d <;> first | rfl | cases hd
    have hso : (sizeOf t).run P w = .ok τ.n w := run_so hi hsz w
    have hvl := cellsV_len τ.flat ((xs.drop o).take τ.n) (by omega)
    have hload := run_loadCells_list (P := P) w ⟨k, b + o, none⟩ (cellsV τ.flat ((xs.drop o).take τ.n)) (fun j v hv => by
      have : (⟨k, b + o, none⟩ : Addr).add j = ⟨k, b + o + j, none⟩ := add_addr ..
      rw [this]
      refine run_load_c hb ?_
      rw [cellsV_getE] at hv
      cases hkj : τ.flat[j]? with
      | none => rw [hkj] at hv; cases hv
      | some kk =>
        rw [hkj] at hv
        cases hyj : ((xs.drop o).take τ.n)[j]? with
        | none => rw [hyj] at hv; cases hv
        | some y =>
          rw [hyj] at hv
          simp only [Option.bind_some, Option.map_some, Option.some.injEq] at hv
          have := (hget j y hyj).1
          rw [List.getD_eq_getElem?_getD, hkj] at this
          rw [← hv]; exact this)
    rw [hvl, hlen] at hload
    unfold loadVar
    simp only [Sem.run_bind, hag, Result.andThen_ok, if_true, hso, hload, Sem.run_pure]
  have whole : o = 0 ∧ τ = σ → (xs.drop o).take τ.n = xs := by
    rintro ⟨rfl, rfl⟩
    rw [List.drop_zero, ← hl, List.take_length]
  unfold partOf at h
  split at h
  · rename_i kk hinf
    cases h
    obtain ⟨f1, f2, f3⟩ := Sg.cell_flat τ kk hinf
    have hlt : o < xs.length := by omega
    have h0 := hx o xs[o] (List.getElem?_eq_getElem hlt)
    have hk0 := hk 0 (by omega)
    rw [Nat.add_zero, f1, List.getD_cons_zero] at hk0
    rw [hk0] at h0
    have hu := H.cell ht hinf
    refine ⟨kk.val xs[o], ?_, by cases kk <;> rfl, ?_⟩
    · rw [List.getD_eq_getElem?_getD, List.getElem?_eq_getElem hlt]; exact den_cell ρ h0.2
    · have hag : (isAgg t).run P w = .ok false w := by
        unfold isAgg
        simp only [Sem.run_bind, run_underlying hu, Result.andThen_ok]
        cases kk <;> rfl
      unfold loadVar
      simp only [Sem.run_bind, hag, Result.andThen_ok]
      simp [run_load, run_load_c hb h0.1]
  · rename_i n e hinf
    obtain ⟨t', hu, -, -⟩ := H.arr ht hinf
    obtain ⟨z, h1, h2⟩ := agg ⟨_, hu, rfl⟩
    split at h
    · rename_i hc
      cases h
      rw [whole hc] at h1
      exact ⟨z, h1, rfl, h2⟩
    · cases h; exact ⟨z, h1, rfl, h2⟩
  · rename_i fs hinf
    obtain ⟨gs, hu, -, -, -⟩ := H.st ht hne hinf
    obtain ⟨z, h1, h2⟩ := agg ⟨_, hu, rfl⟩
    split at h
    · rename_i hc
      cases h
      rw [whole hc] at h1
      exact ⟨z, h1, rfl, h2⟩
    · cases h; exact ⟨z, h1, rfl, h2⟩
  · cases h

/-- What a load within rows yields. -/
def rowLoad (Γ : Tab) (M : List Blk) (t : TypeId) : AV → Option AV
  | .lp id i o σ τ => if Γ.sg t = τ ∧ τ ≠ .none then lpLoad M id i o σ τ else .none
  | .fp o σ τ xs => if Γ.sg t = τ ∧ τ ≠ .none then partOf σ τ o xs else .none
  | .fq σ rows => if Γ.sg t = .ref then some (.fs σ rows) else .none
  | .fqs s => if Γ.sg t = .str then some (.s s) else .none
  | _ => .none

theorem load_one {w : World} {t : TypeId} {k b : Nat} {d : TypeDesc} {C : Array Value} {ty : TypeId} {fz : Nat × Nat} {y : Value} (hd : (match d with | .struct _ | .array _ _ => true | _ => false) = false) (hu : P.underlying t = some d)
    (hb : w.heap[k]? = some (.cells C ty fz)) (hy : C[b]? = some y) : (loadVar t ⟨k, b, none⟩).run P w = .ok y w := by
  have hag : (isAgg t).run P w = .ok false w := by
    unfold isAgg
    simp only [Sem.run_bind, run_underlying hu, Result.andThen_ok]
    cases d <;> first | rfl | cases hd
  unfold loadVar
  simp only [Sem.run_bind, hag, Result.andThen_ok]
  simp [run_load, run_load_c hb hy]

theorem rowLoad_sound (H : TabOk P Γ) {ρ : Rho} {M : List Blk} {w : World} (hM : MRel ρ M w) {t : TypeId} {x r : AV} {v : Value} (hd : Den ρ x v) (h : rowLoad Γ M t x = some r) :
    ∃ z, Den ρ r z ∧ r.ids = [] ∧ (Instr.loadAt t v).run P w = .ok z w := by
  unfold rowLoad at h
  split at h
  · split at h
    · rename_i hc
      obtain ⟨z, a, h1, h2, rfl, h3⟩ := lpLoad_sound H hM hc.1 hd h
      exact ⟨z, h1, h2, by simp [Instr.loadAt, Instr.sureAddr, h3]⟩
    · cases h
  · split at h
    · rename_i hc
      obtain ⟨-, hpτ, hτ0, ho, hk, k, b, C, ty, fz, rfl, hF, hr⟩ := hd
      obtain ⟨z, h1, h2, h3⟩ := partOf_sound (ρ := ρ) H hc.1 hpτ hτ0 ho hk (hM.env k _ hF).1 hr h
      exact ⟨z, h1, h2, by simp [Instr.loadAt, Instr.sureAddr, h3]⟩
    · cases h
  · split at h
    · rename_i hc
      cases h
      obtain ⟨k, b, C, ty, fz, y, rfl, hF, hy, hfs⟩ := hd
      obtain ⟨d, hu, hdd⟩ := H.refs hc
      exact ⟨y, hfs, rfl, by simp [Instr.loadAt, Instr.sureAddr, load_one hdd hu (hM.env k _ hF).1 hy]⟩
    · cases h
  · split at h
    · rename_i hc
      cases h
      obtain ⟨hs, k, b, C, ty, fz, rfl, hF, hy⟩ := hd
      exact ⟨_, ⟨rfl, hs⟩, rfl, by simp [Instr.loadAt, Instr.sureAddr, load_one rfl (H.str hc) (hM.env k _ hF).1 hy]⟩
    · cases h
  · cases h

/-- Where a field of an element lies. -/
def rowFld (Γ : Tab) (t : TypeId) (f : Nat) : AV → Option AV
  | .lp id i o σ τ => if Γ.sg t = τ ∧ τ ≠ .none then (match τ.inf with
      | .st fs => (match fldAt fs f with
        | some (o', τ') => if τ' = .none then .none else some (.lp id i (o + o') σ τ')
        | .none => .none)
      | _ => .none) else .none
  | .fp o σ τ xs => if Γ.sg t = τ ∧ τ ≠ .none then (match τ.inf with
      | .st fs => (match fldAt fs f with
        | some (o', τ') => if τ' = .none then .none else some (.fp (o + o') σ τ' xs)
        | .none => .none)
      | _ => .none) else .none
  | _ => .none

theorem fldAt_mem : ∀ {fs : List Sg} {i o : Nat} {τ : Sg}, fldAt fs i = some (o, τ) → τ ∈ fs
  | σ :: l, 0, o, τ, h => by simp only [fldAt, Option.some.injEq, Prod.mk.injEq] at h; rw [← h.2]; exact List.mem_cons_self
  | σ :: l, i + 1, o, τ, h => by
    simp only [fldAt] at h
    split at h
    · rename_i o' τ' h'
      simp only [Option.some.injEq, Prod.mk.injEq] at h
      rw [← h.2]
      exact List.mem_cons_of_mem _ (fldAt_mem h')
    · cases h

theorem rowFld_sound (H : TabOk P Γ) {ρ : Rho} {t : TypeId} {f : Nat} {x r : AV} {v : Value} (h : rowFld Γ t f x = some r) (hd : Den ρ x v) (w : World) :
    ∃ z, Den ρ r z ∧ (∀ i ∈ r.ids, i ∈ x.ids) ∧ (Instr.fieldAt t v f).run P w = .ok z w := by
  have core : ∀ (σ τ τ' : Sg) (o o' k b : Nat) (fs : List Sg), Γ.sg t = τ → τ ≠ .none → τ.inf = .st fs → fldAt fs f = some (o', τ') → τ' ≠ .none → τ.pure = true → o + τ.n ≤ σ.n →
      (∀ j, j < τ.n → σ.flat.getD (o + j) .bool = τ.flat.getD j .bool) →
      τ'.pure = true ∧ 0 < τ'.n ∧ (o + o') + τ'.n ≤ σ.n ∧ (∀ j, j < τ'.n → σ.flat.getD (o + o' + j) .bool = τ'.flat.getD j .bool) ∧
      (Instr.fieldAt t (.pointer (some ⟨k, b + o, .none⟩)) f).run P w = .ok (.pointer (some ⟨k, b + (o + o'), .none⟩)) w := by
    intro σ τ τ' o o' k b fs ht hn hi hf hτ' hpτ ho hk
    obtain ⟨gs, hu, hfo, -, -⟩ := H.st ht hn hi
    obtain ⟨g, hg, go, gt, -⟩ := fldsOk_at hfo hf
    obtain ⟨i, z, hinf, hsz, -, -⟩ := H.parts gt hτ'
    obtain ⟨f1, f2, f3⟩ := Sg.st_flat τ fs hi
    obtain ⟨q1, q2⟩ := flats_fld fs f o' τ' f3 hf
    have hp' := f3 τ' (fldAt_mem hf)
    have h0 : 0 < τ'.n := by cases τ' <;> first | (exact absurd rfl hτ') | decide
    refine ⟨hp', h0, by omega, fun j hj => ?_, ?_⟩
    · rw [Nat.add_assoc, hk (o' + j) (by omega), List.getD_eq_getElem?_getD, f1, q2 j hj, ← List.getD_eq_getElem?_getD]
    · have hn0 : ¬ τ'.n = 0 := by omega
      simp only [Instr.fieldAt, Sem.run_bind, run_underlying hu, Result.andThen_ok, hg, Instr.sureAddr, Sem.run_pure, fieldPlace, run_so hinf hsz, hn0, if_false, add_addr, go, Nat.add_assoc]
  unfold rowFld at h
  split at h
  · split at h
    · rename_i id i o σ τ hc
      split at h
      · rename_i fs hi
        split at h
        · rename_i o' τ' hf
          split at h
          · cases h
          · rename_i hτ
            cases h
            obtain ⟨rfl, hs, hpσ, hpτ, h0, ho, hsz, hk⟩ := hd
            obtain ⟨c1, c2, c3, c4, c5⟩ := core σ τ τ' o o' _ _ fs hc.1 hc.2 hi hf hτ hpτ ho hk
            exact ⟨_, ⟨rfl, hs, hpσ, c1, c2, c3, hsz, c4⟩, fun i hi => hi, c5⟩
        · cases h
      · cases h
    · cases h
  · split at h
    · rename_i o σ τ xs hc
      split at h
      · rename_i fs hi
        split at h
        · rename_i o' τ' hf
          split at h
          · cases h
          · rename_i hτ
            cases h
            obtain ⟨hpσ, hpτ, h0, ho, hk, k, b, C, ty, fz, rfl, hF, hr⟩ := hd
            obtain ⟨c1, c2, c3, c4, c5⟩ := core σ τ τ' o o' k b fs hc.1 hc.2 hi hf hτ hpτ ho hk
            exact ⟨_, ⟨hpσ, c1, c2, c3, c4, k, b, C, ty, fz, rfl, hF, hr⟩, fun i hi => hi, c5⟩
        · cases h
      · cases h
    · cases h
  · cases h

/-- Where an element of a row of elements lies. -/
def rowIdx (Γ : Tab) (t : TypeId) : AV → AV → Option (AV × List Prop)
  | .ow id len σ _, .i _ i => match Γ.sl t with
      | some e => if Γ.sg e = σ ∧ σ ≠ .none ∧ σ.pure = true then some (.lp id i.toNat 0 σ σ, [0 ≤ i ∧ i < (len : Int)]) else .none
      | .none => .none
  | .fs σ rows, .i _ i => match Γ.sl t with
      | some e => if Γ.sg e = σ ∧ σ ≠ .none then some (.fp 0 σ σ (rows.getD i.toNat []), [0 ≤ i ∧ i < (rows.length : Int)]) else .none
      | .none => .none
  | .fz σ rowss, .i _ i => match Γ.sl t with
      | some e => if Γ.sg e = .ref then some (.fq σ (rowss.getD i.toNat []), [0 ≤ i ∧ i < (rowss.length : Int)]) else .none
      | .none => .none
  | .fstr l, .i _ i => match Γ.sl t with
      | some e => if Γ.sg e = .str then some (.fqs (l.getD i.toNat ByteArray.empty), [0 ≤ i ∧ i < (l.length : Int)]) else .none
      | .none => .none
  | _, _ => .none

theorem rowIdx_sound (H : TabOk P Γ) {ρ : Rho} {t : TypeId} {x y r : AV} {u v : Value} {vcs : List Prop} (h : rowIdx Γ t x y = some (r, vcs)) (hv : allP vcs) (hx : Den ρ x u) (hy : Den ρ y v) (w : World) :
    ∃ z, Den ρ r z ∧ (∀ i ∈ r.ids, i ∈ x.ids) ∧ (Instr.indexAt t u v).run P w = .ok z w := by
  have core : ∀ (e : TypeId) (σ : Sg) (k b : Nat) (n cap : Nat) (kk : IntKind) (i : Int), Γ.sl t = some e → Γ.sg e = σ → σ ≠ .none → 0 ≤ i → i < (n : Int) →
      (Instr.indexAt t (.slice (some ⟨k, b, none⟩) n cap) (.int kk i)).run P w = .ok (.pointer (some ⟨k, b + i.toNat * σ.n, none⟩)) w := by
    intro e σ k b n cap kk i hsl hσ hn h0 h1
    have hu := H.sl t e hsl
    obtain ⟨ti, z, hinf, hsz, -, -⟩ := H.parts hσ hn
    simp only [Instr.indexAt, asIntOf, Sem.run_bind, Sem.run_pure, run_underlying hu, Result.andThen_ok, h0, h1, and_self, if_true, run_so hinf hsz, add_addr]
  unfold rowIdx at h
  split at h
  · split at h
    · rename_i id len σ e0 kk i _ e hsl
      split at h
      · rename_i hc
        cases h
        obtain ⟨cap, rfl, hcap, -, hs, h0, hsz, -⟩ := hx
        obtain ⟨rfl, -⟩ := hy
        have := core e σ (ρ id).blk 0 len cap kk i hsl hc.1 hc.2.1 hv.1.1 hv.1.2
        rw [Nat.zero_add] at this
        refine ⟨_, ⟨rfl, hs, hc.2.2, hc.2.2, h0, by omega, ?_, fun j _ => by rw [Nat.zero_add]⟩, fun i hi => hi, by rw [Nat.add_zero]; exact this⟩
        rw [hsz, ← Nat.succ_mul]
        exact Nat.mul_le_mul_right _ (by have := hv.1; omega)
      · cases h
    · cases h
  · split at h
    · rename_i σ rows kk i _ e hsl
      split at h
      · rename_i hc
        cases h
        obtain ⟨h1, h2, h3, a, cap, rfl, h4, h5⟩ := hx
        obtain ⟨rfl, -⟩ := hy
        obtain ⟨hv0, hv1⟩ := hv.1
        rcases h5 with rfl | ⟨k, b, C, ty, fz, rfl, g2, g3⟩
        · simp at hv1; omega
        · refine ⟨_, ⟨h1, h1, h2, by omega, fun j _ => by rw [Nat.zero_add], k, b + i.toNat * σ.n, C, ty, fz, rfl, g2, g3.1 i.toNat _ (getD_some (by omega) [])⟩, fun i hi => hi, ?_⟩
          exact core e σ k b rows.length cap kk i hsl hc.1 hc.2 hv0 hv1
      · cases h
    · cases h
  · split at h
    · rename_i σ rowss kk i _ e hsl
      split at h
      · rename_i hc
        cases h
        obtain ⟨h3, a, cap, rfl, h4, h5⟩ := hx
        obtain ⟨rfl, -⟩ := hy
        obtain ⟨hv0, hv1⟩ := hv.1
        rcases h5 with rfl | ⟨k, b, C, ty, fz, rfl, g2, g3⟩
        · simp at hv1; omega
        · obtain ⟨z, hz, hfs⟩ := g3.2 i.toNat _ (getD_some (by omega) [])
          have := core e .ref k b rowss.length cap kk i hsl hc (by simp) hv0 hv1
          rw [show i.toNat * Sg.ref.n = i.toNat from Nat.mul_one _] at this
          exact ⟨_, ⟨k, b + i.toNat, C, ty, fz, z, rfl, g2, hz, hfs⟩, fun i hi => hi, this⟩
      · cases h
    · cases h
  · split at h
    · rename_i l kk i _ e hsl
      split at h
      · rename_i hc
        cases h
        obtain ⟨h3, a, cap, rfl, h4, h5⟩ := hx
        obtain ⟨rfl, -⟩ := hy
        obtain ⟨hv0, hv1⟩ := hv.1
        rcases h5 with rfl | ⟨k, b, C, ty, fz, rfl, g2, g3⟩
        · simp at hv1; omega
        · obtain ⟨hz, hs⟩ := g3 i.toNat _ (getD_some (by omega) ByteArray.empty)
          have := core e .str k b l.length cap kk i hsl hc (by simp) hv0 hv1
          rw [show i.toNat * Sg.str.n = i.toNat from Nat.mul_one _] at this
          exact ⟨_, ⟨hs, k, b + i.toNat, C, ty, fz, rfl, g2, hz⟩, fun i hi => hi, this⟩
      · cases h
    · cases h
  · cases h

end Go.Eng

/- The engine, part 6d: parts of strings and of frozen rows. No conditions. -/
namespace Go.Eng
open Go Go.RowKit
set_option linter.unusedSectionVars false
variable [Glob]
variable {P : Program} {Γ : Tab}

/-- A bound, as it stands. -/
def BV : Option Int → Option Value → Prop
  | .none, .none => True
  | some n, some v => ∃ k, v = .int k n ∧ rng k n
  | _, _ => False

def subL {α : Type} (l : List α) (lo hi : Option Int) : List α :=
  match lo, hi with
  | .none, .none => l
  | some a, .none => l.drop a.toNat
  | .none, some b => l.take b.toNat
  | some a, some b => (l.take b.toNat).drop a.toNat

def subP (n : Nat) (lo hi : Option Int) : List Prop :=
  match lo, hi with
  | .none, .none => []
  | some a, .none => [0 ≤ a ∧ a ≤ (n : Int)]
  | .none, some b => [0 ≤ b ∧ b ≤ (n : Int)]
  | some a, some b => [0 ≤ a ∧ a ≤ b ∧ b ≤ (n : Int)]

/-- A part of a string, of frozen rows. -/
def sliceAV (Γ : Tab) (t : TypeId) (x : AV) (lo hi mx : Option Int) : Option (AV × List Prop) :=
  match mx with
  | .none => match x with
    | .s s => if Γ.sg t = .str then (match lo, hi with
      | .none, .none => some (.s s, [])
      | some a, .none => some (.s (s.extract a.toNat s.size), subP s.size lo hi)
      | .none, some b => some (.s (s.extract 0 b.toNat), subP s.size lo hi)
      | some a, some b => some (.s (s.extract a.toNat b.toNat), subP s.size lo hi)) else .none
    | .fs σ rows => (match Γ.sl t with
      | some e => if (Γ.sg e = σ ∧ σ ≠ .none) ∧ Glob.whole = false then some (.fs σ (subL rows lo hi), subP rows.length lo hi) else .none
      | .none => .none)
    | .fstr l => (match Γ.sl t with
      | some e => if Γ.sg e = .str then some (.fstr (subL l lo hi), subP l.length lo hi) else .none
      | .none => .none)
    | _ => .none
  | some m => match lo, hi with
    | .none, some h => (match Γ.sl t with
      | some e => if Γ.sg e ≠ .none then (match x with
        | .fs _ _ => some (.es, [h = 0 ∧ m = 0])
        | .fstr _ => some (.es, [h = 0 ∧ m = 0])
        | .ow _ _ _ _ => some (.es, [h = 0 ∧ m = 0])
        | .nsl => some (.es, [h = 0 ∧ m = 0])
        | .es => some (.es, [h = 0 ∧ m = 0])
        | _ => .none) else .none
      | .none => .none)
    | _, _ => .none

def loN : Option Int → Nat
  | .none => 0
  | some a => a.toNat
def hiN (n : Nat) : Option Int → Nat
  | .none => n
  | some b => b.toNat

theorem sliceBounds_run {w : World} {b : Bool} {len cap : Nat} {lo hi : Option Int} {low high : Option Value} (hl : BV lo low) (hh : BV hi high) (hc : len ≤ cap) (hp : allP (subP len lo hi)) :
    (Instr.sliceBounds b len cap low high none).run P w = .ok (loN lo, hiN len hi, cap) w ∧
      loN lo ≤ hiN len hi ∧ hiN len hi ≤ len := by
  cases lo with
  | none =>
    cases low with
    | some v => cases hl
    | none =>
      cases hi with
      | none =>
        cases high with
        | some v => cases hh
        | none => simp [Instr.sliceBounds, loN, hiN]
      | some n =>
        cases high with
        | none => cases hh
        | some v =>
          obtain ⟨k, rfl, -⟩ := hh
          obtain ⟨⟨h1, h2⟩, -⟩ := hp
          refine ⟨?_, Nat.zero_le _, by simp only [loN, hiN]; omega⟩
          cases b
          · have : n ≤ (cap : Int) := by omega
            simp [Instr.sliceBounds, Instr.sliceBound, asIntOf, h1, this, loN, hiN]
          · have : n ≤ (cap : Int) := by omega
            simp [Instr.sliceBounds, Instr.sliceBound, asIntOf, h1, this, loN, hiN]
  | some m =>
    cases low with
    | none => cases hl
    | some v =>
      obtain ⟨k, rfl, -⟩ := hl
      cases hi with
      | none =>
        cases high with
        | some v => cases hh
        | none =>
          obtain ⟨⟨h1, h2⟩, -⟩ := hp
          refine ⟨?_, by simp only [loN, hiN]; omega, Nat.le_refl _⟩
          simp [Instr.sliceBounds, Instr.sliceBound, asIntOf, h1, h2, loN, hiN]
      | some n =>
        cases high with
        | none => cases hh
        | some v =>
          obtain ⟨k', rfl, -⟩ := hh
          obtain ⟨⟨h1, h2, h3⟩, -⟩ := hp
          refine ⟨?_, by simp only [loN, hiN]; omega, by simp only [loN, hiN]; omega⟩
          have h0 : 0 ≤ n := by omega
          have h5 : n ≤ (cap : Int) := by omega
          have h6 : m ≤ max n 0 := by omega
          cases b <;> simp [Instr.sliceBounds, Instr.sliceBound, asIntOf, h0, h5, h1, h6, loN, hiN]

theorem subL_spec {α : Type} (l : List α) {lo hi : Option Int} (hp : allP (subP l.length lo hi)) :
    (subL l lo hi).length = hiN l.length hi - loN lo ∧
    ∀ (j : Nat) (x : α), (subL l lo hi)[j]? = some x → l[loN lo + j]? = some x := by
  cases lo with
  | none =>
    cases hi with
    | none => exact ⟨rfl, fun j x h => by simpa [subL, loN] using h⟩
    | some b =>
      obtain ⟨⟨h1, h2⟩, -⟩ := hp
      refine ⟨by simp only [subL, List.length_take, loN, hiN]; omega, fun j x h => ?_⟩
      simp only [subL, List.getElem?_take] at h
      split at h
      · simpa [loN] using h
      · cases h
  | some a =>
    cases hi with
    | none =>
      refine ⟨by simp only [subL, List.length_drop, loN, hiN], fun j x h => ?_⟩
      simpa [subL, loN] using h
    | some b =>
      obtain ⟨⟨h1, h2, h3⟩, -⟩ := hp
      refine ⟨by simp only [subL, List.length_drop, List.length_take, loN, hiN]; omega, fun j x h => ?_⟩
      simp only [subL, List.getElem?_drop, List.getElem?_take] at h
      split at h
      · exact h
      · cases h

theorem sliceAV_sound (H : TabOk P Γ) {ρ : Rho} {t : TypeId} {x r : AV} {v : Value} {lo hi mx : Option Int} {low high max : Option Value} {vs : List Prop}
    (h : sliceAV Γ t x lo hi mx = some (r, vs)) (hv : allP vs) (hd : Den ρ x v) (hl : BV lo low) (hh : BV hi high) (hm : BV mx max) (w : World) :
    ∃ z, Den ρ r z ∧ r.ids = [] ∧ (Instr.sliceAt t v low high max).run P w = .ok z w := by
  unfold sliceAV at h
  cases mx with
  | none =>
    cases max with
    | some m => cases hm
    | none =>
      dsimp only at h
      split at h
      · rename_i s
        split at h
        · rename_i hc
          obtain ⟨rfl, hs⟩ := hd
          have hu := H.str hc
          have key : allP (subP s.size lo hi) → (Instr.sliceAt t (.string s) low high none).run P w = .ok (.string (s.extract (loN lo) (hiN s.size hi))) w := by
            intro hp
            have hb := sliceBounds_run (P := P) (w := w) (b := false) hl hh (Nat.le_refl s.size) hp
            simp only [Instr.sliceAt, Instr.slice, Sem.run_bind, run_underlying hu, Result.andThen_ok, Option.isSome_none, Bool.false_eq_true, if_false, Sem.run_pure, hb.1]
          have hsz : ∀ a b, (s.extract a b).size ≤ maxLen := by
            intro a b
            rw [ByteArray.size_extract]
            omega
          cases lo with
          | none =>
            cases hi with
            | none =>
              cases h
              refine ⟨_, ⟨rfl, hs⟩, rfl, ?_⟩
              have := key trivial
              simp only [loN, hiN, ByteArray.extract_zero_size] at this
              exact this
            | some b => cases h; exact ⟨_, ⟨rfl, hsz _ _⟩, rfl, key hv⟩
          | some a =>
            cases hi with
            | none => cases h; exact ⟨_, ⟨rfl, hsz _ _⟩, rfl, key hv⟩
            | some b => cases h; exact ⟨_, ⟨rfl, hsz _ _⟩, rfl, key hv⟩
        · cases h
      · rename_i σ rows
        split at h
        · rename_i e hsl
          split at h
          · rename_i hc
            cases h
            obtain ⟨h1, h2, h3, a, cap, rfl, h4, h5⟩ := hd
            have hu := H.sl t e hsl
            obtain ⟨ti, z, hinf, hsz, -, -⟩ := H.parts hc.1.1 hc.1.2
            obtain ⟨b1, b2, b3⟩ := sliceBounds_run (P := P) (w := w) (b := true) hl hh h4 hv
            obtain ⟨s1, s2⟩ := subL_spec rows hv
            generalize hL : loN lo = L at *
            generalize hH : hiN rows.length hi = Hh at *
            refine ⟨_, ⟨h1, h2, by omega, if cap = L then a else a.map (·.add (L * σ.n)), cap - L, by rw [s1], by omega, ?_⟩, rfl, ?_⟩
            · rcases h5 with rfl | ⟨k, o, C, ty, fz, rfl, g2, g3⟩
              · left
                exact List.eq_nil_of_length_eq_zero (by rw [s1]; simp at b3; omega)
              · by_cases hcl : cap = L
                · left
                  exact List.eq_nil_of_length_eq_zero (by rw [s1]; omega)
                · right
                  rw [if_neg hcl]
                  refine ⟨k, o + L * σ.n, C, ty, fz, by simp [add_addr], g2, fun i row hi => ?_, fun hw => absurd (hc.2.symm.trans hw) (by decide)⟩
                  have := g3.1 _ _ (s2 i row hi)
                  rw [Nat.add_mul, ← Nat.add_assoc] at this
                  exact this
            · simp only [Instr.sliceAt, Instr.slice, Sem.run_bind, run_underlying hu, Result.andThen_ok, b1, run_so hinf hsz, Sem.run_pure]
          · cases h
        · cases h
      · rename_i l
        split at h
        · rename_i e hsl
          split at h
          · rename_i hc
            cases h
            obtain ⟨h3, a, cap, rfl, h4, h5⟩ := hd
            have hu := H.sl t e hsl
            obtain ⟨ti, z, hinf, hsz, -, -⟩ := H.parts hc (by simp)
            obtain ⟨b1, b2, b3⟩ := sliceBounds_run (P := P) (w := w) (b := true) hl hh h4 hv
            obtain ⟨s1, s2⟩ := subL_spec l hv
            generalize hL : loN lo = L at *
            generalize hH : hiN l.length hi = Hh at *
            refine ⟨_, ⟨by omega, if cap = L then a else a.map (·.add (L * Sg.str.n)), cap - L, by rw [s1], by omega, ?_⟩, rfl, ?_⟩
            · rcases h5 with rfl | ⟨k, o, C, ty, fz, rfl, g2, g3⟩
              · left
                exact List.eq_nil_of_length_eq_zero (by rw [s1]; simp at b3; omega)
              · by_cases hcl : cap = L
                · left
                  exact List.eq_nil_of_length_eq_zero (by rw [s1]; omega)
                · right
                  rw [if_neg hcl]
                  refine ⟨k, o + L, C, ty, fz, by simp [add_addr, Sg.n], g2, fun i row hi => ?_⟩
                  have := g3 _ _ (s2 i row hi)
                  rw [← Nat.add_assoc] at this
                  exact this
            · simp only [Instr.sliceAt, Instr.slice, Sem.run_bind, run_underlying hu, Result.andThen_ok, b1, run_so hinf hsz, Sem.run_pure]
          · cases h
        · cases h
      · cases h
  | some m =>
    cases max with
    | none => cases hm
    | some mv =>
      obtain ⟨km, rfl, -⟩ := hm
      dsimp only at h
      cases lo with
      | some a => cases h
      | none =>
        cases low with
        | some lv => cases hl
        | none =>
          cases hi with
          | none => cases h
          | some hn =>
            cases high with
            | none => cases hh
            | some hv' =>
              obtain ⟨kh, rfl, -⟩ := hh
              dsimp only at h
              split at h
              · rename_i e hsl
                split at h
                · rename_i hn'
                  have hu := H.sl t e hsl
                  obtain ⟨ti, z, hinf, hsz, -, -⟩ := H.parts rfl hn'
                  have key : ∀ a n c, hn = 0 → m = 0 → ∃ z, Den ρ .es z ∧ (Instr.sliceAt t (.slice a n c) none (some (.int kh hn)) (some (.int km m))).run P w = .ok z w := by
                    rintro a n c rfl rfl
                    refine ⟨.slice a 0 0, ⟨a, rfl⟩, ?_⟩
                    simp [Instr.sliceAt, Instr.slice, run_underlying hu, Instr.sliceBounds, Instr.sliceBound, asIntOf, run_so hinf hsz]
                  split at h <;> first | cases h | skip
                  all_goals obtain ⟨⟨e1, e2⟩, -⟩ := hv
                  · obtain ⟨-, -, -, a, cap, rfl, -⟩ := hd
                    obtain ⟨z, hz, hr⟩ := key a _ cap e1 e2
                    exact ⟨z, hz, rfl, hr⟩
                  · obtain ⟨-, a, cap, rfl, -⟩ := hd
                    obtain ⟨z, hz, hr⟩ := key a _ cap e1 e2
                    exact ⟨z, hz, rfl, hr⟩
                  · obtain ⟨cap, rfl, -⟩ := hd
                    obtain ⟨z, hz, hr⟩ := key _ _ cap e1 e2
                    exact ⟨z, hz, rfl, hr⟩
                  · simp only [Den] at hd
                    subst hd
                    obtain ⟨z, hz, hr⟩ := key none 0 0 e1 e2
                    exact ⟨z, hz, rfl, hr⟩
                  · obtain ⟨a, rfl⟩ := hd
                    obtain ⟨z, hz, hr⟩ := key a 0 0 e1 e2
                    exact ⟨z, hz, rfl, hr⟩
                · cases h
              · cases h

end Go.Eng

/- The engine, part 6e: structs of single cells (a block of references whose cells have fields' names), and pointers held against each other. No conditions. -/
namespace Go.Eng
open Go Go.RowKit
set_option linter.unusedSectionVars false
variable [Glob]
variable {P : Program} {Γ : Tab}

/-- A shape of one cell. -/
def one1 (σ : Sg) : Bool := match σ.inf with | .cell _ => true | .str => true | .ref => true | _ => false

theorem one1_run (H : TabOk P Γ) {t : TypeId} (h : one1 (Γ.sg t) = true) (w : World) : (isAgg t).run P w = .ok false w := by
  unfold one1 at h
  unfold isAgg
  split at h
  · rename_i k hi
    have hu := H.cell rfl hi
    simp only [Sem.run_bind, run_underlying hu, Result.andThen_ok]
    cases k <;> rfl
  · rename_i hi
    have hσ : Γ.sg t = .str := by revert hi; generalize Γ.sg t = σ; intro hi; cases σ <;> first | rfl | cases hi
    have hu := H.str hσ
    simp only [Sem.run_bind, run_underlying hu, Result.andThen_ok]
    rfl
  · rename_i hi
    have hσ : Γ.sg t = .ref := by revert hi; generalize Γ.sg t = σ; intro hi; cases σ <;> first | rfl | cases hi
    obtain ⟨d, hu, hd⟩ := H.refs hσ
    simp only [Sem.run_bind, run_underlying hu, Result.andThen_ok]
    cases d <;> first | rfl | cases hd
  · cases h
theorem one1_n {σ : Sg} (h : one1 σ = true) : σ.n = 1 ∧ σ ≠ .none := by cases σ <;> first | exact ⟨rfl, by decide⟩ | cases h

/-- May stand in one cell of a struct. -/
def isOne : AV → Bool
  | .i _ _ => true
  | .b _ => true
  | .d _ => true
  | .s _ => true
  | .fs _ _ => true
  | x => isRef x
theorem isOne_one {ρ : Rho} {r : AV} {v : Value} (h : isOne r = true) (hd : Den ρ r v) : v.oneCell' = true ∧ v.cells.toList = [v] := by
  have ref : isRef r = true → v.oneCell' = true ∧ v.cells.toList = [v] := fun h => by
    obtain ⟨h1, h2⟩ := isRef_one h hd
    exact ⟨h1, by cases v <;> first | rfl | cases h1⟩
  unfold isOne at h
  split at h
  · obtain ⟨rfl, -⟩ := hd; exact ⟨rfl, rfl⟩
  · simp only [Den] at hd; subst hd; exact ⟨rfl, rfl⟩
  · simp only [Den] at hd; subst hd; exact ⟨rfl, rfl⟩
  · obtain ⟨rfl, -⟩ := hd; exact ⟨rfl, rfl⟩
  · obtain ⟨-, -, -, a, cap, rfl, -⟩ := hd; exact ⟨rfl, rfl⟩
  · exact ref h

/-- The address of a field. -/
def recFld (Γ : Tab) (t : TypeId) (f : Nat) : AV → Option AV
  | .rp id off n t' => match Γ.rc t with
    | some zs => if t' = t ∧ off = 0 ∧ n = zs.length ∧ f < n then some (.rp id f n t) else .none
    | .none => .none
  | _ => .none
theorem recFld_sound (H : TabOk P Γ) {ρ : Rho} {t : TypeId} {f : Nat} {x r : AV} {v : Value} (h : recFld Γ t f x = some r) (hd : Den ρ x v) (w : World) :
    ∃ z, Den ρ r z ∧ (∀ i ∈ r.ids, i ∈ x.ids) ∧ (Instr.fieldAt t v f).run P w = .ok z w := by
  unfold recFld at h
  split at h
  case h_2 => cases h
  rename_i id off n t'
  split at h
  case h_2 => cases h
  rename_i zs hz
  split at h
  case isFalse => cases h
  rename_i hc
  cases h
  obtain ⟨rfl, rfl, rfl, hf⟩ := hc
  obtain ⟨-, -, gs, hu, hg⟩ := H.rcP hz
  obtain ⟨g, k, g1, g2, g3, g4⟩ := hg f hf
  obtain ⟨rfl, d1, d2, d3, d4⟩ := hd
  refine ⟨.pointer (some ⟨(ρ id).blk, f, none⟩), ⟨rfl, hf, d2, d3, d4⟩, fun i hi => hi, ?_⟩
  simp only [Instr.fieldAt, Sem.run_bind, run_underlying hu, Result.andThen_ok, g1, Instr.sureAddr, Sem.run_pure, fieldPlace, run_so g3 g4, Nat.one_ne_zero, if_false, add_addr, g2, Nat.zero_add]

/-- What stands in a field. -/
def recLoad (Γ : Tab) (M : List Blk) (t : TypeId) : AV → Option AV
  | .rp id off _ _ => if one1 (Γ.sg t) = true then (match M[id]? with
    | some (.r vs) => vs[off]?
    | _ => .none) else .none
  | _ => .none
theorem recLoad_sound (H : TabOk P Γ) {ρ : Rho} {M : List Blk} {w : World} (hM : MRel ρ M w) {t : TypeId} {x r : AV} {u : Value} (h : recLoad Γ M t x = some r) (hd : Den ρ x u) :
    ∃ v, Den ρ r v ∧ (∀ i ∈ r.ids, i < M.length) ∧ (Instr.loadAt t u).run P w = .ok v w := by
  unfold recLoad at h
  split at h
  case h_2 => cases h
  rename_i id off n t'
  split at h
  case isFalse => cases h
  rename_i h1
  split at h
  case h_2 => cases h
  rename_i vs hid
  obtain ⟨C, hb, hC, hσ, hlen, hroom, hx⟩ := hM.blk id _ hid
  obtain ⟨rfl, d1, d2, d3, d4⟩ := hd
  obtain ⟨y, hy1, hy2, hy3⟩ := hx off r h
  refine ⟨y, hy2, hM.cl _ _ hid r (List.mem_of_getElem? h), ?_⟩
  unfold Instr.loadAt Instr.sureAddr loadVar
  simp only [Sem.run_bind, Sem.run_pure, one1_run H h1 w, Result.andThen_ok]
  simp [run_load, run_load_c hb hy1]

/-- A field is written. -/
def recStore (Γ : Tab) (M : List Blk) (t : TypeId) (x r : AV) : Option (List Blk) :=
  match x with
  | .rp id off _ _ => if one1 (Γ.sg t) = true ∧ isOne r = true then (match M[id]? with
    | some (.r vs) => some (M.set id (.r (vs.set off r)))
    | _ => .none) else .none
  | _ => .none
theorem recStore_sound (H : TabOk P Γ) {ρ : Rho} {M M' : List Blk} {w : World} (hM : MRel ρ M w) {t : TypeId} {x r : AV} {u v : Value} (hx0 : Den ρ x u) (hd : Den ρ r v) (hids : ∀ i ∈ r.ids, i < M.length) (h : recStore Γ M t x r = some M') :
    ∃ w' ad, u = .pointer (some ad) ∧ (storeVar t ad v).run P w = .ok () w' ∧ After ρ M M' w w' ρ := by
  unfold recStore at h
  split at h
  case h_2 => cases h
  rename_i id off n t'
  split at h
  case isFalse => cases h
  rename_i h1
  obtain ⟨h1, h2⟩ := h1
  split at h
  case h_2 => cases h
  rename_i vs hid
  cases h
  obtain ⟨C, hb, hC, hσ, hlen, hroom, hx⟩ := hM.blk id _ hid
  obtain ⟨rfl, d1, d2, d3, d4⟩ := hx0
  obtain ⟨hn1, hn2⟩ := one1_n h1
  obtain ⟨i, z, hi, hsz, -, -⟩ := H.parts rfl hn2
  obtain ⟨o1, ecell⟩ := isOne_one h2 hd
  have hlt : off < vs.length := by omega
  have o2 : v.cells.size = 1 := by rw [← Array.length_toList, ecell]; rfl
  have hr := storeVar_run (P := P) (w := w) (t := t) (n := 1) (v := v) (o := off) hi (by rw [hsz, hn1]) o2 hb (by omega) (by rw [ecell]; intro x hx; simp at hx; subst hx; exact o1)
  refine ⟨_, _, rfl, hr, After.seg hM hid rfl rfl hb ?_ ?_⟩
  · have hCl : C.toList.length = C.size := Array.length_toList
    refine ⟨_, rfl, ?_, hσ, by simp [hlen], hroom, fun j x hx' => ?_⟩
    · simp [ecell, hCl]; omega
    · rw [set_seg vs off r hlt] at hx'
      have e := seg_get vs [r] off j (by simp; omega)
      simp only [List.length_cons, List.length_nil, Nat.zero_add] at e
      rw [e] at hx'
      have e' := seg_get C.toList [v] off j (by simp; omega)
      simp only [List.length_cons, List.length_nil, Nat.zero_add] at e'
      simp only [ecell, List.getElem?_toArray, List.length_cons, List.length_nil, Nat.zero_add]
      rw [e']
      split at hx'
      · rename_i hj
        rw [if_pos hj]
        have : j - off = 0 := by omega
        rw [this] at hx' ⊢
        simp at hx'
        subst hx'
        exact ⟨v, rfl, hd, o1⟩
      · rename_i hj
        rw [if_neg hj, Array.getElem?_toList]
        exact hx j x hx'
  · intro vs' e x hx' i hi'
    cases e
    rw [set_seg vs off r hlt] at hx'
    simp only [List.mem_append, List.mem_singleton] at hx'
    rcases hx' with (hx' | rfl) | hx'
    · exact hM.cl id vs hid x (List.mem_of_mem_take hx') i hi'
    · exact hids i hi'
    · exact hM.cl id vs hid x (List.mem_of_mem_drop hx') i hi'

/-- A new struct. -/
theorem zAV_den {ρ : Rho} {a : AV} {v : Value} (h : zAV a v = true) : Den ρ a v ∧ v.oneCell' = true ∧ a.ids = [] := by
  unfold zAV at h
  split at h
  · exact ⟨rfl, rfl, rfl⟩
  · exact ⟨rfl, rfl, rfl⟩
  · simp only [Bool.and_eq_true, beq_iff_eq] at h
    obtain ⟨⟨rfl, rfl⟩, rfl⟩ := h
    rename_i k
    exact ⟨⟨rfl, by cases k <;> exact ⟨by decide, by decide⟩⟩, rfl, rfl⟩
  · cases h
theorem recNew (H : TabOk P Γ) {ρ : Rho} {t : TypeId} {zs : List AV} (h : Γ.rc t = some zs) {l : Loc} (h1 : l.size = zs.length) (h2 : l.room = zs.length) (h3 : l.σ = .ref) :
    ∃ i z, P.info? t = some i ∧ i.zero = some z ∧ BRel ρ l (some (.cells z.cells l.ty (0, 0))) (.r zs) ∧ (∀ y ∈ zs, y.ids = []) ∧ 0 < zs.length := by
  obtain ⟨h0, ⟨i, cs, hi, -, hz, hcs, hall⟩, -⟩ := H.rcP h
  have h0 := h0.1
  refine ⟨i, _, hi, hz, ⟨cs, rfl, by omega, h3, h1.symm, by omega, fun j x hx => ?_⟩, fun y hy => ?_, h0⟩
  · obtain ⟨v, hv1, hv2⟩ := hall j x hx
    obtain ⟨q1, q2, -⟩ := zAV_den (ρ := ρ) hv2
    exact ⟨v, hv1, q1, q2⟩
  · obtain ⟨j, hj⟩ := List.mem_iff_getElem?.1 hy
    obtain ⟨v, hv1, hv2⟩ := hall j y hj
    exact (zAV_den (ρ := ρ) hv2).2.2

/-! ## A struct of single cells as a value -/
/-- The cells hold these values, one each. -/
def LD (ρ : Rho) (l : List AV) (cs : Array Value) : Prop := cs.size = l.length ∧ ∀ (j : Nat) x, l[j]? = some x → ∃ v, cs[j]? = some v ∧ Den ρ x v ∧ v.oneCell' = true
def fillR : List AV → List (Nat × AV) → Option (List AV)
  | l, [] => some l
  | l, (i, x) :: r => if isOne x = true ∧ i < l.length then fillR (l.set i x) r else .none
theorem LD.set {ρ : Rho} {l : List AV} {cs : Array Value} (h : LD ρ l cs) {i : Nat} {x : AV} {v : Value} (hi : i < l.length) (hd : Den ρ x v) (h1 : v.oneCell' = true) : LD ρ (l.set i x) (cs.setIfInBounds i v) := by
  refine ⟨by simp [h.1], fun j y hy => ?_⟩
  rw [List.getElem?_set] at hy
  rw [Array.getElem?_setIfInBounds]
  split at hy
  · rename_i e
    subst e
    cases hy
    rw [if_pos rfl, if_pos (by rw [h.1]; exact hi)]
    exact ⟨v, rfl, hd, h1⟩
  · rename_i e
    rw [if_neg e]
    exact h.2 j y hy
theorem fillR_sound {ρ : Rho} {place : Nat → Option (Nat × Nat)} {E : Operand → AV} {ev : Operand → Value} (hE : ∀ x, Den ρ (E x) (ev x)) : ∀ (ps : List (Nat × Operand)) (l l' : List AV) (cs : Array Value),
    (∀ i, i < l.length → place i = some (i, 1)) → LD ρ l cs → fillR l (ps.map fun p => (p.1, E p.2)) = some l' →
    l'.length = l.length ∧ (∀ y ∈ l', y ∈ l ∨ ∃ x, y = E x) ∧ ∃ cs', Instr.fill place cs (ps.map fun p => (p.1, ev p.2)) = some cs' ∧ LD ρ l' cs'
  | [], l, l', cs, hp, hl, h => by cases h; exact ⟨rfl, fun y hy => .inl hy, cs, rfl, hl⟩
  | (i, x) :: ps, l, l', cs, hp, hl, h => by
    simp only [List.map_cons, fillR] at h
    split at h
    case isFalse => cases h
    rename_i hc
    obtain ⟨h1, h2⟩ := isOne_one hc.1 (hE x)
    have hs : (ev x).cells = #[ev x] := by apply Array.toList_inj.1; rw [h2]
    obtain ⟨q1, q2, cs', q3, q4⟩ := fillR_sound hE ps (l.set i (E x)) l' (cs.setIfInBounds i (ev x)) (fun j hj => hp j (by simpa using hj)) (hl.set hc.2 (hE x) h1) h
    refine ⟨by simpa using q1, fun y hy => ?_, cs', ?_, q4⟩
    · rcases q2 y hy with h | h
      · rcases List.mem_or_eq_of_mem_set h with h | h
        · exact .inl h
        · exact .inr ⟨x, h⟩
      · exact .inr h
    · simp only [List.map_cons, Instr.fill, hp i hc.2, hs]
      have hlt : i + 1 ≤ cs.size := by rw [hl.1]; exact hc.2
      rw [if_neg (by simp; omega)]
      simpa using q3
def tupR : List AV → Option AV
  | [a, b] => some (.rg (.t2 a b))
  | [a, b, c] => some (.rg (.t3 a b c))
  | _ => .none
theorem tupR_den {ρ : Rho} {l : List AV} {r : AV} {cs : Array Value} (h : tupR l = some r) (hl : LD ρ l cs) : Den ρ r (.agg cs) ∧ ∀ i ∈ r.ids, ∃ y ∈ l, i ∈ y.ids := by
  unfold tupR at h
  obtain ⟨h1, h2⟩ := hl
  split at h
  · rename_i a b
    cases h
    obtain ⟨u, u1, u2, -⟩ := h2 0 a rfl
    obtain ⟨v, v1, v2, -⟩ := h2 1 b rfl
    refine ⟨⟨cs, rfl, u, v, ?_, u2, v2⟩, fun i hi => ?_⟩
    · congr 1
      apply Array.ext_getElem?
      intro j
      match j with
      | 0 => exact u1
      | 1 => exact v1
      | j + 2 => rw [Array.getElem?_eq_none (by simp [h1]), Array.getElem?_eq_none (by simp)]
    · simp only [AV.ids, List.mem_append] at hi
      rcases hi with hi | hi
      · exact ⟨a, by simp, hi⟩
      · exact ⟨b, by simp, hi⟩
  · rename_i a b c
    cases h
    obtain ⟨u, u1, u2, -⟩ := h2 0 a rfl
    obtain ⟨v, v1, v2, -⟩ := h2 1 b rfl
    obtain ⟨w, w1, w2, -⟩ := h2 2 c rfl
    refine ⟨⟨cs, rfl, u, v, w, ?_, u2, v2, w2⟩, fun i hi => ?_⟩
    · congr 1
      apply Array.ext_getElem?
      intro j
      match j with
      | 0 => exact u1
      | 1 => exact v1
      | 2 => exact w1
      | j + 3 => rw [Array.getElem?_eq_none (by simp [h1]), Array.getElem?_eq_none (by simp)]
    · simp only [AV.ids, List.mem_append] at hi
      rcases hi with (hi | hi) | hi
      · exact ⟨a, by simp, hi⟩
      · exact ⟨b, by simp, hi⟩
      · exact ⟨c, by simp, hi⟩
  · cases h
def recBuild (Γ : Tab) (t : TypeId) (ps : List (Nat × AV)) : Option AV :=
  match Γ.rc t with
  | some zs => (match fillR zs ps with
    | some l => tupR l
    | .none => .none)
  | .none => .none
theorem recBuild_sound (H : TabOk P Γ) {ρ : Rho} {t : TypeId} {E : Operand → AV} {ev : Operand → Value} {ps : Array (Nat × Operand)} {r : AV} {n : Nat} (hE : ∀ x, Den ρ (E x) (ev x)) (hI : ∀ x, ∀ i ∈ (E x).ids, i < n)
    (h : recBuild Γ t (ps.toList.map fun p => (p.1, E p.2)) = some r) (w : World) : ∃ z, Den ρ r z ∧ (∀ i ∈ r.ids, i < n) ∧ (Instr.build t (ps.map fun p => (p.1, ev p.2))).run P w = .ok z w := by
  unfold recBuild at h
  split at h
  case h_2 => cases h
  rename_i zs hz
  split at h
  case h_2 => cases h
  rename_i l hl
  obtain ⟨⟨h0, -⟩, ⟨it, cs, hit, hsz, hzv, hcs, hall⟩, gs, hu, hg⟩ := H.rcP hz
  have hgs : gs.size = zs.length := by
    have h1 := H.rc t zs hz
    unfold recOk at h1
    rw [hu] at h1
    simp only [Bool.and_eq_true, beq_iff_eq] at h1
    exact h1.2.1
  have hLD : LD ρ zs cs := ⟨hcs, fun j x hx => by
    obtain ⟨v, hv1, hv2⟩ := hall j x hx
    obtain ⟨q1, q2, -⟩ := zAV_den (ρ := ρ) hv2
    exact ⟨v, hv1, q1, q2⟩⟩
  have places : ∀ (gl : List Field) (k : Nat), (∀ j (g : Field), gl[j]? = some g → g.offset = k + j ∧ ∃ i : TypeInfo, P.info? g.type = some i ∧ i.size = 1) →
      ∃ pl, gl.mapM (fun f => (P.info? f.type).map fun i => (f.offset, i.size)) = some pl ∧ pl.length = gl.length ∧ ∀ j, j < gl.length → pl[j]? = some (k + j, 1) := by
    intro gl
    induction gl with
    | nil => intro k _; exact ⟨[], rfl, rfl, fun j hj => by simp at hj⟩
    | cons g gl ih =>
      intro k hgl
      obtain ⟨ho, i, hi, hs⟩ := hgl 0 g rfl
      obtain ⟨pl, h1, h2, h3⟩ := ih (k + 1) fun j g' hj => by
        have := hgl (j + 1) g' hj
        exact ⟨by omega, this.2⟩
      refine ⟨(g.offset, i.size) :: pl, by simp [List.mapM_cons, hi, h1], by simp [h2], fun j hj => ?_⟩
      cases j with
      | zero => simp [ho, hs]
      | succ j => rw [List.getElem?_cons_succ, h3 j (by simpa using hj)]; congr 2; omega
  obtain ⟨pl, p1, p2, p3⟩ := places gs.toList 0 fun j g hj => by
    rw [Array.getElem?_toList] at hj
    obtain ⟨g', k, e1, e2, e3, e4⟩ := hg j (by have := (Array.getElem?_eq_some_iff.1 hj).1; omega)
    rw [hj] at e1
    cases e1
    exact ⟨by omega, k, e3, e4⟩
  obtain ⟨q1, q2, cs', q3, q4⟩ := fillR_sound (place := (pl.toArray[·]?)) hE ps.toList zs l cs (fun i hi => by
    rw [List.getElem?_toArray, p3 i (by simpa [hgs] using hi), Nat.zero_add]) hLD hl
  obtain ⟨t1, t2⟩ := tupR_den h q4
  refine ⟨.agg cs', t1, fun i hi => ?_, run_build w t _ _ ?_⟩
  · obtain ⟨y, hy, hiy⟩ := t2 i hi
    rcases q2 y hy with h | ⟨x, rfl⟩
    · obtain ⟨j, hj⟩ := List.mem_iff_getElem?.1 h
      obtain ⟨v, hv1, hv2⟩ := hall j y hj
      rw [(zAV_den (ρ := ρ) hv2).2.2] at hiy
      cases hiy
    · exact hI x i hiy
  · simp only [Program.built, hit, hu, hzv, p1, Array.toList_map]
    exact q3
/-- A whole struct is written. -/
def untup : AV → Option (List AV)
  | .t2 a b => some [a, b]
  | .t3 a b c => some [a, b, c]
  | _ => .none
theorem untup_den {ρ : Rho} {y : AV} {l : List AV} {cs : Array Value} (h : untup y = some l) (hd : Den ρ y (.tuple cs)) (h1 : ∀ a ∈ l, isOne a = true) : LD ρ l cs ∧ ∀ a ∈ l, ∀ i ∈ a.ids, i ∈ y.ids := by
  have one : ∀ {a : AV} {v : Value}, isOne a = true → Den ρ a v → v.oneCell' = true := fun h hd => (isOne_one h hd).1
  unfold untup at h
  split at h
  · rename_i a b
    cases h
    obtain ⟨u, v, e, hu, hv⟩ := hd
    cases e
    refine ⟨⟨rfl, fun j x hx => ?_⟩, fun x hx i hi => ?_⟩
    · match j, hx with
      | 0, hx => cases hx; exact ⟨u, rfl, hu, one (h1 a (by simp)) hu⟩
      | 1, hx => cases hx; exact ⟨v, rfl, hv, one (h1 b (by simp)) hv⟩
      | j + 2, hx => simp at hx
    · simp only [AV.ids, List.mem_append]
      simp only [List.mem_cons, List.not_mem_nil, or_false] at hx
      rcases hx with rfl | rfl
      · exact .inl hi
      · exact .inr hi
  · rename_i a b c
    cases h
    obtain ⟨u, v, w, e, hu, hv, hw⟩ := hd
    cases e
    refine ⟨⟨rfl, fun j x hx => ?_⟩, fun x hx i hi => ?_⟩
    · match j, hx with
      | 0, hx => cases hx; exact ⟨u, rfl, hu, one (h1 a (by simp)) hu⟩
      | 1, hx => cases hx; exact ⟨v, rfl, hv, one (h1 b (by simp)) hv⟩
      | 2, hx => cases hx; exact ⟨w, rfl, hw, one (h1 c (by simp)) hw⟩
      | j + 3, hx => simp at hx
    · simp only [AV.ids, List.mem_append]
      simp only [List.mem_cons, List.not_mem_nil, or_false] at hx
      rcases hx with rfl | rfl | rfl
      · exact .inl (.inl hi)
      · exact .inl (.inr hi)
      · exact .inr hi
  · cases h
def recPut (Γ : Tab) (M : List Blk) (t : TypeId) (x r : AV) : Option (List Blk) :=
  match x, r, Γ.rc t with
  | .rp id off n _, .rg y, some zs => (match untup y with
    | some l => if off = 0 ∧ n = zs.length ∧ l.length = zs.length ∧ (l.all isOne) = true then (match M[id]? with
      | some (.r _) => some (M.set id (.r l))
      | _ => .none) else .none
    | .none => .none)
  | _, _, _ => .none
theorem recPut_sound (H : TabOk P Γ) {ρ : Rho} {M M' : List Blk} {w : World} (hM : MRel ρ M w) {t : TypeId} {x r : AV} {u v : Value} (hx0 : Den ρ x u) (hd : Den ρ r v) (hids : ∀ i ∈ r.ids, i < M.length) (h : recPut Γ M t x r = some M') :
    ∃ w' ad, u = .pointer (some ad) ∧ (storeVar t ad v).run P w = .ok () w' ∧ After ρ M M' w w' ρ := by
  unfold recPut at h
  split at h
  case h_2 => cases h
  rename_i id off n t' y zs hz
  split at h
  case h_2 => cases h
  rename_i l hl
  split at h
  case isFalse => cases h
  rename_i hc
  obtain ⟨rfl, rfl, hlen, hone⟩ := hc
  split at h
  case h_2 => cases h
  rename_i vs hid
  cases h
  obtain ⟨C, hb, hC, hσ, hvl, hroom, hx⟩ := hM.blk id _ hid
  obtain ⟨rfl, d1, d2, d3, d4, d5⟩ := hx0
  obtain ⟨cs, rfl, hcs⟩ := hd
  obtain ⟨hLD, hli⟩ := untup_den hl hcs (fun a ha => List.all_eq_true.1 hone a ha)
  obtain ⟨-, ⟨i, cs0, hi, hsz, -⟩, -⟩ := H.rcP hz
  have hsc : cs.size = zs.length := by rw [hLD.1, hlen]
  have hr := storeVar_run (P := P) (w := w) (t := t) (n := zs.length) (v := .agg cs) (o := 0) hi hsz hsc hb (by omega) (by
    intro q hq
    obtain ⟨j, hj⟩ := List.mem_iff_getElem?.1 (show q ∈ cs.toList from hq)
    have hjl : j < l.length := by have := (List.getElem?_eq_some_iff.1 hj).1; simp at this; omega
    obtain ⟨v, hv1, -, hv3⟩ := hLD.2 j _ (List.getElem?_eq_getElem hjl)
    rw [Array.getElem?_toList, hv1] at hj
    cases hj
    exact hv3)
  refine ⟨_, _, rfl, hr, After.seg hM hid rfl rfl hb ?_ ?_⟩
  · have hCl : C.toList.length = C.size := Array.length_toList
    have e1 : (C.toList.take 0 ++ (Value.agg cs).cells.toList ++ C.toList.drop (0 + (Value.agg cs).cells.toList.length)) = cs.toList := by
      have : C.toList.drop (0 + (Value.agg cs).cells.toList.length) = [] := by
        apply List.drop_eq_nil_of_le
        show C.toList.length ≤ 0 + cs.toList.length
        simp; omega
      rw [this]; simp [Value.cells]
    refine ⟨cs, ?_, by omega, hσ, by omega, hroom, fun j x hj => ?_⟩
    · rw [e1]
    · obtain ⟨v, q1, q2, q3⟩ := hLD.2 j x hj
      exact ⟨v, q1, q2, q3⟩
  · intro vs' e x hx' i hi'
    cases e
    exact hids i (by simp only [AV.ids]; exact hli x hx' i hi')

/-- A struct in a new block. -/
def recBox (Γ : Tab) (M : List Blk) (t : TypeId) (x : AV) : Option (AV × List Blk × List Prop) :=
  match x, Γ.rc t with
  | .rg y, some zs => (match untup y with
    | some l => if l.length = zs.length ∧ (l.all isOne) = true then some (.rp M.length 0 zs.length t, M ++ [.r l], []) else .none
    | .none => .none)
  | _, _ => .none

/-! ## unsafe.Pointer and back -/
def unsAV (Γ : Tab) (M : List Blk) (s t : TypeId) : AV → Option (AV × List Prop)
  | .rp id off n t0 => match M[id]?, Γ.rc t0 with
    | some (.r _), some zs => if n = zs.length ∧ off = 0 then (match Γ.up t, Γ.up s with
      | true, _ => (match Γ.pt s with
        | some e => if e = t0 then some (.rp id 0 n t0, []) else .none
        | .none => .none)
      | false, true => (match Γ.pt t with
        | some e => if e = t0 then some (.rp id 0 n t0, []) else .none
        | .none => .none)
      | false, false => .none) else .none
    | _, _ => .none
  | _ => .none
theorem unsAV_mv {M M' : List Blk} {s t : TypeId} {x : AV} (h1 : Γ.up s = false) (h2 : Γ.up t = false) : unsAV Γ M s t x = unsAV Γ M' s t x := by
  have : ∀ M, unsAV Γ M s t x = .none := by
    intro M
    unfold unsAV
    split
    · split
      · simp [h1, h2]
      · rfl
    · rfl
  rw [this M, this M']
theorem unsAV_sound (H : TabOk P Γ) {ρ : Rho} {M : List Blk} {w : World} (hM : MRel ρ M w) {s t : TypeId} {x r : AV} {u : Value} {vcs : List Prop} (h : unsAV Γ M s t x = some (r, vcs)) (hx : Den ρ x u) :
    ∃ z, Den ρ r z ∧ (∀ i ∈ r.ids, i ∈ x.ids) ∧ (convert s t u).run P w = .ok z w := by
  unfold unsAV at h
  split at h
  case h_2 => cases h
  rename_i id off n t0
  split at h
  case h_2 => cases h
  rename_i vs zs hid hz
  split at h
  case isFalse => cases h
  rename_i hc
  obtain ⟨rfl, rfl⟩ := hc
  obtain ⟨C, hb, hC, hσ, hvl, hroom, -⟩ := hM.blk id _ hid
  obtain ⟨rfl, d1, d2, d3, d4, d5⟩ := hx
  obtain ⟨⟨h0, hlies⟩, -⟩ := H.rcP hz
  have hsh : w.shape? (⟨(ρ id).blk, 0, none⟩ : Addr).block = some (t0, zs.length) := by
    simp [World.shape?, hb, d4, hC, d5]
  split at h
  · rename_i hu
    split at h
    · rename_i e hpt
      split at h
      · rename_i he
        subst he
        cases h
        obtain ⟨hs, j, hj, hjn⟩ := H.pt s _ hpt
        exact ⟨_, ⟨rfl, d1, d2, d3, d4, d5⟩, fun i hi => hi, Lib.run_to_unsafe w _ hs (H.up t hu) hj hjn hsh h0⟩
      · cases h
    · cases h
  · rename_i hu1 hu2
    split at h
    · rename_i e hpt
      split at h
      · rename_i he
        subst he
        cases h
        obtain ⟨hs, j, hj, hjn⟩ := H.pt t _ hpt
        exact ⟨_, ⟨rfl, d1, d2, d3, d4, d5⟩, fun i hi => hi, Lib.run_from_unsafe w _ (H.up s hu2) hs hj hsh hlies⟩
      · cases h
    · cases h
  · cases h

/-! ## Pointers held against each other -/
/-- Where a pointer points to. -/
def ptrOf : AV → Option (Option (Nat × Nat))
  | .np => some .none
  | .p id off _ => some (some (id, off))
  | .pw id _ => some (some (id, 0))
  | .rp id off _ _ => some (some (id, off))
  | _ => .none
def evPtr (Γ : Tab) (op : BinOp) (t : TypeId) (x y : AV) : Option (AV × List Prop) :=
  match Γ.pt t with
  | .none => .none
  | some _ => match ptrOf x, ptrOf y with
    | some a, some b => (match (match a, b with
        | .none, .none => some true
        | some _, .none => some false
        | some a, some b => if a = b then some true else .none
        | .none, some _ => .none) with
      | some e => (match op with
        | .eql => some (.d e, [])
        | .neq => some (.d (!e), [])
        | _ => .none)
      | .none => .none)
    | _, _ => .none
theorem ptrOf_den {ρ : Rho} {x : AV} {a : Option (Nat × Nat)} {v : Value} (h : ptrOf x = some a) (hd : Den ρ x v) : v = .pointer (a.map fun p => ⟨(ρ p.1).blk, p.2, none⟩) := by
  unfold ptrOf at h
  split at h <;> cases h
  · exact hd
  · exact hd.1
  · exact hd.1
  · exact hd.1
theorem evPtr_sound (H : TabOk P Γ) {ρ : Rho} {op : BinOp} {t : TypeId} {x y r : AV} {u v : Value} {vcs : List Prop} (h : evPtr Γ op t x y = some (r, vcs))
    (hx : Den ρ x u) (hy : Den ρ y v) (w : World) :
    ∃ z, Den ρ r z ∧ r.ids = [] ∧ (∃ a b, u = .pointer a ∧ v = .pointer b) ∧ (binOp op t u v).run P w = .ok z w := by
  unfold evPtr at h
  split at h
  · cases h
  · rename_i e hpt
    obtain ⟨hu, i, hi, hne⟩ := H.pt t e hpt
    split at h
    · rename_i a b ha hb
      have e1 := ptrOf_den ha hx
      have e2 := ptrOf_den hb hy
      subst e1
      subst e2
      split at h
      case h_2 => cases h
      rename_i q hq
      have hrun : (Op.equalIn (9999 + 1) t (.pointer (a.map fun p => ⟨(ρ p.1).blk, p.2, none⟩)) (.pointer (b.map fun p => ⟨(ρ p.1).blk, p.2, none⟩))).run P w = .ok q w := by
        generalize 9999 = m
        split at hq
        · cases hq; simp [Op.equalIn, run_underlying hu]
        · cases hq; simp [Op.equalIn, run_underlying hu]
        · split at hq
          · rename_i e; cases hq; subst e
            simp [Op.equalIn, run_underlying hu, sizeOf, typeInfo, hi, run_sameAddr_same]
          · cases hq
        · cases hq
      split at h
      · cases h; exact ⟨.bool q, rfl, rfl, ⟨_, _, rfl, rfl⟩, by simp [binOp, Op.equal, Op.maxDepth, hrun]⟩
      · cases h; exact ⟨.bool (!q), rfl, rfl, ⟨_, _, rfl, rfl⟩, by simp [binOp, Op.equal, Op.maxDepth, hrun]⟩
      · cases h
    · cases h

end Go.Eng

/- The engine, part 7: the evaluator. No conditions. -/
namespace Go.Eng
open Go Go.RowKit
set_option linter.unusedSectionVars false
variable [Glob]
variable {P : Program} {Γ : Tab}

def mxI (a b : Int) : Int := if a < b then b else a
def mnI (a b : Int) : Int := if b < a then b else a

def aggB (σ : Sg) : Bool := match σ.inf with | .st _ => true | .arr _ _ => true | _ => false

/-- Where a part lies, and its shape. -/
def partAt (σ : Sg) (i : Nat) : Option (Nat × Sg) :=
  match σ.inf with
  | .st fs => fldAt fs i
  | .arr n e => if i < n then some (i * e.n, e) else .none
  | _ => .none

def slotAt (σ : Sg) (len i : Nat) : Option (Nat × Sg) := if i < len then some (i * σ.n, σ) else .none

/-- Parts are filled in. -/
def fillAV (pl : Nat → Option (Nat × Sg)) : List Int → List (Nat × AV) → Option (List Int)
  | xs, [] => some xs
  | xs, (i, r) :: l => match pl i with
    | some (o, τ) => match τ.inf with
      | .cell k => match toCell k r with
        | some n => fillAV pl (xs.set o n) l
        | .none => .none
      | _ => match r with
        | .ag τ' ys => if τ' = τ then fillAV pl (putSeg xs o τ.n ys) l else .none
        | _ => .none
    | .none => .none

def capsAV : List AV → Option (List (Nat × Sg))
  | [] => some []
  | .pw id σ :: l => match capsAV l with
    | some cs => some ((id, σ) :: cs)
    | .none => .none
  | _ => .none

/-- An array, as a slice. -/
def slAll (M : List Blk) (id off : Nat) (σ : Sg) : Option (AV × List Prop) :=
  match σ.inf with
  | .arr n e => match M[id]? with
    | some (.c _ _) => some (.sl id off n e, [])
    | _ => .none
  | _ => .none

/-- The functions that the language itself has. -/
def evB (Γ : Tab) (ts : Array TypeId) : Builtin → List AV → Option (AV × List Prop)
  | .len, [.sl _ _ len _] => if (Γ.sl (ts.getD 0 0)).isSome = true ∧ 0 < ts.size then some (.i .i64 len, [rng .i64 len]) else .none
  | .len, [.ow _ len _ _] => if (Γ.sl (ts.getD 0 0)).isSome = true ∧ 0 < ts.size then some (.i .i64 len, []) else .none
  | .len, [.fs _ rows] => if (Γ.sl (ts.getD 0 0)).isSome = true ∧ 0 < ts.size then some (.i .i64 rows.length, []) else .none
  | .len, [.fz _ rows] => if (Γ.sl (ts.getD 0 0)).isSome = true ∧ 0 < ts.size then some (.i .i64 rows.length, []) else .none
  | .len, [.fstr l] => if (Γ.sl (ts.getD 0 0)).isSome = true ∧ 0 < ts.size then some (.i .i64 l.length, []) else .none
  | .len, [.es] => if (Γ.sl (ts.getD 0 0)).isSome = true ∧ 0 < ts.size then some (.i .i64 0, []) else .none
  | .len, [.s x] => if Γ.sg (ts.getD 0 0) = .str ∧ 0 < ts.size then some (.i .i64 x.size, []) else .none
  | .len, [.nsl] => if (Γ.sl (ts.getD 0 0)).isSome = true ∧ 0 < ts.size then some (.i .i64 0, []) else .none
  | .min, [.i k m, .i k' n] => if k = k' then some (.i k (mnI m n), []) else .none
  | .max, [.i k m, .i k' n] => if k = k' then some (.i k (mxI m n), []) else .none
  | _, _ => .none

def bndAV (E : Operand → AV) : Option Operand → Option (Option Int)
  | .none => some .none
  | some x => match E x with
    | .i _ n => some (some n)
    | _ => .none

/-- A list is written out. -/
def fI {β : Type} : List Int → (List Int → β) → β
  | [], K => K []
  | x :: l, K => fI l fun l => K (x :: l)
theorem fI_eq {β : Type} (l : List Int) (K : List Int → β) : fI l K = K l := by
  induction l generalizing K with
  | nil => rfl
  | cons x l ih => simp only [fI, ih]

def fSg' {α : Type} (σ : Sg) (K : Sg → α) : α :=
  match σ with
  | .i8 => K .i8 | .i16 => K .i16 | .i32 => K .i32 | .i64 => K .i64 | .u8 => K .u8 | .u16 => K .u16 | .u32 => K .u32 | .u64 => K .u64 | .bool => K .bool | .str => K .str | .ref => K .ref
  | .spot => K .spot | .row => K .row | .grid => K .grid | .w10 => K .w10 | .pas => K .pas | .tab => K .tab | .gro => K .gro | .goat => K .goat | .hur => K .hur
  | .b10 => K .b10 | .bgrid => K .bgrid | .l10 => K .l10 | .lgrid => K .lgrid | .two => K .two | .sp2 => K .sp2 | .g8r => K .g8r | .g8 => K .g8 | .flo => K .flo | .none => K .none
theorem fSg'_eq {α : Type} (σ : Sg) (K : Sg → α) : fSg' σ K = K σ := by cases σ <;> rfl

/-- An element of a piece of a row of one's own. -/
def slIdx (Γ : Tab) (M : List Blk) (t : TypeId) : AV → AV → Option (AV × List Prop)
  | .sl id off len σ, .i _ i => match Γ.sl t with
    | some e => (match M[id]? with
      | some (.l τ _) => if Γ.sg e = σ ∧ σ ≠ .none ∧ σ.pure = true ∧ τ = σ then some (.lp id (off / σ.n + i.toNat) 0 σ σ, [0 ≤ i ∧ i < (len : Int) ∧ off / σ.n * σ.n = off]) else .none
      | _ => .none)
    | .none => .none
  | _, _ => .none

/-- The text of bytes. -/
def bytesR (rows : List (List Int)) : ByteArray := ⟨(rows.map fun r => UInt8.ofNat (r.getD 0 0).toNat).toArray⟩
def strAV (Γ : Tab) (M : List Blk) (s : TypeId) : AV → Option (AV × List Prop)
  | .ow id n σ e => match Γ.sl s with
    | some e' => (match M[id]? with
      | some (.l τ rows) => if e' = e ∧ Γ.sg e = .u8 ∧ σ = .u8 ∧ τ = .u8 then some (.s (bytesR rows), [n = rows.length ∧ n ≤ maxLen]) else .none
      | _ => .none)
    | .none => .none
  | .fs σ rows => match Γ.sl s with
    | some e => if Γ.sg e = .u8 ∧ σ = .u8 then some (.s (bytesR rows), []) else .none
    | .none => .none
  | _ => .none

def cvAV (Γ : Tab) (wr : Bool) (M : List Blk) (s t : TypeId) (x : AV) : Option (AV × List Prop) :=
  match x, (Γ.sg s).inf, (Γ.sg t).inf with
  | .i _ n, .cell (.int _), .cell (.int k) => ar wr k n
  | y, _, .str => if Γ.sg t = .str then strAV Γ M s y else .none
  | _, _, _ => .none
theorem cvAV_mv {Γ : Tab} {wr : Bool} {M M' : List Blk} {s t : TypeId} {x : AV} (h : Γ.sg t ≠ .str) : cvAV Γ wr M s t x = cvAV Γ wr M' s t x := by
  unfold cvAV
  split
  · rfl
  · rw [if_neg h, if_neg h]
  · rfl

/-- An element of an array, a byte of a text. -/
def ixAV (Γ : Tab) (t : TypeId) : AV → AV → Option (AV × List Prop)
  | .ag σ xs, .i _ i => match σ.inf with
    | .arr n e => (match e.inf with
      | .cell (.int k) => if Γ.sg t = σ ∧ σ ≠ .none then some (.i k (xs.getD i.toNat 0), [0 ≤ i ∧ i < (n : Int)]) else .none
      | _ => .none)
    | _ => .none
  | .s s, .i _ i => if Γ.sg t = .str then some (.i .u8 ((s.data.getD i.toNat 0).toNat : Int), [0 ≤ i ∧ i < (s.size : Int)]) else .none
  | _, _ => .none

/-- Operations that leave memory alone. -/
def evS (Γ : Tab) (wr : Bool) (M : List Blk) (E : Operand → AV) : Op → Option (AV × List Prop)
  | .move x => some (E x, [])
  | .assign x => some (E x, [])
  | .pick c a b => match E c with
    | .d p => match p with
      | true => some (E a, [])
      | false => some (E b, [])
    | _ => .none
  | .load t x => match E x with
    | .p id off σ => if Γ.sg t = σ ∧ σ ≠ .none then (match loadAV M id off σ with
      | some r => some (r, [])
      | .none => .none) else .none
    | .pw id σ => if Γ.sg t = σ ∧ σ ≠ .none then (match loadW M id σ with
      | some r => some (r, [])
      | .none => .none) else .none
    | y => match rowLoad Γ M t y with
      | some r => some (r, [])
      | .none => match recLoad Γ M t y with
        | some r => some (r, [])
        | .none => .none
  | .nilCheck x => match E x with
    | .p id off σ => some (.p id off σ, [])
    | .pw id σ => some (.pw id σ, [])
    | .lp id i o σ τ => some (.lp id i o σ τ, [])
    | .rp id off n t => some (.rp id off n t, [])
    | .fp o σ τ xs => some (.fp o σ τ xs, [])
    | .fq σ rows => some (.fq σ rows, [])
    | .fqs s => some (.fqs s, [])
    | _ => .none
  | .fieldAddr t x f => match fldAV Γ t f (E x) with
    | some r => some (r, [])
    | .none => match rowFld Γ t f (E x) with
      | some r => some (r, [])
      | .none => match recFld Γ t f (E x) with
        | some r => some (r, [])
        | .none => .none
  | .indexAddr t x i => match rowIdx Γ t (E x) (E i) with
    | some r => some r
    | .none => match slIdx Γ M t (E x) (E i) with
      | some r => some r
      | .none => idxAV Γ t (E x) (E i)
  | .binOp op t x y _ => match evBin Γ wr op t (E x) (E y) with
    | some r => some r
    | .none => evPtr Γ op t (E x) (E y)
  | .unOp op _ x => match op, E x with
    | .not, .b p => some (.b (!p), [])
    | .not, .d p => match p with
      | true => some (.d false, [])
      | false => some (.d true, [])
    | .neg, .i k n => ar wr k (0 - n)
    | _, _ => .none
  | .convert s t x => match cvAV Γ wr M s t (E x) with
    | some r => some r
    | .none => unsAV Γ M s t (E x)
  | .index t x i => ixAV Γ t (E x) (E i)
  | .extract x i => match E x, i with
    | .t2 a _, 0 => some (a, [])
    | .t2 _ b, 1 => some (b, [])
    | .t3 a _ _, 0 => some (a, [])
    | .t3 _ b _, 1 => some (b, [])
    | .t3 _ _ c, 2 => some (c, [])
    | .t4 a _ _ _, 0 => some (a, [])
    | .t4 _ b _ _, 1 => some (b, [])
    | .t4 _ _ c _, 2 => some (c, [])
    | .t4 _ _ _ d, 3 => some (d, [])
    | _, _ => .none
  | .build t ps => match recBuild Γ t (ps.toList.map fun p => (p.1, E p.2)) with
    | some r => some (r, [])
    | .none => fSg' (Γ.sg t) fun σ => if σ ≠ .none ∧ aggB σ = true then
      (match fillAV (partAt σ) (List.replicate σ.n 0) (ps.toList.map fun p => (p.1, E p.2)) with
      | some xs => (match σ with
        | .spot => fI xs fun xs => some (.ag .spot xs, [])
        | σ => some (.ag σ xs, []))
      | .none => .none) else .none
  | .makeFunc f first caps => match f with
    | .func f => if first.size = 0 then (match capsAV (caps.toList.map E) with
      | some cs => some (.fn f cs, [])
      | .none => .none) else (match first.toList, caps.toList with
      | [y], [] => (match E y with
        | .ag σ xs => some (.fb f σ xs, [])
        | _ => .none)
      | _, _ => .none)
    | _ => .none
  | .slice t x l h m => match l, h, m with
    | .none, .none, .none => match E x with
      | .pw id σ => if Γ.sg t = σ then slAll M id 0 σ else .none
      | .p id off σ => if Γ.sg t = σ then slAll M id off σ else .none
      | _ => .none
    | l, h, m => match bndAV E l, bndAV E h, bndAV E m with
      | some l, some h, some m => sliceAV Γ t (E x) l h m
      | _, _, _ => .none
  | .call c => match c.callee with
    | .builtin b => evB Γ c.argTypes b (c.args.toList.map E)
    | _ => .none
  | _ => .none

/-! ## Forcing: nothing but how a term is written -/
def fNat {α : Type} (n : Nat) (K : Nat → α) : α :=
  match n with
  | 0 => K 0
  | 1 => K 1
  | 2 => K 2
  | 3 => K 3
  | 4 => K 4
  | 5 => K 5
  | 6 => K 6
  | 7 => K 7
  | 8 => K 8
  | 9 => K 9
  | 10 => K 10
  | 11 => K 11
  | 12 => K 12
  | 13 => K 13
  | 14 => K 14
  | 15 => K 15
  | 16 => K 16
  | 17 => K 17
  | 18 => K 18
  | 19 => K 19
  | 20 => K 20
  | 21 => K 21
  | 22 => K 22
  | 23 => K 23
  | 24 => K 24
  | 25 => K 25
  | 26 => K 26
  | 27 => K 27
  | 28 => K 28
  | 29 => K 29
  | 30 => K 30
  | 31 => K 31
  | 32 => K 32
  | 33 => K 33
  | 34 => K 34
  | 35 => K 35
  | 36 => K 36
  | 37 => K 37
  | 38 => K 38
  | 39 => K 39
  | 40 => K 40
  | 41 => K 41
  | 42 => K 42
  | 43 => K 43
  | 44 => K 44
  | 45 => K 45
  | 46 => K 46
  | 47 => K 47
  | 48 => K 48
  | 49 => K 49
  | 50 => K 50
  | 51 => K 51
  | 52 => K 52
  | 53 => K 53
  | 54 => K 54
  | 55 => K 55
  | 56 => K 56
  | 57 => K 57
  | 58 => K 58
  | 59 => K 59
  | 60 => K 60
  | 61 => K 61
  | 62 => K 62
  | 63 => K 63
  | n => K n
theorem fNat_eq {α : Type} (n : Nat) (K : Nat → α) : fNat n K = K n := by unfold fNat; split <;> rfl

def fSg {α : Type} (σ : Sg) (K : Sg → α) : α :=
  match σ with
  | .i8 => K .i8
  | .i16 => K .i16
  | .i32 => K .i32
  | .i64 => K .i64
  | .u8 => K .u8
  | .u16 => K .u16
  | .u32 => K .u32
  | .u64 => K .u64
  | .bool => K .bool
  | .str => K .str
  | .ref => K .ref
  | .spot => K .spot
  | .row => K .row
  | .grid => K .grid
  | .w10 => K .w10
  | .pas => K .pas
  | .tab => K .tab
  | .gro => K .gro
  | .goat => K .goat
  | .hur => K .hur
  | .b10 => K .b10
  | .bgrid => K .bgrid
  | .l10 => K .l10
  | .lgrid => K .lgrid
  | .two => K .two
  | .sp2 => K .sp2
  | .g8r => K .g8r
  | .g8 => K .g8
  | .flo => K .flo
  | .none => K .none
theorem fSg_eq {α : Type} (σ : Sg) (K : Sg → α) : fSg σ K = K σ := by cases σ <;> rfl

def fK {α : Type} (k : IntKind) (K : IntKind → α) : α :=
  match k with
  | .i8 => K .i8 | .i16 => K .i16 | .i32 => K .i32 | .i64 => K .i64 | .u8 => K .u8 | .u16 => K .u16 | .u32 => K .u32 | .u64 => K .u64
theorem fK_eq {α : Type} (k : IntKind) (K : IntKind → α) : fK k K = K k := by cases k <;> rfl

def fNs {α : Type} : List Nat → (List Nat → α) → α
  | [], K => K []
  | i :: l, K => fNat i fun i => fNs l fun l => K (i :: l)
theorem fNs_eq {α : Type} (l : List Nat) (K : List Nat → α) : fNs l K = K l := by
  induction l generalizing K with
  | nil => rfl
  | cons i l ih => simp only [fNs, fNat_eq, ih]

def fCaps {α : Type} : List (Nat × Sg) → (List (Nat × Sg) → α) → α
  | [], K => K []
  | (i, σ) :: l, K => fNat i fun i => fSg σ fun σ => fCaps l fun l => K ((i, σ) :: l)
theorem fCaps_eq {α : Type} (l : List (Nat × Sg)) (K : List (Nat × Sg) → α) : fCaps l K = K l := by
  induction l generalizing K with
  | nil => rfl
  | cons c l ih => obtain ⟨i, σ⟩ := c; simp only [fCaps, fNat_eq, fSg_eq, ih]

def fAV {α : Type} : AV → (AV → α) → α
  | .any, K => K .any
  | .i k n, K => fK k fun k => K (.i k n)
  | .b p, K => K (.b p)
  | .d true, K => K (.d true)
  | .d false, K => K (.d false)
  | .s s, K => K (.s s)
  | .ag σ xs, K => fSg σ fun σ => K (.ag σ xs)
  | .p id off σ, K => fNat id fun id => fSg σ fun σ => K (.p id off σ)
  | .pw id σ, K => fNat id fun id => fSg σ fun σ => K (.pw id σ)
  | .np, K => K .np
  | .sl id off len σ, K => fNat id fun id => fSg σ fun σ => K (.sl id off len σ)
  | .ow id len σ e, K => fNat id fun id => fSg σ fun σ => K (.ow id len σ e)
  | .lp id i o σ τ, K => fNat id fun id => fNat o fun o => fSg σ fun σ => fSg τ fun τ => K (.lp id i o σ τ)
  | .rp id off n t, K => fNat id fun id => fNat off fun off => K (.rp id off n t)
  | .rg x, K => fAV x fun x => K (.rg x)
  | .fs σ rows, K => fSg σ fun σ => K (.fs σ rows)
  | .fp o σ τ xs, K => fNat o fun o => fSg σ fun σ => fSg τ fun τ => K (.fp o σ τ xs)
  | .fz σ rows, K => fSg σ fun σ => K (.fz σ rows)
  | .fstr l, K => K (.fstr l)
  | .fq σ rows, K => fSg σ fun σ => K (.fq σ rows)
  | .fqs s, K => K (.fqs s)
  | .es, K => K .es
  | .un, K => K .un
  | .nsl, K => K .nsl
  | .fb f σ xs, K => fSg σ fun σ => K (.fb f σ xs)
  | .fn f c, K => fCaps c fun c => K (.fn f c)
  | .mp id, K => fNat id fun id => K (.mp id)
  | .t2 x y, K => fAV x fun x => fAV y fun y => K (.t2 x y)
  | .t3 x y z, K => fAV x fun x => fAV y fun y => fAV z fun z => K (.t3 x y z)
  | .t4 x y z u, K => fAV x fun x => fAV y fun y => fAV z fun z => fAV u fun u => K (.t4 x y z u)
  | .v x, K => K (.v x)
theorem fAV_eq {α : Type} : ∀ (x : AV) (K : AV → α), fAV x K = K x
  | .any, K => rfl
  | .i k n, K => by simp only [fAV, fK_eq]
  | .b p, K => rfl
  | .d true, K => rfl
  | .d false, K => rfl
  | .s s, K => rfl
  | .ag σ xs, K => by simp only [fAV, fSg_eq]
  | .p id off σ, K => by simp only [fAV, fNat_eq, fSg_eq]
  | .pw id σ, K => by simp only [fAV, fNat_eq, fSg_eq]
  | .np, K => rfl
  | .sl id off len σ, K => by simp only [fAV, fNat_eq, fSg_eq]
  | .ow id len σ e, K => by simp only [fAV, fNat_eq, fSg_eq]
  | .lp id i o σ τ, K => by simp only [fAV, fNat_eq, fSg_eq]
  | .rp id off n t, K => by simp only [fAV, fNat_eq]
  | .rg x, K => by simp only [fAV, fAV_eq x]
  | .fs σ rows, K => by simp only [fAV, fSg_eq]
  | .fp o σ τ rows, K => by simp only [fAV, fNat_eq, fSg_eq]
  | .fz σ rows, K => by simp only [fAV, fSg_eq]
  | .fstr _, K => rfl
  | .fq σ rows, K => by simp only [fAV, fSg_eq]
  | .fqs _, K => rfl
  | .es, K => rfl
  | .un, K => rfl
  | .nsl, K => rfl
  | .fb f σ xs, K => by simp only [fAV, fSg_eq]
  | .fn f c, K => by simp only [fAV, fCaps_eq]
  | .mp id, K => by simp only [fAV, fNat_eq]
  | .t2 x y, K => by simp only [fAV, fAV_eq x, fAV_eq y]
  | .t3 x y z, K => by simp only [fAV, fAV_eq x, fAV_eq y, fAV_eq z]
  | .t4 x y z u, K => by simp only [fAV, fAV_eq x, fAV_eq y, fAV_eq z, fAV_eq u]
  | .v x, K => rfl

def fL {α : Type} : List AV → (List AV → α) → α
  | [], K => K []
  | x :: l, K => fAV x fun x => fL l fun l => K (x :: l)
theorem fL_eq {α : Type} (l : List AV) (K : List AV → α) : fL l K = K l := by
  induction l generalizing K with
  | nil => rfl
  | cons x l ih => simp only [fL, fAV_eq, ih]

def fBlk {α : Type} : Blk → (Blk → α) → α
  | .dead, K => K .dead
  | .c σ xs, K => fSg σ fun σ => K (.c σ xs)
  | .s l, K => K (.s l)
  | .l σ rows, K => fSg σ fun σ => K (.l σ rows)
  | .rf σ rows, K => fSg σ fun σ => K (.rf σ rows)
  | .r l, K => fL l fun l => K (.r l)
  | .m σ k es, K => fSg σ fun σ => K (.m σ k es)
theorem fBlk_eq {α : Type} (b : Blk) (K : Blk → α) : fBlk b K = K b := by cases b <;> simp only [fBlk, fSg_eq, fL_eq]

def fM {α : Type} : List Blk → (List Blk → α) → α
  | [], K => K []
  | x :: l, K => fBlk x fun x => fM l fun l => K (x :: l)
theorem fM_eq {α : Type} (l : List Blk) (K : List Blk → α) : fM l K = K l := by
  induction l generalizing K with
  | nil => rfl
  | cons x l ih => simp only [fM, fBlk_eq, ih]

def fP {α : Type} : List Prop → (List Prop → α) → α
  | [], K => K []
  | x :: l, K => fP l fun l => K (x :: l)
theorem fP_eq {α : Type} (l : List Prop) (K : List Prop → α) : fP l K = K l := by
  induction l generalizing K with
  | nil => rfl
  | cons x l ih => simp only [fP, ih]

structure St where
  fr : List AV
  M : List Blk

end Go.Eng

/- The engine, part 8: a call, by what is told of its callee. No conditions. -/
namespace Go.Eng
open Go Go.RowKit
set_option linter.unusedSectionVars false
variable [Glob]
variable {P : Program} {Γ : Tab}

/-- The same value under other ids. -/
def AV.mapI (f : Nat → Nat) : AV → AV
  | .p id off σ => .p (f id) off σ
  | .pw id σ => .pw (f id) σ
  | .sl id off len σ => .sl (f id) off len σ
  | .ow id len σ e => .ow (f id) len σ e
  | .lp id k o σ τ => .lp (f id) k o σ τ
  | .rp id off n t => .rp (f id) off n t
  | .rg x => .rg (x.mapI f)
  | .fn g caps => .fn g (caps.map fun c => (f c.1, c.2))
  | .mp id => .mp (f id)
  | .t2 x y => .t2 (x.mapI f) (y.mapI f)
  | .t3 x y z => .t3 (x.mapI f) (y.mapI f) (z.mapI f)
  | .t4 x y z u => .t4 (x.mapI f) (y.mapI f) (z.mapI f) (u.mapI f)
  | x => x
def Blk.mapI (f : Nat → Nat) : Blk → Blk
  | .r vs => .r (vs.map (AV.mapI f))
  | b => b

theorem den_mapI (ρ : Rho) (f : Nat → Nat) : ∀ (x : AV) (v : Value), Den ρ (x.mapI f) v ↔ Den (ρ.ren f) x v
  | .any, _ => Iff.rfl
  | .i _ _, _ => Iff.rfl
  | .b _, _ => Iff.rfl
  | .d _, _ => Iff.rfl
  | .s _, _ => Iff.rfl
  | .ag _ _, _ => Iff.rfl
  | .p _ _ _, _ => Iff.rfl
  | .pw _ _, _ => Iff.rfl
  | .np, _ => Iff.rfl
  | .sl _ _ _ _, _ => Iff.rfl
  | .ow _ _ _ _, _ => Iff.rfl
  | .lp _ _ _ _ _, _ => Iff.rfl
  | .rp _ _ _ _, _ => Iff.rfl
  | .rg x, v => by simp only [AV.mapI, Den, den_mapI ρ f x]
  | .fs _ _, _ => Iff.rfl
  | .fp _ _ _ _, _ => Iff.rfl
  | .fq _ _, _ => Iff.rfl
  | .fqs _, _ => Iff.rfl
  | .es, _ => Iff.rfl
  | .un, _ => Iff.rfl
  | .fz _ _, _ => Iff.rfl
  | .fstr _, _ => Iff.rfl
  | .nsl, _ => Iff.rfl
  | .fb _ _ _, _ => Iff.rfl
  | .fn g caps, v => by simp only [AV.mapI, Den, List.map_map, List.mem_map, forall_exists_index, and_imp, forall_apply_eq_imp_iff₂]; rfl
  | .mp _, _ => Iff.rfl
  | .t2 x y, v => by simp only [AV.mapI, Den, den_mapI ρ f x, den_mapI ρ f y]
  | .t3 x y z, v => by simp only [AV.mapI, Den, den_mapI ρ f x, den_mapI ρ f y, den_mapI ρ f z]
  | .t4 x y z u, v => by simp only [AV.mapI, Den, den_mapI ρ f x, den_mapI ρ f y, den_mapI ρ f z, den_mapI ρ f u]
  | .v _, _ => Iff.rfl

theorem ids_mapI (f : Nat → Nat) : ∀ (x : AV), (x.mapI f).ids = x.ids.map f
  | .any => rfl
  | .i _ _ => rfl
  | .b _ => rfl
  | .d _ => rfl
  | .s _ => rfl
  | .ag _ _ => rfl
  | .p _ _ _ => rfl
  | .pw _ _ => rfl
  | .np => rfl
  | .sl _ _ _ _ => rfl
  | .ow _ _ _ _ => rfl
  | .lp _ _ _ _ _ => rfl
  | .rp _ _ _ _ => rfl
  | .rg x => by simp only [AV.mapI, AV.ids, ids_mapI f x]
  | .fs _ _ => rfl
  | .fp _ _ _ _ => rfl
  | .fq _ _ => rfl
  | .fqs _ => rfl
  | .es => rfl
  | .un => rfl
  | .fz _ _ => rfl
  | .fstr _ => rfl
  | .nsl => rfl
  | .fb _ _ _ => rfl
  | .fn g caps => by simp [AV.mapI, AV.ids]
  | .mp _ => rfl
  | .t2 x y => by simp [AV.mapI, AV.ids, ids_mapI f x, ids_mapI f y]
  | .t3 x y z => by simp [AV.mapI, AV.ids, ids_mapI f x, ids_mapI f y, ids_mapI f z]
  | .t4 x y z u => by simp [AV.mapI, AV.ids, ids_mapI f x, ids_mapI f y, ids_mapI f z, ids_mapI f u]
  | .v _ => rfl

theorem mapI_id {f : Nat → Nat} : ∀ (x : AV), (∀ i ∈ x.ids, f i = i) → x.mapI f = x
  | .any, _ => rfl
  | .i _ _, _ => rfl
  | .b _, _ => rfl
  | .d _, _ => rfl
  | .s _, _ => rfl
  | .ag _ _, _ => rfl
  | .p id _ _, h => by simp only [AV.mapI]; rw [h id (by simp [AV.ids])]
  | .pw id _, h => by simp only [AV.mapI]; rw [h id (by simp [AV.ids])]
  | .np, _ => rfl
  | .sl id _ _ _, h => by simp only [AV.mapI]; rw [h id (by simp [AV.ids])]
  | .ow id _ _ _, h => by simp only [AV.mapI]; rw [h id (by simp [AV.ids])]
  | .lp id _ _ _ _, h => by simp only [AV.mapI]; rw [h id (by simp [AV.ids])]
  | .rp id _ _ _, h => by simp only [AV.mapI]; rw [h id (by simp [AV.ids])]
  | .rg x, h => by simp only [AV.mapI]; rw [mapI_id x (fun i hi => h i (by simp only [AV.ids]; exact hi))]
  | .fs _ _, _ => rfl
  | .fp _ _ _ _, _ => rfl
  | .fq _ _, _ => rfl
  | .fqs _, _ => rfl
  | .es, _ => rfl
  | .un, _ => rfl
  | .fz _ _, _ => rfl
  | .fstr _, _ => rfl
  | .nsl, _ => rfl
  | .fb _ _ _, _ => rfl
  | .fn g caps, h => by
    simp only [AV.mapI]
    congr 1
    conv => rhs; rw [← List.map_id caps]
    exact List.map_congr_left fun c hc => by rw [h c.1 (by simp only [AV.ids]; exact List.mem_map_of_mem hc)]; rfl
  | .mp id, h => by simp only [AV.mapI]; rw [h id (by simp [AV.ids])]
  | .t2 x y, h => by simp only [AV.mapI]; rw [mapI_id x (fun i hi => h i (by simp [AV.ids, hi])), mapI_id y (fun i hi => h i (by simp [AV.ids, hi]))]
  | .t3 x y z, h => by simp only [AV.mapI]; rw [mapI_id x (fun i hi => h i (by simp [AV.ids, hi])), mapI_id y (fun i hi => h i (by simp [AV.ids, hi])), mapI_id z (fun i hi => h i (by simp [AV.ids, hi]))]
  | .t4 x y z u, h => by simp only [AV.mapI]; rw [mapI_id x (fun i hi => h i (by simp [AV.ids, hi])), mapI_id y (fun i hi => h i (by simp [AV.ids, hi])), mapI_id z (fun i hi => h i (by simp [AV.ids, hi])), mapI_id u (fun i hi => h i (by simp [AV.ids, hi]))]
  | .v _, _ => rfl

theorem mapI_mapI (f g : Nat → Nat) : ∀ (x : AV), (x.mapI f).mapI g = x.mapI fun i => g (f i)
  | .any => rfl
  | .i _ _ => rfl
  | .b _ => rfl
  | .d _ => rfl
  | .s _ => rfl
  | .ag _ _ => rfl
  | .p _ _ _ => rfl
  | .pw _ _ => rfl
  | .np => rfl
  | .sl _ _ _ _ => rfl
  | .ow _ _ _ _ => rfl
  | .lp _ _ _ _ _ => rfl
  | .rp _ _ _ _ => rfl
  | .rg x => by simp only [AV.mapI, mapI_mapI f g x]
  | .fs _ _ => rfl
  | .fp _ _ _ _ => rfl
  | .fq _ _ => rfl
  | .fqs _ => rfl
  | .es => rfl
  | .un => rfl
  | .fz _ _ => rfl
  | .fstr _ => rfl
  | .nsl => rfl
  | .fb _ _ _ => rfl
  | .fn g' caps => by simp [AV.mapI]
  | .mp _ => rfl
  | .t2 x y => by simp only [AV.mapI, mapI_mapI f g x, mapI_mapI f g y]
  | .t3 x y z => by simp only [AV.mapI, mapI_mapI f g x, mapI_mapI f g y, mapI_mapI f g z]
  | .t4 x y z u => by simp only [AV.mapI, mapI_mapI f g x, mapI_mapI f g y, mapI_mapI f g z, mapI_mapI f g u]
  | .v _ => rfl

theorem brel_mapI {ρ : Rho} {f : Nat → Nat} {l : Loc} {h : Option Obj} {b : Blk} : BRel ρ l h (b.mapI f) ↔ BRel (ρ.ren f) l h b := by
  cases b with
  | dead => exact Iff.rfl
  | c σ xs => exact Iff.rfl
  | s ss => exact Iff.rfl
  | l σ rows => exact Iff.rfl
  | rf σ rows => exact Iff.rfl
  | m σ k es => exact Iff.rfl
  | r vs =>
    simp only [Blk.mapI, BRel, List.length_map, List.getElem?_map, Option.map_eq_some_iff, forall_exists_index, and_imp, forall_apply_eq_imp_iff₂, den_mapI]

/-- The values of arguments. -/
def Dens (ρ : Rho) : List AV → List Value → Prop
  | [], [] => True
  | x :: l, v :: r => Den ρ x v ∧ Dens ρ l r
  | _, _ => False

theorem dens_mapI (ρ : Rho) (f : Nat → Nat) : ∀ (l : List AV) (r : List Value), Dens ρ (l.map (AV.mapI f)) r ↔ Dens (ρ.ren f) l r
  | [], [] => Iff.rfl
  | [], _ :: _ => Iff.rfl
  | _ :: _, [] => Iff.rfl
  | x :: l, v :: r => by simp only [List.map_cons, Dens, den_mapI, dens_mapI ρ f l r]

theorem dens_congr {ρ ρ' : Rho} (hF : ρ.le ρ') : ∀ {l : List AV} {r : List Value}, (∀ x ∈ l, ∀ i ∈ x.ids, ρ' i = ρ i) → Dens ρ l r → Dens ρ' l r
  | [], [], _, _ => trivial
  | [], _ :: _, _, h => h
  | _ :: _, [], _, h => h
  | x :: _, _ :: _, he, h => ⟨h.1.congr hF (he x List.mem_cons_self), dens_congr hF (fun y hy => he y (List.mem_cons_of_mem _ hy)) h.2⟩

/-- What is told of a function: called so, in any such memory, it returns so. -/
def SpecOK (P : Program) (f : FuncId) (args : List AV) (M : List Blk) (r : AV) (M' : List Blk) : Prop :=
  ∀ (ρ : Rho) (vals : List Value) (w : World), Dens ρ args vals → MRel ρ M w → (∀ x ∈ args, ∀ i ∈ x.ids, i < M.length) →
    Calls P f vals.toArray w fun e w' => ∃ v ρ', e = .returned v ∧ Den ρ' r v ∧ After ρ M M' w w' ρ' ∧ ∀ i ∈ r.ids, i < M'.length

abbrev Fun := List AV → List Blk → Option (AV × List Blk × List Prop)

def Sound (P : Program) (f : FuncId) (S : Fun) : Prop := ∀ args M r M' vs, S args M = some (r, M', vs) → allP vs → SpecOK P f args M r M'

/-- The blocks that are reached. -/
def clo (M : List Blk) : Nat → List Nat → List Nat → List Nat
  | n + 1, i :: t, acc => if acc.contains i then clo M n t acc else clo M n (t ++ (match M[i]? with | some (.r vs) => (vs.map AV.ids).flatten | _ => [])) (acc ++ [i])
  | _, _, acc => acc

def back (τ : List Nat) (m : Nat) (i : Nat) : Nat := if i < τ.length then τ.getD i 0 else m + (i - τ.length)

/-- Memory behind a call. -/
def putBack (τ : List Nat) (m : Nat) (M0' : List Blk) : List Blk → Nat → List Blk
  | [], _ => []
  | b :: M, id => (if τ.contains id then (M0'.getD (τ.idxOf id) .dead).mapI (back τ m) else b) :: putBack τ m M0' M (id + 1)

theorem putBack_len (τ : List Nat) (m : Nat) (M0' : List Blk) : ∀ (M : List Blk) (k : Nat), (putBack τ m M0' M k).length = M.length
  | [], _ => rfl
  | b :: M, k => by simp only [putBack, List.length_cons, putBack_len τ m M0' M (k + 1)]

theorem putBack_get (τ : List Nat) (m : Nat) (M0' : List Blk) : ∀ (M : List Blk) (k id : Nat), (putBack τ m M0' M k)[id]? = (M[id]?).map fun b => if τ.contains (k + id) then (M0'.getD (τ.idxOf (k + id)) .dead).mapI (back τ m) else b
  | [], k, id => by simp [putBack]
  | b :: M, k, 0 => by simp [putBack]
  | b :: M, k, id + 1 => by
    simp only [putBack, List.getElem?_cons_succ, putBack_get τ m M0' M (k + 1) id]
    rw [show k + 1 + id = k + (id + 1) from by omega]

def nodupB : List Nat → Bool
  | [] => true
  | i :: l => !(l.contains i) && nodupB l

def cloOk (τ : List Nat) (M : List Blk) (args : List AV) : Bool :=
  nodupB τ && ((args.map AV.ids).flatten.all fun i => τ.contains i) && τ.all fun i => decide (i < M.length) && (match M[i]? with
    | some (.r vs) => (vs.map AV.ids).flatten.all fun i => τ.contains i
    | _ => true)

/-- A call: what comes back, and memory behind it. -/
def callAV (S : Fun) (M : List Blk) (args : List AV) : Option (AV × List Blk × List Prop) :=
  fNs (clo M 200 ((args.map AV.ids).flatten) []) fun τ => if cloOk τ M args = true then (match S (args.map (AV.mapI fun i => τ.idxOf i)) (τ.map fun id => (M.getD id .dead).mapI fun i => τ.idxOf i) with
    | some (r, M0', vs) => some (r.mapI (back τ M.length), putBack τ M.length M0' M 0 ++ (M0'.drop τ.length).map (Blk.mapI (back τ M.length)), vs)
    | .none => .none) else .none

theorem nodupB_inj : ∀ (τ : List Nat), nodupB τ = true → ∀ i j, i < τ.length → j < τ.length → τ.getD i 0 = τ.getD j 0 → i = j
  | [], _, i, j, hi, _, _ => by simp at hi
  | x :: l, h, i, j, hi, hj, e => by
    simp only [nodupB, Bool.and_eq_true, Bool.not_eq_true'] at h
    have hm : ∀ k, k < l.length → l.getD k 0 ≠ x := by
      intro k hk e'
      have : x ∈ l := by rw [← e', List.getD_eq_getElem?_getD, List.getElem?_eq_getElem hk]; exact List.getElem_mem hk
      have h1 := h.1
      rw [List.contains_iff_mem.2 this] at h1
      cases h1
    cases i with
    | zero =>
      cases j with
      | zero => rfl
      | succ j => exact absurd (by simpa using e.symm) (hm j (by simpa using hj))
    | succ i =>
      cases j with
      | zero => exact absurd (by simpa using e) (hm i (by simpa using hi))
      | succ j => rw [nodupB_inj l h.2 i j (by simpa using hi) (by simpa using hj) (by simpa using e)]

theorem idx_get {τ : List Nat} {i : Nat} (h : i ∈ τ) : τ.getD (τ.idxOf i) 0 = i ∧ τ.idxOf i < τ.length := by
  have hl := List.idxOf_lt_length_iff.2 h
  exact ⟨by rw [List.getD_eq_getElem?_getD, List.getElem?_eq_getElem hl]; simp, hl⟩

theorem blk_mapI_id {f : Nat → Nat} {b : Blk} (h : ∀ vs, b = .r vs → ∀ x ∈ vs, ∀ i ∈ x.ids, f i = i) : b.mapI f = b := by
  cases b with
  | r vs =>
    simp only [Blk.mapI]
    congr 1
    conv => rhs; rw [← List.map_id vs]
    exact List.map_congr_left fun x hx => by rw [mapI_id x (h vs rfl x hx)]; rfl
  | _ => rfl

theorem live_mapI (f : Nat → Nat) (b : Blk) : (b.mapI f).live = b.live := by cases b <;> rfl

/-- What a quiet or a writing call does, over the caller's own memory. -/
theorem call_spec {f : FuncId} {S : Fun} {M M' : List Blk} {args : List AV} {r : AV} {vs : List Prop} (hS : Sound P f S) (h : callAV S M args = some (r, M', vs)) (hvs : allP vs) : SpecOK P f args M r M' := by
  unfold callAV at h
  rw [fNs_eq] at h
  generalize clo M 200 ((args.map AV.ids).flatten) [] = τ at h
  split at h
  case isFalse => cases h
  rename_i hok
  split at h
  case h_2 => cases h
  rename_i r0 M0' vs0 hs
  simp only [Option.some.injEq, Prod.mk.injEq] at h
  obtain ⟨rfl, rfl, rfl⟩ := h
  intro ρ vals w hd hM hids
  unfold cloOk at hok
  simp only [Bool.and_eq_true, List.all_eq_true, List.contains_iff_mem, List.mem_flatten, List.mem_map, decide_eq_true_eq, forall_exists_index, and_imp, forall_apply_eq_imp_iff₂] at hok
  obtain ⟨⟨hnd, hargs⟩, hcl⟩ := hok
  have hinj := nodupB_inj τ hnd
  generalize hg : (fun i => τ.idxOf i) = g at hs
  have hgi : ∀ i, i ∈ τ → τ.getD (g i) 0 = i ∧ g i < τ.length := fun i hi => by rw [← hg]; exact idx_get hi
  -- the callee's places
  have hbk : ∀ i, i ∈ τ → back τ M.length (g i) = i := fun i hi => by unfold back; rw [if_pos (hgi i hi).2]; exact (hgi i hi).1
  have hρ : ∀ i, i < τ.length → (ρ.ren (back τ M.length)) i = ρ (τ.getD i 0) := fun i hi => by simp only [Rho.ren, back]; rw [if_pos hi]
  have hmem : ∀ k, k < τ.length → τ.getD k 0 ∈ τ := fun k hk => by rw [List.getD_eq_getElem?_getD, List.getElem?_eq_getElem hk]; exact List.getElem_mem hk
  have hrefs : ∀ i ∈ τ, ∀ vs, M[i]? = some (.r vs) → ∀ x ∈ vs, ∀ j ∈ x.ids, j ∈ τ := by
    intro i hi vs hv x hx j hj
    have := (hcl i hi).2
    rw [hv] at this
    simp only [List.all_eq_true, List.contains_iff_mem, List.mem_flatten, List.mem_map, forall_exists_index, and_imp, forall_apply_eq_imp_iff₂] at this
    exact this j x hx hj
  have hM0 : ∀ k b, (τ.map fun id => (M.getD id .dead).mapI g)[k]? = some b → ∃ c, M[τ.getD k 0]? = some c ∧ b = c.mapI g ∧ k < τ.length := by
    intro k b hb
    rw [List.getElem?_map] at hb
    cases hk : τ[k]? with
    | none => rw [hk] at hb; cases hb
    | some id =>
      rw [hk] at hb
      simp only [Option.map_some, Option.some.injEq] at hb
      have hkl := (List.getElem?_eq_some_iff.1 hk).1
      have e : τ.getD k 0 = id := by rw [List.getD_eq_getElem?_getD, hk]; rfl
      rw [e]
      have hid : id < M.length := (hcl id (e ▸ hmem k hkl)).1
      refine ⟨M[id], List.getElem?_eq_getElem hid, ?_, hkl⟩
      rw [← hb, List.getD_eq_getElem?_getD, List.getElem?_eq_getElem hid]; rfl
  have hMR : MRel (ρ.ren (back τ M.length)) (τ.map fun id => (M.getD id .dead).mapI g) w := by
    refine ⟨?_, ?_, ?_, ?_⟩
    · intro k b hb
      obtain ⟨c, hc, rfl, hk⟩ := hM0 k b hb
      rw [← brel_mapI (f := back τ M.length)]
      have e2 : (c.mapI g).mapI (back τ M.length) = c := by
        cases c with
        | r vs =>
          simp only [Blk.mapI, List.map_map]
          congr 1
          conv => rhs; rw [← List.map_id vs]
          refine List.map_congr_left fun x hx => ?_
          simp only [Function.comp, mapI_mapI]
          exact mapI_id x (fun i hi => hbk i (hrefs _ (hmem k hk) vs hc x hx i hi))
        | _ => rfl
      have e3 : back τ M.length k = τ.getD k 0 := by unfold back; rw [if_pos hk]
      rw [e2]
      show BRel ρ (ρ (back τ M.length k)) w.heap[(ρ (back τ M.length k)).blk]? c
      rw [e3]
      exact hM.blk _ c hc
    · intro i j hi hj he
      obtain ⟨bi, hbi, hli⟩ := hi
      obtain ⟨bj, hbj, hlj⟩ := hj
      obtain ⟨ci, hci, rfl, hi'⟩ := hM0 i bi hbi
      obtain ⟨cj, hcj, rfl, hj'⟩ := hM0 j bj hbj
      simp only [Rho.ren, back, if_pos hi', if_pos hj'] at he
      exact hinj i j hi' hj' (hM.inj _ _ ⟨ci, hci, by rw [← live_mapI g]; exact hli⟩ ⟨cj, hcj, by rw [← live_mapI g]; exact hlj⟩ he)
    · intro k vs hb x hx i hi
      obtain ⟨c, hc, he, hk⟩ := hM0 k _ hb
      cases c <;> simp only [Blk.mapI, Blk.r.injEq, reduceCtorEq] at he
      subst he
      rw [List.mem_map] at hx
      obtain ⟨y, hy, rfl⟩ := hx
      rw [ids_mapI, List.mem_map] at hi
      obtain ⟨j, hj, rfl⟩ := hi
      rw [List.length_map]
      exact (hgi j (hrefs _ (hmem k hk) _ hc y hy j hj)).2
    · intro k o hk
      obtain ⟨g1, g2⟩ := hM.env k o hk
      refine ⟨g1, fun i hi => ?_⟩
      obtain ⟨bi, hbi, hli⟩ := hi
      obtain ⟨ci, hci, rfl, hi'⟩ := hM0 i bi hbi
      simp only [Rho.ren, back, if_pos hi']
      exact g2 _ ⟨ci, hci, by rw [← live_mapI g]; exact hli⟩
  have hD0 : Dens (ρ.ren (back τ M.length)) (args.map (AV.mapI g)) vals := by
    rw [← dens_mapI ρ (back τ M.length), List.map_map]
    have : (args.map (AV.mapI (back τ M.length) ∘ AV.mapI g)) = args := by
      conv => rhs; rw [← List.map_id args]
      refine List.map_congr_left fun x hx => ?_
      simp only [Function.comp, mapI_mapI]
      exact mapI_id x (fun i hi => hbk i (hargs i x hx hi))
    rw [this]
    exact hd
  have hi0 : ∀ x ∈ args.map (AV.mapI g), ∀ i ∈ x.ids, i < (τ.map fun id => (M.getD id .dead).mapI g).length := by
    intro x hx i hi
    rw [List.mem_map] at hx
    obtain ⟨y, hy, rfl⟩ := hx
    rw [ids_mapI, List.mem_map] at hi
    obtain ⟨j, hj, rfl⟩ := hi
    rw [List.length_map]
    exact (hgi j (hargs j y hy hj)).2
  refine (hS _ _ _ _ _ hs hvs _ vals w hD0 hMR hi0).mono ?_
  rintro e w' ⟨v, ρ0, rfl, hv, hA, hri⟩
  have hlen0 : (τ.map fun id => (M.getD id .dead).mapI g).length = τ.length := List.length_map ..
  have hle : τ.length ≤ M0'.length := by have := hA.len; rw [hlen0] at this; exact this
  -- the caller's places
  let ρ' : Rho := ⟨fun id => if id < M.length then ρ id else ρ0 (τ.length + (id - M.length)), ρ0.F, ρ0.ok⟩
  have hle' : ρ.le ρ' := fun k o h => hA.fmono k o h
  have hle0 : ρ0.le ρ' := fun k o h => h
  have hρb : ∀ i, i < M0'.length → ρ' (back τ M.length i) = ρ0 i := by
    intro i hi
    by_cases hit : i < τ.length
    · have h1 : back τ M.length i = τ.getD i 0 := by unfold back; rw [if_pos hit]
      have h2 : τ.getD i 0 < M.length := (hcl _ (hmem i hit)).1
      rw [h1]
      show (if τ.getD i 0 < M.length then ρ (τ.getD i 0) else _) = _
      rw [if_pos h2]
      have := hA.ext i (by rw [hlen0]; exact hit)
      rw [this]
      show _ = ρ (back τ M.length i)
      rw [h1]
    · have h1 : back τ M.length i = M.length + (i - τ.length) := by unfold back; rw [if_neg hit]
      rw [h1]
      show (if M.length + (i - τ.length) < M.length then _ else ρ0 (τ.length + (M.length + (i - τ.length) - M.length))) = _
      rw [if_neg (by omega), show τ.length + (M.length + (i - τ.length) - M.length) = i from by omega]
  have hplen : (putBack τ M.length M0' M 0).length = M.length := putBack_len ..
  have hbacklt : ∀ i, i < M0'.length → back τ M.length i < M.length + (M0'.length - τ.length) := by
    intro i hi
    by_cases hit : i < τ.length
    · have h1 : back τ M.length i = τ.getD i 0 := by unfold back; rw [if_pos hit]
      have h2 : τ.getD i 0 < M.length := (hcl _ (hmem i hit)).1
      omega
    · have h1 : back τ M.length i = M.length + (i - τ.length) := by unfold back; rw [if_neg hit]
      omega
  -- what stands at an id
  have hget : ∀ id b, (putBack τ M.length M0' M 0 ++ (M0'.drop τ.length).map (Blk.mapI (back τ M.length)))[id]? = some b →
      (id < M.length ∧ id ∉ τ ∧ M[id]? = some b) ∨ (∃ k c, k < M0'.length ∧ id = back τ M.length k ∧ M0'[k]? = some c ∧ b = c.mapI (back τ M.length)) := by
    intro id b hb
    by_cases hid : id < M.length
    · rw [List.getElem?_append_left (by omega), putBack_get, Nat.zero_add] at hb
      rw [List.getElem?_eq_getElem hid] at hb
      simp only [Option.map_some, Option.some.injEq] at hb
      split at hb
      · rename_i hc
        have hc' := List.contains_iff_mem.1 hc
        obtain ⟨h1, h2⟩ := idx_get hc'
        have hkl : τ.idxOf id < M0'.length := by omega
        refine .inr ⟨τ.idxOf id, M0'[τ.idxOf id], hkl, ?_, List.getElem?_eq_getElem hkl, ?_⟩
        · unfold back; rw [if_pos h2, h1]
        · rw [← hb, List.getD_eq_getElem?_getD, List.getElem?_eq_getElem hkl]; rfl
      · rename_i hc
        exact .inl ⟨hid, fun hm => hc (List.contains_iff_mem.2 hm), by rw [← hb]; exact List.getElem?_eq_getElem hid⟩
    · rw [List.getElem?_append_right (by omega), hplen, List.getElem?_map, List.getElem?_drop] at hb
      cases hc : M0'[τ.length + (id - M.length)]? with
      | none => rw [hc] at hb; cases hb
      | some c =>
        rw [hc] at hb
        simp only [Option.map_some, Option.some.injEq] at hb
        have hkl := (List.getElem?_eq_some_iff.1 hc).1
        exact .inr ⟨_, c, hkl, by unfold back; rw [if_neg (by omega)]; omega, hc, hb.symm⟩
  have hlive : ∀ id, liveAt (putBack τ M.length M0' M 0 ++ (M0'.drop τ.length).map (Blk.mapI (back τ M.length))) id →
      (id < M.length ∧ id ∉ τ ∧ liveAt M id) ∨ (∃ k, liveAt M0' k ∧ id = back τ M.length k) := by
    rintro id ⟨b, hb, hl⟩
    rcases hget id b hb with ⟨h1, h2, h3⟩ | ⟨k, c, hk, he, hc, rfl⟩
    · exact .inl ⟨h1, h2, b, h3, hl⟩
    · exact .inr ⟨k, ⟨c, hc, by rw [← live_mapI (back τ M.length)]; exact hl⟩, he⟩
  -- a block of ours that the callee doesn't reach
  have hother : ∀ id, id < M.length → id ∉ τ → liveAt M id → ∀ k, liveAt (τ.map fun id => (M.getD id .dead).mapI g) k → (ρ (back τ M.length k)).blk ≠ (ρ id).blk := by
    intro id hid hnt hl k hk he
    obtain ⟨bk, hbk', hlk⟩ := hk
    obtain ⟨c, hc, rfl, hkl⟩ := hM0 k bk hbk'
    have e3 : back τ M.length k = τ.getD k 0 := by unfold back; rw [if_pos hkl]
    rw [e3] at he
    have := hM.inj _ _ ⟨c, hc, by rw [← live_mapI g]; exact hlk⟩ hl he
    exact hnt (this ▸ hmem k hkl)
  have hnew : ∀ k, liveAt M0' k → (ρ0 k).blk ≥ w.heap.size ∨ ∃ i, i ∈ τ ∧ liveAt M i ∧ (ρ0 k).blk = (ρ i).blk := by
    intro k hk
    have key : ∀ i, i < τ.length → liveAt (τ.map fun id => (M.getD id .dead).mapI g) i → ∃ j, j ∈ τ ∧ liveAt M j ∧ (ρ (back τ M.length i)).blk = (ρ j).blk := by
      intro i hi hl
      obtain ⟨bi, hbi, hli⟩ := hl
      obtain ⟨c, hc, rfl, -⟩ := hM0 i bi hbi
      have e3 : back τ M.length i = τ.getD i 0 := by unfold back; rw [if_pos hi]
      exact ⟨τ.getD i 0, hmem i hi, ⟨c, hc, by rw [← live_mapI g]; exact hli⟩, by rw [e3]⟩
    by_cases hkt : k < τ.length
    · have h1 := hA.ext k (by rw [hlen0]; exact hkt)
      rw [h1]
      show _ ∨ ∃ i, i ∈ τ ∧ liveAt M i ∧ (ρ (back τ M.length k)).blk = (ρ i).blk
      exact .inr (key k hkt (hA.dead k (by rw [hlen0]; exact hkt) hk))
    · rcases hA.fresh k (by rw [hlen0]; omega) hk with h1 | ⟨i, hi, hl, he⟩
      · exact .inl h1
      · rw [hlen0] at hi
        rw [he]
        show _ ∨ ∃ j, j ∈ τ ∧ liveAt M j ∧ (ρ (back τ M.length i)).blk = (ρ j).blk
        exact .inr (key i hi hl)
  refine ⟨v, ρ', rfl, ?_, ⟨?_, ⟨?_, ?_, ?_, ?_⟩, ?_, ?_, ?_, ?_, hA.os, hA.tape, hA.output, hA.size, hle', ?_⟩, ?_⟩
  · rw [den_mapI]
    exact hv.congr (ρ' := ρ'.ren (back τ M.length)) hle0 (fun i hi => hρb i (hri i hi))
  · intro id hid
    show (if id < M.length then ρ id else _) = _
    rw [if_pos hid]
  · intro id b hb
    rcases hget id b hb with ⟨h1, h2, h3⟩ | ⟨k, c, hk, rfl, hc, rfl⟩
    · have e1 : ρ' id = ρ id := by show (if id < M.length then ρ id else _) = _; rw [if_pos h1]
      rw [e1]
      by_cases hl : b.live = true
      · rw [hA.frame _ (hM.blk_lt ⟨b, h3, hl⟩) (fun k hk => hother id h1 h2 ⟨b, h3, hl⟩ k hk)]
        refine (hM.blk id b h3).congr hle' ?_
        rintro vs rfl x hx i hi
        show (if i < M.length then ρ i else _) = _
        rw [if_pos (hM.cl id vs h3 x hx i hi)]
      · cases b <;> first | trivial | (exact absurd rfl hl)
    · rw [hρb k hk, brel_mapI]
      refine (hA.rel.blk k c hc).congr (ρ' := ρ'.ren (back τ M.length)) hle0 ?_
      rintro vs rfl x hx i hi
      exact hρb i (hA.rel.cl k vs hc x hx i hi)
  · intro i j hi hj he
    rcases hlive i hi with ⟨i1, i2, i3⟩ | ⟨ki, hki, rfl⟩
    · have ei : ρ' i = ρ i := by show (if i < M.length then ρ i else _) = _; rw [if_pos i1]
      rcases hlive j hj with ⟨j1, j2, j3⟩ | ⟨kj, hkj, rfl⟩
      · have ej : ρ' j = ρ j := by show (if j < M.length then ρ j else _) = _; rw [if_pos j1]
        rw [ei, ej] at he
        exact hM.inj i j i3 j3 he
      · rw [ei, hρb kj hkj.lt] at he
        have hlt := hM.blk_lt i3
        rcases hnew kj hkj with h1 | ⟨m, hm, hml, hme⟩
        · omega
        · exact absurd (hM.inj i m i3 hml (by rw [he, hme])) (fun e => i2 (e ▸ hm))
    · rcases hlive j hj with ⟨j1, j2, j3⟩ | ⟨kj, hkj, rfl⟩
      · have ej : ρ' j = ρ j := by show (if j < M.length then ρ j else _) = _; rw [if_pos j1]
        rw [hρb ki hki.lt, ej] at he
        have hlt := hM.blk_lt j3
        rcases hnew ki hki with h1 | ⟨m, hm, hml, hme⟩
        · omega
        · exact absurd (hM.inj m j hml j3 (by rw [← he, hme])) (fun e => j2 (e ▸ hm))
      · rw [hρb ki hki.lt, hρb kj hkj.lt] at he
        rw [hA.rel.inj ki kj hki hkj he]
  · intro id vs hb x hx i hi
    simp only [List.length_append, hplen, List.length_map, List.length_drop]
    rcases hget id _ hb with ⟨h1, h2, h3⟩ | ⟨k, c, hk, rfl, hc, he⟩
    · have := hM.cl id vs h3 x hx i hi; omega
    · cases c <;> simp only [Blk.mapI, Blk.r.injEq, reduceCtorEq] at he
      subst he
      rw [List.mem_map] at hx
      obtain ⟨y, hy, rfl⟩ := hx
      rw [ids_mapI, List.mem_map] at hi
      obtain ⟨j, hj, rfl⟩ := hi
      exact hbacklt j (hA.rel.cl k _ hc y hy j hj)
  · intro k o hk
    obtain ⟨g1, g2⟩ := hA.rel.env k o hk
    refine ⟨g1, fun i hi he => ?_⟩
    rcases hlive i hi with ⟨i1, i2, i3⟩ | ⟨ki, hki, rfl⟩
    · have ei : ρ' i = ρ i := by show (if i < M.length then ρ i else _) = _; rw [if_pos i1]
      rw [ei] at he
      have hlt := hM.blk_lt i3
      rcases hA.fnew k o hk with h1 | h1 | ⟨j, hj, hje⟩
      · exact (hM.env k o h1).2 i i3 he
      · omega
      · exact hother i i1 i2 i3 j hj (by rw [he]; exact hje)
    · rw [hρb ki hki.lt] at he
      exact g2 ki hki he
  · simp only [List.length_append, hplen]; omega
  · intro id hid hl
    rcases hlive id hl with ⟨-, -, h⟩ | ⟨k, hk, rfl⟩
    · exact h
    · have hkt : k < τ.length := by
        rcases Nat.lt_or_ge k τ.length with h | h
        · exact h
        · unfold back at hid; rw [if_neg (by omega)] at hid; omega
      have hd0 := hA.dead k (by rw [hlen0]; exact hkt) hk
      obtain ⟨bk, hbk', hlk⟩ := hd0
      obtain ⟨c, hc, rfl, -⟩ := hM0 k bk hbk'
      have e3 : back τ M.length k = τ.getD k 0 := by unfold back; rw [if_pos hkt]
      rw [e3]
      exact ⟨c, hc, by rw [← live_mapI g]; exact hlk⟩
  · intro id hid hl
    rcases hlive id hl with ⟨h1, -, -⟩ | ⟨k, hk, rfl⟩
    · omega
    · rw [hρb k hk.lt]
      rcases hnew k hk with h1 | ⟨m, hm, hml, hme⟩
      · exact .inl h1
      · exact .inr ⟨m, hml.lt, hml, hme⟩
  · intro b hb hn
    refine hA.frame b hb (fun k hk he => ?_)
    obtain ⟨bk, hbk', hlk⟩ := hk
    obtain ⟨c, hc, rfl, hkl⟩ := hM0 k bk hbk'
    have e3 : back τ M.length k = τ.getD k 0 := by unfold back; rw [if_pos hkl]
    change (ρ (back τ M.length k)).blk = b at he
    rw [e3] at he
    exact hn _ ⟨c, hc, by rw [← live_mapI g]; exact hlk⟩ he
  · intro k o hk
    rcases hA.fnew k o hk with h1 | h1 | ⟨j, hj, hje⟩
    · exact .inl h1
    · exact .inr (.inl h1)
    · obtain ⟨bk, hbk', hlk⟩ := hj
      obtain ⟨c, hc, rfl, hkl⟩ := hM0 j bk hbk'
      have e3 : back τ M.length j = τ.getD j 0 := by unfold back; rw [if_pos hkl]
      refine .inr (.inr ⟨τ.getD j 0, ⟨c, hc, by rw [← live_mapI g]; exact hlk⟩, ?_⟩)
      rw [← e3]; exact hje
  · intro i hi
    rw [ids_mapI, List.mem_map] at hi
    obtain ⟨j, hj, rfl⟩ := hi
    simp only [List.length_append, hplen, List.length_map, List.length_drop]
    exact hbacklt j (hri j hj)

end Go.Eng

/- The engine, part 8b: new blocks; what is built. No conditions. -/
namespace Go.Eng
open Go Go.RowKit
set_option linter.unusedSectionVars false
variable [Glob]
variable {P : Program} {Γ : Tab}

def boxBlk (σ : Sg) (x : AV) : Option Blk :=
  match σ.inf with
  | .cell k => match toCell k x with
    | some n => some (.c σ [n])
    | .none => .none
  | .str => match x with
    | .s s => some (.s [s])
    | _ => .none
  | .ref => if isRef x = true then some (.r [x]) else .none
  | .arr _ _ => match x with
    | .ag σ' ys => if σ' = σ then some (.c σ ys) else .none
    | _ => .none
  | .st _ => match x with
    | .ag σ' ys => if σ' = σ then some (.c σ ys) else .none
    | _ => .none

def zeroBlk (σ : Sg) : Blk :=
  match σ.inf with
  | .cell _ => .c σ [0]
  | .str => .s [ByteArray.empty]
  | .ref => .r [.any]
  | .arr _ _ => .c σ (List.replicate σ.n 0)
  | .st _ => .c σ (List.replicate σ.n 0)

theorem ptr_self {l : Loc} {σ : Sg} (h1 : l.size = σ.n) (h2 : l.σ = σ) : PtrOk l 0 σ := by
  refine ⟨by omega, ?_⟩
  split
  · rename_i hp
    refine ⟨by rw [h2]; exact hp, fun j hj => ?_⟩
    unfold Loc.kind
    rw [h2, Nat.zero_add, Nat.mod_eq_of_lt hj]
  · exact h2

theorem brel_c {ρ : Rho} {l : Loc} {σ : Sg} {ys : List Int} (hp : σ.pure = true) (hn : 0 < σ.n) (hl : ys.length = σ.n) (hok : cellsOk σ.flat ys) (h1 : l.size = σ.n) (h2 : l.room = σ.n) (h3 : l.σ = σ) :
    BRel ρ l (some (.cells (cellsV σ.flat ys).toArray l.ty (0, 0))) (.c σ ys) := by
  have hfl := Sg.flat_len σ hp
  refine ⟨_, rfl, by rw [List.size_toArray, cellsV_len _ _ (by omega)]; omega, h3, hp, hn, by omega, by omega, fun j x hx => ?_⟩
  have hj : j < ys.length := (List.getElem?_eq_some_iff.1 hx).1
  have hk : σ.flat[j]? = some (l.kind j) := by
    unfold Loc.kind
    rw [h3, Nat.mod_eq_of_lt (by omega), List.getD_eq_getElem?_getD, List.getElem?_eq_getElem (by omega)]; rfl
  exact ⟨by rw [List.getElem?_toArray]; exact cellsV_get _ _ _ _ _ hx hk, cellsOk_get _ _ _ _ _ hok hx hk⟩

theorem sg_pos {σ : Sg} (h : σ ≠ .none) : 0 < σ.n := by cases σ <;> first | (exact absurd rfl h) | decide

theorem boxBlk_rel {ρ : Rho} {σ : Sg} {x : AV} {v : Value} {b : Blk} {l : Loc} (hn : σ ≠ .none) (h : boxBlk σ x = some b) (hd : Den ρ x v) (h1 : l.size = σ.n) (h2 : l.room = σ.n) (h3 : l.σ = σ) :
    BRel ρ l (some (.cells v.cells l.ty (0, 0))) b ∧ (∀ vs, b = .r vs → ∀ y ∈ vs, y = x) := by
  have hpos := sg_pos hn
  have agg : ∀ ys, x = .ag σ ys → b = .c σ ys → BRel ρ l (some (.cells v.cells l.ty (0, 0))) b ∧ (∀ vs, b = .r vs → ∀ y ∈ vs, y = x) := by
    rintro ys rfl rfl
    obtain ⟨rfl, hl, hok, hp⟩ := hd
    exact ⟨brel_c hp hpos hl hok h1 h2 h3, fun vs e => by cases e⟩
  unfold boxBlk at h
  split at h
  · rename_i k hi
    split at h
    · rename_i n hc
      cases h
      obtain ⟨rfl, hok⟩ := toCell_den hc hd
      obtain ⟨f1, f2, f3⟩ := Sg.cell_flat σ k hi
      have e : (k.val n).cells = (cellsV σ.flat [n]).toArray := by rw [f1]; cases k <;> rfl
      rw [e]
      exact ⟨brel_c f3 hpos (by simp [f2]) (by rw [f1]; exact ⟨hok, trivial⟩) h1 h2 h3, fun vs e => by cases e⟩
    · cases h
  · rename_i hi
    have hσ : σ = .str := by cases σ <;> first | rfl | cases hi
    subst hσ
    split at h
    · cases h
      obtain ⟨rfl, hs⟩ := hd
      refine ⟨⟨_, rfl, by rw [h2]; rfl, h3, by rw [h1]; rfl, by omega, fun j y hy => ?_⟩, fun vs e => by cases e⟩
      cases j with
      | zero => simp at hy; subst hy; exact ⟨rfl, hs⟩
      | succ j => simp at hy
    · cases h
  · rename_i hi
    have hσ : σ = .ref := by cases σ <;> first | rfl | cases hi
    subst hσ
    split at h
    · rename_i hr
      cases h
      obtain ⟨o1, o2⟩ := isRef_one hr hd
      have ecell : v.cells = #[v] := by cases v <;> first | rfl | (cases o1)
      refine ⟨⟨_, rfl, by rw [h2, ecell]; rfl, h3, by rw [h1]; rfl, by omega, fun j y hy => ?_⟩, fun vs e y hy => by cases e; simpa using hy⟩
      cases j with
      | zero => simp at hy; subst hy; exact ⟨v, by rw [ecell]; rfl, hd, o1⟩
      | succ j => simp at hy
    · cases h
  · split at h
    · split at h
      · rename_i es; subst es; cases h; exact agg _ rfl rfl
      · cases h
    · cases h
  · split at h
    · split at h
      · rename_i es; subst es; cases h; exact agg _ rfl rfl
      · cases h
    · cases h

theorem zero_cells {σ : Sg} {z : Value} (hp : σ.pure = true) (hz : zeroOk σ z = true) : z.cells = (cellsV σ.flat (List.replicate σ.n 0)).toArray := by
  have hfl := Sg.flat_len σ hp
  unfold zeroOk at hz
  split at hz
  · rename_i cs
    simp only [Bool.and_eq_true, beq_iff_eq, List.all_eq_true, List.mem_range] at hz
    obtain ⟨⟨-, hs⟩, hall⟩ := hz
    show cs = _
    apply Array.ext_getElem?
    intro j
    rw [show (cellsV σ.flat (List.replicate σ.n 0)).toArray[j]? = (cellsV σ.flat (List.replicate σ.n 0))[j]? from List.getElem?_toArray, cellsV_getE]
    by_cases hj : j < σ.n
    · have h0 := hall j hj
      rw [List.getElem?_replicate, if_pos hj]
      split at h0
      · rename_i k k' n h1 h2
        simp only [Bool.and_eq_true, beq_iff_eq] at h0
        obtain ⟨rfl, rfl⟩ := h0
        rw [h1, h2]; rfl
      · rename_i b h1 h2
        rw [h1, h2]
        cases b
        · rfl
        · cases h0
      · cases h0
    · rw [List.getElem?_eq_none (l := σ.flat) (by omega), Array.getElem?_eq_none (by omega)]; rfl
  · simp only [Bool.and_eq_true, beq_iff_eq] at hz
    obtain ⟨h1, rfl⟩ := hz
    split at h1
    · rename_i hi
      obtain ⟨f1, f2, -⟩ := Sg.cell_flat σ _ hi
      simp only [beq_iff_eq] at h1
      subst h1
      rw [f1, f2]; rfl
    · cases h1
  · simp only [Bool.and_eq_true] at hz
    obtain ⟨h1, h2⟩ := hz
    split at h1
    · rename_i hi
      obtain ⟨f1, f2, -⟩ := Sg.cell_flat σ _ hi
      rw [f1, f2]
      rename_i b _
      cases b
      · rfl
      · cases h2
    · cases h1
  · split at hz
    · cases hp
    · simp at hz
  all_goals first | (simp only [beq_iff_eq] at hz; subst hz; cases hp) | cases hz

theorem zeros_ok : ∀ (ks : List CK) (n : Nat), cellsOk ks (List.replicate n 0)
  | [], _ => by cases ‹Nat› <;> trivial
  | _ :: _, 0 => trivial
  | k :: ks, n + 1 => by
    refine ⟨?_, zeros_ok ks n⟩
    cases k with
    | int k => cases k <;> exact ⟨by decide, by decide⟩
    | bool => exact .inl rfl

theorem zeroBlk_rel {ρ : Rho} {σ : Sg} {z : Value} {l : Loc} (hn : σ ≠ .none) (hz : zeroOk σ z = true) (h1 : l.size = σ.n) (h2 : l.room = σ.n) (h3 : l.σ = σ) :
    BRel ρ l (some (.cells z.cells l.ty (0, 0))) (zeroBlk σ) ∧ (∀ vs, zeroBlk σ = .r vs → ∀ y ∈ vs, y = .any) := by
  have hpos := sg_pos hn
  have agg : σ.pure = true → BRel ρ l (some (.cells z.cells l.ty (0, 0))) (.c σ (List.replicate σ.n 0)) := fun hp => by
    rw [zero_cells hp hz]
    exact brel_c hp hpos (by simp) (zeros_ok _ _) h1 h2 h3
  unfold zeroBlk
  cases hi : σ.inf with
  | cell k =>
    obtain ⟨f1, f2, f3⟩ := Sg.cell_flat σ k hi
    have := agg f3
    rw [f2] at this
    exact ⟨this, fun vs e => by cases e⟩
  | arr n e => exact ⟨agg (by cases σ <;> first | rfl | cases hi), fun vs e => by cases e⟩
  | st fs => exact ⟨agg (by cases σ <;> first | rfl | cases hi), fun vs e => by cases e⟩
  | str =>
    have hσ : σ = .str := by cases σ <;> first | rfl | cases hi
    subst hσ
    unfold zeroOk at hz
    split at hz <;> simp only [Bool.and_eq_true, beq_iff_eq, Sg.pure, reduceCtorEq, Bool.false_eq_true, false_and] at hz
    · split at hz <;> simp_all [Sg.inf]
    · split at hz <;> simp_all [Sg.inf]
    · rename_i s
      have hs : s = ByteArray.empty := by
        obtain ⟨⟨l⟩⟩ := s
        have : l.length = 0 := hz.2
        rw [List.length_eq_zero_iff] at this
        subst this; rfl
      subst hs
      refine ⟨⟨_, rfl, by rw [h2]; rfl, h3, by rw [h1]; rfl, by omega, fun j y hy => ?_⟩, fun vs e => by cases e⟩
      cases j with
      | zero => simp at hy; subst hy; exact ⟨rfl, by simp⟩
      | succ j => simp at hy
  | ref =>
    have hσ : σ = .ref := by cases σ <;> first | rfl | cases hi
    subst hσ
    have key : z.cells = #[z] ∧ z.oneCell' = true := by
      unfold zeroOk at hz
      split at hz <;> simp only [Bool.and_eq_true, beq_iff_eq, Sg.pure, Bool.false_eq_true, false_and] at hz <;> first
        | (split at hz <;> simp_all [Sg.inf]; done)
        | exact ⟨rfl, rfl⟩
        | (simp at hz; done)
    refine ⟨⟨_, rfl, by rw [h2, key.1]; rfl, h3, by rw [h1]; rfl, by omega, fun j y hy => ?_⟩, fun vs e y hy => by cases e; simpa using hy⟩
    cases j with
    | zero => simp at hy; subst hy; exact ⟨z, by rw [key.1]; rfl, trivial, key.2⟩
    | succ j => simp at hy

end Go.Eng

/- The engine, part 8c: what is built out of parts. No conditions. -/
namespace Go.Eng
open Go Go.RowKit
set_option linter.unusedSectionVars false
variable [Glob]
variable {P : Program} {Γ : Tab}

theorem foldl_set {off : Nat} : ∀ (l : List Value) (k : Nat) (cs : Array Value) (i : Nat),
    ((l.zipIdx k).foldl (fun cs p => cs.setIfInBounds (off + p.2) p.1) cs)[i]? = if off + k ≤ i ∧ i < off + k + l.length ∧ i < cs.size then l[i - (off + k)]? else cs[i]?
  | [], k, cs, i => by simp; omega
  | v :: l, k, cs, i => by
    simp only [List.zipIdx_cons, List.foldl_cons]
    rw [foldl_set l (k + 1)]
    simp only [Array.size_setIfInBounds, List.length_cons]
    by_cases h1 : off + (k + 1) ≤ i ∧ i < off + (k + 1) + l.length ∧ i < cs.size
    · rw [if_pos h1, if_pos ⟨by omega, by omega, h1.2.2⟩, show i - (off + k) = (i - (off + (k + 1))) + 1 from by omega]
      simp
    · rw [if_neg h1]
      rw [Array.getElem?_setIfInBounds]
      by_cases h2 : off + k = i
      · subst h2
        by_cases h3 : off + k < cs.size
        · rw [if_pos rfl, if_pos h3, if_pos ⟨Nat.le_refl _, by omega, h3⟩]
          simp
        · rw [if_pos rfl, if_neg h3, if_neg (fun h => h3 h.2.2), Array.getElem?_eq_none (by omega)]
      · rw [if_neg h2]
        by_cases h3 : off + k ≤ i ∧ i < off + k + (l.length + 1) ∧ i < cs.size
        · exact absurd ⟨by omega, by omega, h3.2.2⟩ h1
        · rw [if_neg h3]

theorem foldl_seg {off : Nat} {vs : List Value} {cs : List Value} (h : off + vs.length ≤ cs.length) :
    vs.toArray.zipIdx.foldl (fun cs (x : Value × Nat) => cs.setIfInBounds (off + x.2) x.1) cs.toArray = (cs.take off ++ vs ++ cs.drop (off + vs.length)).toArray := by
  apply Array.ext_getElem?
  intro i
  rw [← Array.foldl_toList, Array.toList_zipIdx, foldl_set, List.getElem?_toArray, List.getElem?_toArray, seg_get _ _ _ _ h]
  simp only [Nat.add_zero, List.size_toArray]
  by_cases h1 : off ≤ i ∧ i < off + vs.length
  · rw [if_pos ⟨h1.1, h1.2, by omega⟩, if_pos h1]
  · rw [if_neg (fun h => h1 ⟨h.1, h.2.1⟩), if_neg h1]

theorem cellsV_ext {ks : List CK} {xs : List Int} {cs : List Value} (h1 : xs.length = ks.length) (h2 : cs.length = ks.length) (h : ∀ (j : Nat) (x : Int) (k : CK), xs[j]? = some x → ks[j]? = some k → cs[j]? = some (k.val x)) : cs = cellsV ks xs := by
  apply List.ext_getElem?
  intro j
  by_cases hj : j < ks.length
  · have a := List.getElem?_eq_getElem (l := xs) (i := j) (by omega)
    have b := List.getElem?_eq_getElem (l := ks) (i := j) hj
    rw [h j _ _ a b, cellsV_get ks xs j _ _ a b]
  · rw [List.getElem?_eq_none (by omega), List.getElem?_eq_none (by rw [cellsV_len ks xs h1.symm]; omega)]

theorem cellsOk_ext : ∀ {ks : List CK} {xs : List Int}, (∀ (j : Nat) (x : Int) (k : CK), xs[j]? = some x → ks[j]? = some k → k.ok x) → cellsOk ks xs
  | [], _, _ => trivial
  | _ :: _, [], _ => trivial
  | k :: ks, x :: xs, h => ⟨h 0 x k rfl rfl, cellsOk_ext fun j y k' h1 h2 => h (j + 1) y k' (by simpa using h1) (by simpa using h2)⟩

/-- One part is laid. -/
theorem seg_cells {ks ls : List CK} {xs ys : List Int} {o n : Nat} (hx : xs.length = ks.length) (hy : ys.length = n) (hl : ls.length = n) (ho : o + n ≤ ks.length) (hk : ∀ j, j < n → ks[o + j]? = ls[j]?)
    (hok : cellsOk ks xs) (hoy : cellsOk ls ys) :
    ((cellsV ls ys).toArray.zipIdx.foldl (fun cs (x : Value × Nat) => cs.setIfInBounds (o + x.2) x.1) (cellsV ks xs).toArray = (cellsV ks (putSeg xs o n ys)).toArray) ∧ (putSeg xs o n ys).length = ks.length ∧ cellsOk ks (putSeg xs o n ys) := by
  have hlx := cellsV_len ks xs hx.symm
  have hly := cellsV_len ls ys (by omega)
  have hpl : (putSeg xs o n ys).length = ks.length := by
    unfold putSeg; simp only [List.length_append, List.length_take, List.length_drop]; omega
  have hget : ∀ j, (putSeg xs o n ys)[j]? = if o ≤ j ∧ j < o + n then ys[j - o]? else xs[j]? := by
    intro j
    have := seg_get xs ys o j (by omega)
    rw [hy] at this
    exact this
  have both : ∀ (j : Nat) (x : Int) (k : CK), (putSeg xs o n ys)[j]? = some x → ks[j]? = some k →
      ((cellsV ks xs).take o ++ cellsV ls ys ++ (cellsV ks xs).drop (o + (cellsV ls ys).length))[j]? = some (k.val x) ∧ k.ok x := by
    intro j x k h1 h2
    rw [seg_get _ _ _ _ (by omega), hly, hy]
    rw [hget] at h1
    split at h1
    · rename_i hj
      rw [if_pos hj]
      have h3 : ls[j - o]? = some k := by rw [← hk (j - o) (by omega), show o + (j - o) = j from by omega]; exact h2
      exact ⟨cellsV_get _ _ _ _ _ h1 h3, cellsOk_get _ _ _ _ _ hoy h1 h3⟩
    · rename_i hj
      rw [if_neg hj]
      exact ⟨cellsV_get _ _ _ _ _ h1 h2, cellsOk_get _ _ _ _ _ hok h1 h2⟩
  refine ⟨?_, hpl, cellsOk_ext fun j x k h1 h2 => (both j x k h1 h2).2⟩
  rw [foldl_seg (by omega)]
  congr 1
  refine cellsV_ext hpl ?_ fun j x k h1 h2 => (both j x k h1 h2).1
  simp only [List.length_append, List.length_take, List.length_drop]
  omega

theorem set_putSeg (xs : List Int) (o : Nat) (n : Int) (h : o < xs.length) : xs.set o n = putSeg xs o 1 [n] := by
  unfold putSeg
  rw [List.set_eq_take_append_cons_drop, if_pos h, List.append_assoc]
  rfl

theorem fldAt_mem' : ∀ {fs : List Sg} {i o : Nat} {τ : Sg}, fldAt fs i = some (o, τ) → τ ∈ fs
  | [], i, o, τ, h => by simp [fldAt] at h
  | σ :: l, 0, o, τ, h => by simp [fldAt] at h; simp [h.2]
  | σ :: l, i + 1, o, τ, h => by
    simp only [fldAt] at h
    split at h
    · rename_i o' τ' h'
      cases h
      exact List.mem_cons_of_mem _ (fldAt_mem' h')
    · cases h

theorem fldAt_some' : ∀ (fs : List Sg) (i : Nat), i < fs.length → ∃ o τ, fldAt fs i = some (o, τ)
  | [], i, h => by simp at h
  | σ :: l, 0, _ => ⟨0, σ, rfl⟩
  | σ :: l, i + 1, h => by
    obtain ⟨o, τ, h1⟩ := fldAt_some' l i (by simpa using h)
    exact ⟨σ.n + o, τ, by simp [fldAt, h1]⟩

theorem Sg.st_pos' (σ : Sg) (fs : List Sg) (h : σ.inf = .st fs) : ∀ τ ∈ fs, 0 < τ.n := by
  cases σ <;> simp only [Sg.inf, Inf.st.injEq, reduceCtorEq] at h <;> subst h <;> decide

theorem fill_sound {ρ : Rho} {ks : List CK} {pl : Nat → Option (Nat × Sg)} {place : Nat → Option (Nat × Nat)}
    (hpl : ∀ i o τ, pl i = some (o, τ) → place i = some (o, τ.n) ∧ o + τ.n ≤ ks.length ∧ τ.pure = true ∧ 0 < τ.n ∧ ∀ j, j < τ.n → ks[o + j]? = τ.flat[j]?) :
    ∀ (l : List (Nat × AV)) (vs : List (Nat × Value)) (xs xs' : List Int), l.length = vs.length → (∀ (j i : Nat) (r : AV), l[j]? = some (i, r) → ∃ v, vs[j]? = some (i, v) ∧ Den ρ r v) →
      xs.length = ks.length → cellsOk ks xs → fillAV pl xs l = some xs' →
      Instr.fill place (cellsV ks xs).toArray vs = some (cellsV ks xs').toArray ∧ xs'.length = ks.length ∧ cellsOk ks xs'
  | [], vs, xs, xs', hl, _, hx, hok, h => by
    cases h
    obtain rfl : vs = [] := by cases vs; rfl; simp at hl
    exact ⟨rfl, hx, hok⟩
  | (i, r) :: l, [], xs, xs', hl, _, _, _, _ => by simp at hl
  | (i, r) :: l, (i', v) :: vs, xs, xs', hl, hd, hx, hok, h => by
    obtain ⟨v', e, hv⟩ := hd 0 i r rfl
    simp only [List.getElem?_cons_zero, Option.some.injEq, Prod.mk.injEq] at e
    obtain ⟨rfl, rfl⟩ := e
    have rest : ∀ (xs2 : List Int) (o : Nat) (τ : Sg) (ys : List Int), pl i' = some (o, τ) → v.cells = (cellsV τ.flat ys).toArray → ys.length = τ.n → cellsOk τ.flat ys → xs2 = putSeg xs o τ.n ys → fillAV pl xs2 l = some xs' →
        Instr.fill place (cellsV ks xs).toArray ((i', v) :: vs) = some (cellsV ks xs').toArray ∧ xs'.length = ks.length ∧ cellsOk ks xs' := by
      intro xs2 o τ ys hpa hvc hyl hyo hxs h2
      obtain ⟨p1, p2, p3, p4, p5⟩ := hpl i' o τ hpa
      have hτ := Sg.flat_len τ p3
      obtain ⟨s1, s2, s3⟩ := seg_cells (ks := ks) (ls := τ.flat) (xs := xs) (ys := ys) (o := o) (n := τ.n) hx hyl hτ p2 p5 hok hyo
      have hcl := cellsV_len τ.flat ys (by omega)
      have hcl2 := cellsV_len ks xs hx.symm
      simp only [Instr.fill, p1, hvc, List.size_toArray, hcl, hcl2, hyl]
      rw [if_neg (by simp; omega)]
      rw [s1, ← hxs]
      exact fill_sound hpl l vs xs2 xs' (by simpa using hl) (fun j i r hj => by simpa using hd (j + 1) i r (by simpa using hj)) (by rw [hxs]; exact s2) (by rw [hxs]; exact s3) h2
    simp only [fillAV] at h
    split at h
    · rename_i o τ hpa
      obtain ⟨p1, p2, p3, p4, p5⟩ := hpl i' o τ hpa
      split at h
      · rename_i k hk
        obtain ⟨f1, f2, f3⟩ := Sg.cell_flat τ k hk
        split at h
        · rename_i n hn
          obtain ⟨rfl, hkn⟩ := toCell_den hn hv
          refine rest _ o τ [n] hpa ?_ (by rw [f2]; rfl) (by rw [f1]; exact ⟨hkn, trivial⟩) (by rw [f2]; exact set_putSeg xs o n (by omega)) h
          rw [f1]
          cases k <;> rfl
        · cases h
      · split at h
        · split at h
          · rename_i τ' ys e
            subst e
            obtain ⟨rfl, h3, h4, -⟩ := hv
            exact rest _ o τ' ys hpa rfl h3 h4 rfl h
          · cases h
        · cases h
    · cases h

theorem rep_len {α : Type} (l : List α) : ∀ n, (rep n l).length = n * l.length
  | 0 => by simp [rep]
  | n + 1 => by simp only [rep, List.length_append, rep_len l n, Nat.succ_mul]; omega

/-- A row of elements, built. -/
theorem run_buildSlice (H : TabOk P Γ) {ρ : Rho} {w : World} {t e : TypeId} {len : Nat} {l : List (Nat × AV)} {parts : Array (Nat × Value)} {xs : List Int} (hs : Γ.sl t = some e) (hp : (Γ.sg e).pure = true) (hn : Γ.sg e ≠ .none)
    (hb : len * (Γ.sg e).n ≤ 16777216) (hl : l.length = parts.size) (hd : ∀ (j i : Nat) (r : AV), l[j]? = some (i, r) → ∃ v, parts.toList[j]? = some (i, v) ∧ Den ρ r v)
    (h : fillAV (slotAt (Γ.sg e) len) (List.replicate (len * (Γ.sg e).n) 0) l = some xs) :
    (Instr.buildSlice t len parts).run P w = .ok (.slice (some ⟨w.heap.size, 0, none⟩) len len) { w with heap := w.heap.push (.cells (cellsV (rep len (Γ.sg e).flat) xs).toArray e) } ∧
      xs.length = len * (Γ.sg e).n ∧ cellsOk (rep len (Γ.sg e).flat) xs := by
  have hu := H.sl t e hs
  have hfl := Sg.flat_len _ hp
  have hrl := rep_len (Γ.sg e).flat len
  rw [hfl] at hrl
  have hpos : 0 < (Γ.sg e).n := by
    revert hn hp
    generalize Γ.sg e = σ
    cases σ <;> simp [Sg.n, Sg.pure]
  obtain ⟨ti, z, hi, hsz, hz, hzo⟩ := H.parts rfl hn
  have hplace : ∀ i o τ, slotAt (Γ.sg e) len i = some (o, τ) → (fun i => some (i * (Γ.sg e).n, (Γ.sg e).n)) i = some (o, τ.n) ∧ o + τ.n ≤ (rep len (Γ.sg e).flat).length ∧ τ.pure = true ∧ 0 < τ.n ∧ ∀ j, j < τ.n → (rep len (Γ.sg e).flat)[o + j]? = τ.flat[j]? := by
    intro i o τ hs
    unfold slotAt at hs
    split at hs
    · rename_i hlt
      cases hs
      refine ⟨rfl, ?_, hp, hpos, fun j hj => ?_⟩
      · rw [hrl, ← Nat.succ_mul]; exact Nat.mul_le_mul_right _ hlt
      · have := rep_get (Γ.sg e).flat len i j hlt (by omega)
        rw [hfl] at this
        exact this
    · cases hs
  obtain ⟨k1, k2, k3⟩ := fill_sound (ρ := ρ) hplace l parts.toList _ xs (by simpa using hl) hd (by simp [hrl]) (zeros_ok _ _) h
  refine ⟨?_, by rw [k2, hrl], k3⟩
  have hzc := zero_cells hp hzo
  have hzl : z.cells.size = (Γ.sg e).n := by rw [hzc]; simp [cellsV_len _ _ (by simp [hfl] : (Γ.sg e).flat.length = (List.replicate (Γ.sg e).n (0:Int)).length)]
  have hzero : ((Array.range (len * (Γ.sg e).n)).map fun x => z.cells[x % z.cells.size]!) = (cellsV (rep len (Γ.sg e).flat) (List.replicate (len * (Γ.sg e).n) 0)).toArray := by
    apply Array.ext_getElem?
    intro j
    rw [Array.getElem?_map, Array.getElem?_range, List.getElem?_toArray]
    by_cases hj : j < len * (Γ.sg e).n
    · rw [if_pos hj]
      have hdiv : j / (Γ.sg e).n < len := by rw [Nat.div_lt_iff_lt_mul hpos]; exact hj
      have hmod := Nat.mod_lt j hpos
      have hsum : j / (Γ.sg e).n * (Γ.sg e).n + j % (Γ.sg e).n = j := by rw [Nat.mul_comm]; exact Nat.div_add_mod j (Γ.sg e).n
      have hr := rep_get (Γ.sg e).flat len (j / (Γ.sg e).n) (j % (Γ.sg e).n) hdiv (by omega)
      rw [hfl, hsum] at hr
      have hk : (Γ.sg e).flat[j % (Γ.sg e).n]? = some ((Γ.sg e).flat[j % (Γ.sg e).n]'(by omega)) := List.getElem?_eq_getElem _
      rw [hk] at hr
      rw [cellsV_get _ _ j 0 _ (by rw [List.getElem?_replicate, if_pos hj]) hr]
      have h2 := cellsV_get (Γ.sg e).flat (List.replicate (Γ.sg e).n 0) (j % (Γ.sg e).n) 0 _ (by rw [List.getElem?_replicate, if_pos hmod]) hk
      simp only [Option.map_some, hzl]
      rw [hzc, Array.getElem!_eq_getD, Array.getD_eq_getD_getElem?, List.getElem?_toArray, h2]
      rfl
    · rw [if_neg hj, List.getElem?_eq_none (by rw [cellsV_len _ _ (by simp [hrl])]; simp; omega)]
      rfl
  have hlt : ¬ len * (Γ.sg e).n > 2 ^ 24 := by omega
  simp only [Instr.buildSlice, Sem.run_bind, run_underlying hu, Result.andThen_ok, run_so hi hsz, if_neg hlt]
  by_cases h0 : len * (Γ.sg e).n = 0
  · have hz2 : ((Array.range (len * (Γ.sg e).n)).map fun x => (#[] : Array Value)[x % (#[] : Array Value).size]!) = (cellsV (rep len (Γ.sg e).flat) (List.replicate (len * (Γ.sg e).n) 0)).toArray := by
      rw [← hzero, h0]; simp
    rw [if_pos h0, pure_bind, hz2, k1]
    simp [newRow]
  · rw [if_neg h0, Sem.run_bind]
    have hzv : (zeroValue e).run P w = .ok z w := by simp [zeroValue, run_ti hi, hz]
    rw [hzv, Result.andThen_ok, pure_bind, hzero, k1]
    simp [newRow]

theorem part_place (H : TabOk P Γ) {t : TypeId} {σ : Sg} (ht : Γ.sg t = σ) (hn : σ ≠ .none) (hi : (match σ.inf with | .st _ => true | .arr _ _ => true | _ => false) = true) :
    σ.pure = true ∧ ∀ (w : World) (parts : Array (Nat × Value)) (xs' : List Int) (L : Prop), (∀ place : Nat → Option (Nat × Nat), (∀ i o τ, partAt σ i = some (o, τ) → place i = some (o, τ.n) ∧ o + τ.n ≤ σ.flat.length ∧ τ.pure = true ∧ 0 < τ.n ∧ ∀ j, j < τ.n → σ.flat[o + j]? = τ.flat[j]?) →
      Instr.fill place (cellsV σ.flat (List.replicate σ.n 0)).toArray parts.toList = some (cellsV σ.flat xs').toArray ∧ L) →
      (Instr.build t parts).run P w = .ok (.agg (cellsV σ.flat xs').toArray) w ∧ L := by
  obtain ⟨it, z, hit, hsz, hz, hzo⟩ := H.parts ht hn
  cases hc : σ.inf with
  | st fs =>
    have hp : σ.pure = true := by cases σ <;> first | rfl | cases hc
    refine ⟨hp, fun w parts xs' L hf => ?_⟩
    obtain ⟨gs, hu, hgs, -, -⟩ := H.st ht hn hc
    obtain ⟨f1, f2, f3⟩ := Sg.st_flat σ fs hc
    have hlen : gs.size = fs.length := by
      unfold fldsOk at hgs
      simp only [Bool.and_eq_true, beq_iff_eq] at hgs
      exact hgs.1
    have hall : ∀ (l : List Field), (∀ g ∈ l, ∃ i, P.info? g.type = some i) → ∃ places, l.mapM (fun f => (P.info? f.type).map fun i => (f.offset, i.size)) = some places ∧ places.length = l.length ∧
        ∀ (j : Nat) (g : Field), l[j]? = some g → ∃ i, P.info? g.type = some i ∧ places[j]? = some (g.offset, i.size) := by
      intro l
      induction l with
      | nil => intro _; exact ⟨[], rfl, rfl, fun j g h => by simp at h⟩
      | cons g l ih =>
        intro h
        obtain ⟨i, hi⟩ := h g List.mem_cons_self
        obtain ⟨ps, h1, h2, h3⟩ := ih fun g hg => h g (List.mem_cons_of_mem _ hg)
        refine ⟨(g.offset, i.size) :: ps, by simp [List.mapM_cons, hi, h1], by simp [h2], fun j g' hj => ?_⟩
        cases j with
        | zero => simp at hj; subst hj; exact ⟨i, hi, rfl⟩
        | succ j => simpa using h3 j g' (by simpa using hj)
    have hfld : ∀ (j : Nat) (g : Field), gs[j]? = some g → ∃ o τ, fldAt fs j = some (o, τ) ∧ g.offset = o ∧ ∃ i, P.info? g.type = some i ∧ i.size = τ.n := by
      intro j g hg
      have hjl : j < fs.length := by have := (Array.getElem?_eq_some_iff.1 hg).1; omega
      obtain ⟨o, τ, hfl⟩ := fldAt_some' fs j hjl
      obtain ⟨g', hg', ho, hτ, -⟩ := fldsOk_at hgs hfl
      rw [hg] at hg'
      cases hg'
      obtain ⟨i, z', hi, hsz', -, -⟩ := H.parts hτ (by
        have := Sg.st_pos' σ fs hc τ (fldAt_mem' hfl)
        rintro rfl; cases this)
      exact ⟨o, τ, hfl, ho, i, hi, hsz'⟩
    obtain ⟨places, h1, h2, h3⟩ := hall gs.toList fun g hg => by
      obtain ⟨j, hj, e⟩ := List.getElem_of_mem hg
      obtain ⟨o, τ, -, -, i, hi, -⟩ := hfld j g (by rw [← e]; simp)
      exact ⟨i, hi⟩
    obtain ⟨k1, k2⟩ := hf (places.toArray[·]?) (by
      intro i o τ hpa
      simp only [partAt, hc] at hpa
      obtain ⟨g, hg, ho, hτ, -⟩ := fldsOk_at hgs hpa
      obtain ⟨o', τ', hfl, ho', i', hi', hs'⟩ := hfld i g hg
      rw [hpa] at hfl
      cases hfl
      obtain ⟨i2, hi2, hpl⟩ := h3 i g (by simpa using hg)
      rw [hi'] at hi2
      cases hi2
      have h4 := flats_fld fs i o τ f3 hpa
      refine ⟨by simp [hpl, ho, hs'], by rw [Sg.flat_len σ hp, f2]; exact h4.1, f3 τ (fldAt_mem' hpa), Sg.st_pos' σ fs hc τ (fldAt_mem' hpa), fun j hj => by rw [f1]; exact h4.2 j hj⟩)
    refine ⟨run_build w t parts _ ?_, k2⟩
    simp only [Program.built, hit, hu, hz, h1]
    rw [zero_cells hp hzo]
    exact k1
  | arr n e =>
    have hp : σ.pure = true := by cases σ <;> first | rfl | cases hc
    refine ⟨hp, fun w parts xs' L hf => ?_⟩
    obtain ⟨t', hu, ht', -⟩ := H.arr ht hc
    obtain ⟨f1, f2, f3, f4⟩ := Sg.arr_flat σ e n hc
    obtain ⟨ie, z', hie, hse, -, -⟩ := H.parts ht' (by rintro rfl; cases f4)
    obtain ⟨k1, k2⟩ := hf (fun i => some (i * ie.size, ie.size)) (by
      intro i o τ hpa
      simp only [partAt, hc] at hpa
      split at hpa
      · rename_i hlt
        cases hpa
        have hle : i * e.n + e.n ≤ σ.n := by rw [f2, ← Nat.succ_mul]; exact Nat.mul_le_mul_right _ hlt
        refine ⟨by rw [hse], by rw [Sg.flat_len σ hp]; exact hle, f3, f4, fun j hj => ?_⟩
        have hel := Sg.flat_len e f3
        have hr := rep_get e.flat n i j hlt (by omega)
        rw [hel] at hr
        rw [f1]; exact hr
      · cases hpa)
    refine ⟨run_build w t parts _ ?_, k2⟩
    simp only [Program.built, hit, hu, hz, hie]
    rw [zero_cells hp hzo]
    exact k1
  | _ => rw [hc] at hi; cases hi

theorem caps_sound {ρ : Rho} {n : Nat} {E : Operand → AV} {ev : Operand → Value} (hE : ∀ x, Den ρ (E x) (ev x)) (hI : ∀ x, ∀ i ∈ (E x).ids, i < n) : ∀ {l : List Operand} {cs : List (Nat × Sg)}, capsAV (l.map E) = some cs →
    l.map ev = cs.map (fun c => Value.pointer (some ⟨(ρ c.1).blk, 0, none⟩)) ∧ (∀ c ∈ cs, PtrOk (ρ c.1) 0 c.2 ∧ (ρ c.1).size = c.2.n) ∧ ∀ i ∈ cs.map (·.1), i < n
  | [], cs, h => by cases h; exact ⟨rfl, fun c hc => (by cases hc), fun i hi => (by cases hi)⟩
  | x :: l, cs, h => by
    simp only [List.map_cons] at h
    have hx := hE x
    have hxi := hI x
    revert h
    generalize hex : E x = y at hx hxi
    intro h
    cases y <;> simp only [capsAV, reduceCtorEq] at h
    rename_i id σ
    split at h
    · rename_i cs' h'
      cases h
      obtain ⟨h1, h2, h3⟩ := caps_sound hE hI h'
      obtain ⟨e, hp⟩ := hx
      refine ⟨by simp [e, h1], fun c hc => ?_, fun i hi => ?_⟩
      · rcases List.mem_cons.1 hc with rfl | hc
        · exact hp
        · exact h2 c hc
      · rcases List.mem_cons.1 hi with rfl | hi
        · exact hxi _ (by simp [AV.ids])
        · exact h3 i hi
    · cases h

end Go.Eng

/- The engine, part 9: one operation, and what it comes to. No conditions. -/
namespace Go.Eng
open Go Go.RowKit
set_option linter.unusedSectionVars false
variable [Glob]
variable {P : Program} {Γ : Tab}

theorem evB_sound (H : TabOk P Γ) {ρ : Rho} {n : Nat} {E : Operand → AV} {ev : Operand → Value} {w : World} {ts : Array TypeId} {b : Builtin} {l : List Operand} {r : AV} {vs : List Prop}
    (hE : ∀ x, Den ρ (E x) (ev x)) (h : evB Γ ts b (l.map E) = some (r, vs)) (hv : allP vs) :
    ∃ z, Den ρ r z ∧ (∀ i ∈ r.ids, i < n) ∧ ∀ type consts, (builtin b ts type consts (l.map ev).toArray).run P w = .ok (.value z) w := by
  have none1 : ∀ t : TypeId, (Γ.sl t).isSome = true → ∃ e, P.underlying t = some (.slice e) := fun t ht => by
    obtain ⟨e, he⟩ := Option.isSome_iff_exists.1 ht
    exact ⟨e, H.sl t e he⟩
  have get0 : 0 < ts.size → ts[0]? = some (ts.getD 0 0) := fun h => by
    rw [Array.getElem?_eq_getElem h, Array.getD_eq_getD_getElem?, Array.getElem?_eq_getElem h]; rfl
  have one : ∀ x y : AV, l.map E = [x] → ∃ p, l = [p] ∧ Den ρ x (ev p) := by
    intro x _ hl
    match l, hl with
    | [p], hl => simp only [List.map_cons, List.map_nil, List.cons.injEq, and_true] at hl; exact ⟨p, rfl, hl ▸ hE p⟩
  have two : ∀ x y : AV, l.map E = [x, y] → ∃ p q, l = [p, q] ∧ Den ρ x (ev p) ∧ Den ρ y (ev q) := by
    intro x y hl
    match l, hl with
    | [p, q], hl =>
      simp only [List.map_cons, List.map_nil, List.cons.injEq, and_true] at hl
      exact ⟨p, q, rfl, hl.1 ▸ hE p, hl.2 ▸ hE q⟩
  unfold evB at h
  split at h
  · rename_i id off len σ hl
    obtain ⟨p, rfl, cap, hp, -⟩ := one _ .any hl
    split at h
    · rename_i hc
      cases h
      obtain ⟨e, hu⟩ := none1 _ hc.1
      have hg := get0 hc.2
      generalize ts.getD 0 0 = t0 at hg hu
      exact ⟨.int .i64 len, ⟨rfl, hv.1⟩, fun i hi => (by simp [AV.ids] at hi), fun type consts => (by
        simp [builtin, Builtin.len_, hg, run_underlying hu, hp, goInt])⟩
    · cases h
  · rename_i id len σ e0 hl
    obtain ⟨p, rfl, cap, hp, hle, hmx, -⟩ := one _ .any hl
    split at h
    · rename_i hc
      cases h
      obtain ⟨e, hu⟩ := none1 _ hc.1
      have hg := get0 hc.2
      generalize ts.getD 0 0 = t0 at hg hu
      exact ⟨.int .i64 len, ⟨rfl, (by simp only [rng, lo, hi, maxLen] at *; omega)⟩, fun i hi => (by simp [AV.ids] at hi), fun type consts => (by
        simp [builtin, Builtin.len_, hg, run_underlying hu, hp, goInt])⟩
    · cases h
  · rename_i σ rows hl
    obtain ⟨p, rfl, -, -, hmx, a, cap, hp, -⟩ := one _ .any hl
    split at h
    · rename_i hc
      cases h
      obtain ⟨e, hu⟩ := none1 _ hc.1
      have hg := get0 hc.2
      generalize ts.getD 0 0 = t0 at hg hu
      exact ⟨.int .i64 rows.length, ⟨rfl, (by simp only [rng, lo, hi, maxLen] at *; omega)⟩, fun i hi => (by simp [AV.ids] at hi), fun type consts => (by
        simp [builtin, Builtin.len_, hg, run_underlying hu, hp, goInt])⟩
    · cases h
  · rename_i σ rows hl
    obtain ⟨p, rfl, hmx, a, cap, hp, -⟩ := one _ .any hl
    split at h
    · rename_i hc
      cases h
      obtain ⟨e, hu⟩ := none1 _ hc.1
      have hg := get0 hc.2
      generalize ts.getD 0 0 = t0 at hg hu
      exact ⟨.int .i64 rows.length, ⟨rfl, (by simp only [rng, lo, hi, maxLen] at *; omega)⟩, fun i hi => (by simp [AV.ids] at hi), fun type consts => (by
        simp [builtin, Builtin.len_, hg, run_underlying hu, hp, goInt])⟩
    · cases h
  · rename_i rows hl
    obtain ⟨p, rfl, hmx, a, cap, hp, -⟩ := one _ .any hl
    split at h
    · rename_i hc
      cases h
      obtain ⟨e, hu⟩ := none1 _ hc.1
      have hg := get0 hc.2
      generalize ts.getD 0 0 = t0 at hg hu
      exact ⟨.int .i64 rows.length, ⟨rfl, (by simp only [rng, lo, hi, maxLen] at *; omega)⟩, fun i hi => (by simp [AV.ids] at hi), fun type consts => (by
        simp [builtin, Builtin.len_, hg, run_underlying hu, hp, goInt])⟩
    · cases h
  · rename_i hl
    obtain ⟨p, rfl, a, hp⟩ := one _ .any hl
    split at h
    · rename_i hc
      cases h
      obtain ⟨e, hu⟩ := none1 _ hc.1
      have hg := get0 hc.2
      generalize ts.getD 0 0 = t0 at hg hu
      exact ⟨.int .i64 0, ⟨rfl, (by simp [rng, lo, hi])⟩, fun i hi => (by simp [AV.ids] at hi), fun type consts => (by
        simp [builtin, Builtin.len_, hg, run_underlying hu, hp, goInt])⟩
    · cases h
  · rename_i x hl
    obtain ⟨p, rfl, hp, hmx⟩ := one _ .any hl
    split at h
    · rename_i hc
      cases h
      have hu := H.str hc.1
      have hg := get0 hc.2
      generalize ts.getD 0 0 = t0 at hg hu
      exact ⟨.int .i64 x.size, ⟨rfl, (by simp only [rng, lo, hi, maxLen] at *; omega)⟩, fun i hi => (by simp [AV.ids] at hi), fun type consts => (by
        simp [builtin, Builtin.len_, hg, run_underlying hu, hp, goInt])⟩
    · cases h
  · rename_i hl
    obtain ⟨p, rfl, hp⟩ := one _ .any hl
    split at h
    · rename_i hc
      cases h
      obtain ⟨e, hu⟩ := none1 _ hc.1
      have hg := get0 hc.2
      generalize ts.getD 0 0 = t0 at hg hu
      exact ⟨.int .i64 0, ⟨rfl, (by simp [rng, lo, hi])⟩, fun i hi => (by simp [AV.ids] at hi), fun type consts => (by
        simp only [Den] at hp
        simp [builtin, Builtin.len_, hg, run_underlying hu, hp, goInt])⟩
    · cases h
  · rename_i k m k' n' hl
    obtain ⟨p, q, rfl, ⟨hp, hp2⟩, ⟨hq, hq2⟩⟩ := two _ _ hl
    split at h
    · rename_i hc
      subst hc
      cases h
      refine ⟨.int k (mnI m n'), ⟨rfl, ?_⟩, fun i hi => (by simp [AV.ids] at hi), fun type consts => (by
        simp [builtin, Builtin.min_, Builtin.min2, hp, hq, mnI])⟩
      unfold mnI; split <;> assumption
    · cases h
  · rename_i k m k' n' hl
    obtain ⟨p, q, rfl, ⟨hp, hp2⟩, ⟨hq, hq2⟩⟩ := two _ _ hl
    split at h
    · rename_i hc
      subst hc
      cases h
      refine ⟨.int k (mxI m n'), ⟨rfl, ?_⟩, fun i hi => (by simp [AV.ids] at hi), fun type consts => (by
        simp [builtin, Builtin.max_, Builtin.max2, hp, hq, mxI])⟩
      unfold mxI; split <;> assumption
    · cases h
  · cases h

theorem slIdx_sound (H : TabOk P Γ) {ρ : Rho} {M : List Blk} {w : World} (hM : MRel ρ M w) {t : TypeId} {x y r : AV} {u v : Value} {vcs : List Prop} (h : slIdx Γ M t x y = some (r, vcs)) (hv : allP vcs) (hx : Den ρ x u) (hy : Den ρ y v) :
    ∃ z, Den ρ r z ∧ (∀ i ∈ r.ids, i ∈ x.ids) ∧ (Instr.indexAt t u v).run P w = .ok z w := by
  unfold slIdx at h
  split at h
  case h_2 => cases h
  rename_i id off len σ kk i
  split at h
  case h_2 => cases h
  rename_i e hsl
  split at h
  case h_2 => cases h
  rename_i τ rows hid
  split at h
  case isFalse => cases h
  rename_i hc
  cases h
  obtain ⟨⟨v1, v2, v3⟩, -⟩ := hv
  obtain ⟨cap, rfl, d1, d2, d3, d4, d5⟩ := hx
  obtain ⟨rfl, -⟩ := hy
  obtain ⟨C, c1, c2, c3, c4, c5, c6, c7, c8⟩ := hM.blk id _ hid
  obtain ⟨rfl, hne, hp, rfl⟩ := hc
  have hu := H.sl t e hsl
  obtain ⟨ti, z, hinf, hsz, -, -⟩ := H.parts rfl hne
  have e1 : (off / (Γ.sg e).n + i.toNat) * (Γ.sg e).n = off + i.toNat * (Γ.sg e).n := by rw [Nat.add_mul, v3]
  have e2 : i.toNat * (Γ.sg e).n + (Γ.sg e).n ≤ len * (Γ.sg e).n := by rw [← Nat.succ_mul]; exact Nat.mul_le_mul_right _ (by omega)
  refine ⟨.pointer (some ⟨(ρ id).blk, off + i.toNat * (Γ.sg e).n, none⟩), ⟨by rw [e1, Nat.add_zero], c3, hp, hp, d2, by omega, by rw [e1]; omega, fun j _ => by rw [Nat.zero_add]⟩, fun i hi => hi, ?_⟩
  simp only [Instr.indexAt, asIntOf, Sem.run_bind, Sem.run_pure, run_underlying hu, Result.andThen_ok, v1, v2, and_self, if_true, run_so hinf hsz, add_addr]

theorem foldl_push : ∀ (ns : List Int) (s : ByteArray), ns.foldl (fun r n => r.push (UInt8.ofNat n.toNat)) s = ⟨s.data ++ (ns.map fun n => UInt8.ofNat n.toNat).toArray⟩ := by
  intro ns
  induction ns with
  | nil => intro s; simp
  | cons n ns ih => intro s; rw [List.foldl_cons, ih]; simp [ByteArray.push]
theorem str_core (H : TabOk P Γ) {w : World} {s t e : TypeId} {k o cap : Nat} {C : Array Value} {ty : TypeId} {fz : Nat × Nat} {rows : List (List Int)} (hs : P.underlying s = some (.slice e)) (he : Γ.sg e = .u8) (ht : Γ.sg t = .str)
    (hk : w.heap[k]? = some (.cells C ty fz)) (hr : rowsAt C .u8 o rows) :
    (convert s t (.slice (some ⟨k, o, none⟩) rows.length cap)).run P w = .ok (.string (bytesR rows)) w := by
  rw [run_convert_bytes_string w s t e _ _ _ hs (H.cell he rfl) (H.str ht)]
  have hl := run_loadCells_list (P := P) (w := w) ⟨k, o, none⟩ ((rows.map fun r => r.getD 0 0).map (Value.int .u8)) (fun j v hj => by
    rw [List.getElem?_map, List.getElem?_map, Option.map_map, Option.map_eq_some_iff] at hj
    obtain ⟨row, h1, rfl⟩ := hj
    obtain ⟨h2, h3⟩ := hr j row h1
    have h4 := (h3 0 (row.getD 0 0) (by rw [List.getD_eq_getElem?_getD, List.getElem?_eq_getElem (by rw [h2]; decide)]; rfl)).1
    rw [add_addr, cell_of_row w _ _ C _ _ hk]
    rw [show o + j * Sg.u8.n + 0 = o + j from by simp [Sg.n]] at h4
    exact h4)
  rw [List.length_map, List.length_map] at hl
  rw [run_bytesToString w ⟨k, o, none⟩ rows.length cap (rows.map fun r => r.getD 0 0) hl, foldl_push]
  unfold bytesR
  rw [List.map_map]
  congr 3
  show (#[] : Array UInt8) ++ _ = _
  rw [Array.empty_append]; rfl
theorem strAV_sound (H : TabOk P Γ) {ρ : Rho} {M : List Blk} {w : World} (hM : MRel ρ M w) {s t : TypeId} {x r : AV} {u : Value} {vcs : List Prop} (h : strAV Γ M s x = some (r, vcs)) (ht : Γ.sg t = .str) (hv : allP vcs) (hx : Den ρ x u) :
    ∃ z, Den ρ r z ∧ r.ids = [] ∧ (convert s t u).run P w = .ok z w := by
  have len : ∀ rows : List (List Int), (bytesR rows).size = rows.length := fun rows => by unfold bytesR; simp [ByteArray.size]
  unfold strAV at h
  split at h
  · rename_i id n σ e
    split at h
    · rename_i e' hsl
      split at h
      · rename_i τ rows hid
        split at h
        · rename_i hc
          obtain ⟨rfl, he, rfl, rfl⟩ := hc
          cases h
          obtain ⟨⟨rfl, hl⟩, -⟩ := hv
          obtain ⟨cap, rfl, -⟩ := hx
          obtain ⟨C, c1, c2, c3, c4, c5, c6, c7, c8⟩ := hM.blk id _ hid
          exact ⟨_, ⟨rfl, by rw [len]; exact hl⟩, rfl, str_core H (H.sl s _ hsl) he ht c1 c8⟩
        · cases h
      · cases h
    · cases h
  · rename_i σ rows
    split at h
    · rename_i e hsl
      split at h
      · rename_i hc
        obtain ⟨he, rfl⟩ := hc
        cases h
        obtain ⟨h1, h2, h3, a, cap, rfl, h4, h5⟩ := hx
        rcases h5 with rfl | ⟨k, o, C, ty, fz, rfl, g2, g3⟩
        · refine ⟨_, ⟨rfl, by decide⟩, rfl, ?_⟩
          rw [run_convert_bytes_string w s t e _ _ _ (H.sl s _ hsl) (H.cell he rfl) (H.str ht)]
          cases a with
          | none => rfl
          | some a => exact run_bytesToString w a 0 cap [] (run_loadCells_list (P := P) (w := w) a [] (fun j v hj => by simp at hj))
        · exact ⟨_, ⟨rfl, by rw [len]; exact h3⟩, rfl, str_core H (H.sl s _ hsl) he ht (hM.env k _ g2).1 g3.1⟩
      · cases h
    · cases h
  · cases h

theorem rep_one {k : CK} : ∀ (n j : Nat), j < n → (rep n [k])[j]? = some k := by
  intro n
  induction n with
  | zero => intro j h; omega
  | succ n ih =>
    intro j h
    cases j with
    | zero => rfl
    | succ j => exact ih j (by omega)
theorem ixAV_sound (H : TabOk P Γ) {ρ : Rho} {t : TypeId} {x y r : AV} {u v : Value} {vcs : List Prop} (h : ixAV Γ t x y = some (r, vcs)) (hv : allP vcs) (hx : Den ρ x u) (hy : Den ρ y v) (w : World) :
    ∃ z, Den ρ r z ∧ r.ids = [] ∧ (Instr.index t u v).run P w = .ok z w := by
  unfold ixAV at h
  split at h
  · rename_i σ xs kk i
    split at h
    · rename_i n e hi
      split at h
      · rename_i k he
        split at h
        · rename_i hc
          cases h
          obtain ⟨⟨v1, v2⟩, -⟩ := hv
          obtain ⟨rfl, d1, d2, d3⟩ := hx
          obtain ⟨rfl, -⟩ := hy
          obtain ⟨t', hu, ht', -⟩ := H.arr hc.1 hi
          obtain ⟨g1, g2, -, -⟩ := Sg.arr_flat σ e n hi
          obtain ⟨f1, f2, -⟩ := Sg.cell_flat e _ he
          have hn : e ≠ .none := by rintro rfl; cases he
          obtain ⟨ti, z, hinf, hsz, -, -⟩ := H.parts ht' hn
          have hue := H.cell ht' he
          rw [f2, Nat.mul_one] at g2
          have hlt : i.toNat < xs.length := by omega
          have e1 : xs[i.toNat]? = some (xs.getD i.toNat 0) := by rw [List.getD_eq_getElem?_getD, List.getElem?_eq_getElem hlt]; rfl
          have e2 : σ.flat[i.toNat]? = some (.int k) := by rw [g1, f1]; exact rep_one n _ (by omega)
          have e3 := cellsV_get _ _ _ _ _ e1 e2
          refine ⟨.int k (xs.getD i.toNat 0), ⟨rfl, cellsOk_get _ _ _ _ _ d2 e1 e2⟩, rfl, ?_⟩
          have hag : (isAgg t').run P w = .ok false w := by
            unfold isAgg
            simp only [Sem.run_bind, run_underlying hue, Result.andThen_ok, Sem.run_pure]
          simp only [Instr.index, asIntOf, Sem.run_bind, Sem.run_pure, run_underlying hu, Result.andThen_ok, v1, v2, and_self, if_true, run_so hinf hsz, f2, Nat.mul_one, part, hag, Bool.false_eq_true, if_false]
          rw [List.getElem?_toArray, e3]
          rfl
        · cases h
      · cases h
    · cases h
  · rename_i s kk i
    split at h
    · rename_i hc
      cases h
      obtain ⟨⟨v1, v2⟩, -⟩ := hv
      obtain ⟨rfl, d1⟩ := hx
      obtain ⟨rfl, -⟩ := hy
      have hu := H.str hc
      have hlt : i.toNat < s.data.size := by have : s.size = s.data.size := rfl; omega
      have e1 : s[i.toNat]? = some (s.data.getD i.toNat 0) := by
        rw [getElem?_pos s i.toNat (by exact hlt)]
        congr 1
        rw [Array.getD_eq_getD_getElem?, Array.getElem?_eq_getElem hlt]; rfl
      have hb := (s.data.getD i.toNat 0).toNat_lt
      refine ⟨.int .u8 ((s.data.getD i.toNat 0).toNat : Int), ⟨rfl, by simp only [rng, Eng.lo, Eng.hi]; omega⟩, rfl, ?_⟩
      simp only [Instr.index, asIntOf, Sem.run_bind, Sem.run_pure, run_underlying hu, Result.andThen_ok, v1, if_true, e1]
    · cases h
  · cases h

theorem evS_sound (H : TabOk P Γ) {ρ : Rho} {wr : Bool} {M : List Blk} {E : Operand → AV} {a : Act} {w : World} {o : Oper} {r : AV} {vs : List Prop}
    (hE : ∀ x, Den ρ (E x) (a.eval x)) (hI : ∀ x, ∀ i ∈ (E x).ids, i < M.length) (hM : MRel ρ M w) (h : evS Γ wr M E o.op = some (r, vs)) (hv : allP vs) :
    ∃ z, Den ρ r z ∧ (∀ i ∈ r.ids, i < M.length) ∧ (execOp a.eval o).run P w = .ok (.value z) w := by
  unfold execOp
  cases ho : o.op <;> rw [ho] at h <;> simp only [evS, reduceCtorEq] at h
  case move x => cases h; exact ⟨_, hE x, hI x, by simp⟩
  case assign x => cases h; exact ⟨_, hE x, hI x, by simp⟩
  case pick c x y =>
    have hc := hE c
    split at h
    · rename_i p e
      rw [e] at hc
      simp only [Den] at hc
      split at h
      · cases h; exact ⟨_, hE x, hI x, by simp [hc, asBool]⟩
      · cases h; exact ⟨_, hE y, hI y, by simp [hc, asBool]⟩
    · cases h
  case load t x =>
    have hx := hE x
    split at h
    · rename_i id off σ e
      rw [e] at hx
      obtain ⟨hx, hp⟩ := hx
      split at h
      · rename_i hc
        split at h
        · rename_i r' hl
          cases h
          obtain ⟨v, hd, hr⟩ := load_sound H hM hc.1 hc.2 hp hl
          exact ⟨v, hd, load_ids hM hl, by simp [hx, Instr.loadAt, Instr.sureAddr, hr]⟩
        · cases h
      · cases h
    · rename_i id σ e
      rw [e] at hx
      obtain ⟨hx, hp, hs⟩ := hx
      split at h
      · rename_i hc
        split at h
        · rename_i r' hl
          cases h
          have hl' := loadW_eq hM hs hl
          obtain ⟨v, hd, hr⟩ := load_sound H hM hc.1 hc.2 hp hl'
          exact ⟨v, hd, load_ids hM hl', by simp [hx, Instr.loadAt, Instr.sureAddr, hr]⟩
        · cases h
      · cases h
    · split at h
      · rename_i r' hl
        cases h
        obtain ⟨z, h1, h2, h3⟩ := rowLoad_sound H hM hx hl
        exact ⟨z, h1, by rw [h2]; simp, by simp [h3]⟩
      · split at h
        · rename_i r' hl
          cases h
          obtain ⟨z, h1, h2, h3⟩ := recLoad_sound H hM hl hx
          exact ⟨z, h1, h2, by simp [h3]⟩
        · cases h
  case nilCheck x =>
    have hx := hE x
    have hi := hI x
    split at h
    · rename_i id off σ e
      cases h
      rw [e] at hx hi
      obtain ⟨hx1, hx2⟩ := hx
      exact ⟨_, ⟨rfl, hx2⟩, hi, by simp [hx1]⟩
    · rename_i id σ e
      cases h
      rw [e] at hx hi
      obtain ⟨hx1, hx2⟩ := hx
      exact ⟨_, ⟨rfl, hx2⟩, hi, by simp [hx1]⟩
    · rename_i e
      cases h
      rw [e] at hx hi
      obtain ⟨hx1, hx2⟩ := hx
      exact ⟨_, ⟨rfl, hx2⟩, hi, by simp [hx1]⟩
    · rename_i e
      cases h
      rw [e] at hx hi
      obtain ⟨hx1, hx2⟩ := hx
      exact ⟨_, ⟨rfl, hx2⟩, hi, by simp [hx1]⟩
    · rename_i e
      cases h
      rw [e] at hx hi
      obtain ⟨g1, g2, g3, g4, g5, k, b, C, ty, fz, hx1, hx2⟩ := hx
      exact ⟨_, ⟨g1, g2, g3, g4, g5, k, b, C, ty, fz, rfl, hx2⟩, hi, by simp [hx1]⟩
    · rename_i e
      cases h
      rw [e] at hx hi
      obtain ⟨k, b, C, ty, fz, y, hx1, hx2⟩ := hx
      exact ⟨_, ⟨k, b, C, ty, fz, y, rfl, hx2⟩, hi, by simp [hx1]⟩
    · rename_i e
      cases h
      rw [e] at hx hi
      obtain ⟨g1, k, b, C, ty, fz, hx1, hx2⟩ := hx
      exact ⟨_, ⟨g1, k, b, C, ty, fz, rfl, hx2⟩, hi, by simp [hx1]⟩
    · cases h
  case fieldAddr t x f =>
    split at h
    · rename_i r' hf
      cases h
      obtain ⟨z, h1, h2, h3⟩ := fldAV_sound H hf (hE x) w
      exact ⟨z, h1, fun i hi => hI x i (h2 i hi), by simp [h3]⟩
    · split at h
      · rename_i r' hf
        cases h
        obtain ⟨z, h1, h2, h3⟩ := rowFld_sound H hf (hE x) w
        exact ⟨z, h1, fun i hi => hI x i (h2 i hi), by simp [h3]⟩
      · split at h
        · rename_i r' hf
          cases h
          obtain ⟨z, h1, h2, h3⟩ := recFld_sound H hf (hE x) w
          exact ⟨z, h1, fun i hi => hI x i (h2 i hi), by simp [h3]⟩
        · cases h
  case indexAddr t x y =>
    split at h
    · rename_i r' hr
      cases h
      obtain ⟨z, h1, h2, h3⟩ := rowIdx_sound H hr hv (hE x) (hE y) w
      exact ⟨z, h1, fun i hi => hI x i (h2 i hi), by simp [h3]⟩
    split at h
    · rename_i r' hr
      cases h
      obtain ⟨z, h1, h2, h3⟩ := slIdx_sound H hM hr hv (hE x) (hE y)
      exact ⟨z, h1, fun i hi => hI x i (h2 i hi), by simp [h3]⟩
    obtain ⟨z, h1, h2, h3⟩ := idxAV_sound H h hv (hE x) (hE y) w
    exact ⟨z, h1, fun i hi => hI x i (h2 i hi), by simp [h3]⟩
  case binOp op t x y _ =>
    split at h
    · rename_i r' hb
      cases h
      obtain ⟨z, h1, h2, h3, h4⟩ := evBin_sound H x y hb hv (hE x) (hE y) w
      exact ⟨z, h1, by rw [h2]; simp, by simp [h3, h4]⟩
    · obtain ⟨z, h1, h2, ⟨a', b', e1, e2⟩, h4⟩ := evPtr_sound H h (hE x) (hE y) w
      have h3 := run_eqGuard_any (P := P) w op t x y (a.eval x) (a.eval y) (by rw [e1]; simp) (by rw [e1]; simp)
      exact ⟨z, h1, by rw [h2]; simp, by simp [h3, h4]⟩
  case unOp op t x =>
    have hx := hE x
    split at h
    · rename_i p e
      cases h; rw [e] at hx; simp only [Den] at hx
      exact ⟨_, rfl, by simp [AV.ids], by simp [hx, Op.unary]⟩
    · rename_i p e
      rw [e] at hx; simp only [Den] at hx
      split at h
      · cases h; exact ⟨_, rfl, by simp [AV.ids], by simp [hx, Op.unary]⟩
      · cases h; exact ⟨_, rfl, by simp [AV.ids], by simp [hx, Op.unary]⟩
    · rename_i k n e
      rw [e] at hx
      exact ⟨_, (ar_sound h hv).1, by rw [(ar_sound (ρ := ρ) h hv).2]; simp, by simp [hx.1, Op.unary, Op.intArith]⟩
    · cases h
  case convert s t x =>
    have hx := hE x
    split at h
    case h_2 =>
      obtain ⟨z, h1, h2, h3⟩ := unsAV_sound H hM h hx
      exact ⟨z, h1, fun i hi => hI x i (h2 i hi), by simp [h3]⟩
    rename_i r0 h0
    cases h
    have h := h0
    clear h0
    unfold cvAV at h
    split at h
    · rename_i k0 n k1 k e hs ht
      rw [e] at hx
      have hus := H.cell rfl hs
      have hut := H.cell rfl ht
      refine ⟨_, (ar_sound h hv).1, by rw [(ar_sound (ρ := ρ) h hv).2]; simp, ?_⟩
      simp only [convert, Sem.run_bind, run_underlying hus, run_underlying hut, Result.andThen_ok, hx.1, Conv.intToInt, Sem.run_pure]
    · rename_i ht _
      split at h
      · rename_i hst
        obtain ⟨z, h1, h2, h3⟩ := strAV_sound H hM h hst hv hx
        exact ⟨z, h1, by rw [h2]; simp, by simp [h3]⟩
      · cases h
    · cases h
  case index t x y =>
    obtain ⟨z, h1, h2, h3⟩ := ixAV_sound H h hv (hE x) (hE y) w
    exact ⟨z, h1, by rw [h2]; simp, by simp [h3]⟩
  case extract x i =>
    have hx := hE x
    have hi := hI x
    split at h <;> first | cases h | skip
    all_goals
      rename_i e
      rw [e] at hx hi
      simp only [AV.ids, List.mem_append] at hi
    · obtain ⟨u, v, hx, h1, h2⟩ := hx; exact ⟨_, h1, fun i h => hi i (by simp [h]), by simp [hx, Instr.extract]⟩
    · obtain ⟨u, v, hx, h1, h2⟩ := hx; exact ⟨_, h2, fun i h => hi i (by simp [h]), by simp [hx, Instr.extract]⟩
    · obtain ⟨u, v, z, hx, h1, h2, h3⟩ := hx; exact ⟨_, h1, fun i h => hi i (by simp [h]), by simp [hx, Instr.extract]⟩
    · obtain ⟨u, v, z, hx, h1, h2, h3⟩ := hx; exact ⟨_, h2, fun i h => hi i (by simp [h]), by simp [hx, Instr.extract]⟩
    · obtain ⟨u, v, z, hx, h1, h2, h3⟩ := hx; exact ⟨_, h3, fun i h => hi i (by simp [h]), by simp [hx, Instr.extract]⟩
    · obtain ⟨u, v, z, y, hx, h1, h2, h3, h4⟩ := hx; exact ⟨_, h1, fun i h => hi i (by simp [h]), by simp [hx, Instr.extract]⟩
    · obtain ⟨u, v, z, y, hx, h1, h2, h3, h4⟩ := hx; exact ⟨_, h2, fun i h => hi i (by simp [h]), by simp [hx, Instr.extract]⟩
    · obtain ⟨u, v, z, y, hx, h1, h2, h3, h4⟩ := hx; exact ⟨_, h3, fun i h => hi i (by simp [h]), by simp [hx, Instr.extract]⟩
    · obtain ⟨u, v, z, y, hx, h1, h2, h3, h4⟩ := hx; exact ⟨_, h4, fun i h => hi i (by simp [h]), by simp [hx, Instr.extract]⟩
  case build t ps =>
    split at h
    · rename_i r' hb
      cases h
      obtain ⟨z, h1, h2, h3⟩ := recBuild_sound H hE hI hb w
      exact ⟨z, h1, h2, by simp [h3]⟩
    rw [fSg'_eq] at h
    split at h
    · rename_i hc
      split at h
      · rename_i xs hf
        have h' : (some (AV.ag (Γ.sg t) xs, []) : Option (AV × List Prop)) = some (r, vs) := by
          split at h
          · rename_i e; rw [fI_eq] at h; rw [e]; exact h
          · exact h
        clear h
        cases h'
        obtain ⟨hp, hrun⟩ := part_place H rfl hc.1 hc.2
        obtain ⟨h1, h2, h3⟩ := hrun w (ps.map fun p => (p.1, a.eval p.2)) xs (xs.length = (Γ.sg t).flat.length ∧ cellsOk (Γ.sg t).flat xs) (fun place hpl =>
          fill_sound (ρ := ρ) hpl _ _ _ _ (by simp) (fun j i r hj => by
            rw [List.getElem?_map] at hj
            rw [Array.toList_map, List.getElem?_map]
            cases hq : ps.toList[j]? with
            | none => rw [hq] at hj; cases hj
            | some q =>
              rw [hq] at hj
              simp only [Option.map_some, Option.some.injEq, Prod.mk.injEq] at hj
              obtain ⟨rfl, rfl⟩ := hj
              exact ⟨_, rfl, hE _⟩) (by simp [Sg.flat_len _ hp]) (zeros_ok _ _) hf)
        exact ⟨_, ⟨rfl, by rw [h2, Sg.flat_len _ hp], h3, hp⟩, fun i hi => (by simp [AV.ids] at hi), by simp [h1]⟩
      · cases h
    · cases h
  case makeFunc f first caps =>
    split at h
    · split at h
      · rename_i hf0
        split at h
        · rename_i cs hcs
          cases h
          obtain ⟨h1, h2, h3⟩ := caps_sound hE hI hcs
          refine ⟨_, ⟨rfl, h2⟩, h3, ?_⟩
          have e1 : first = #[] := Array.eq_empty_of_size_eq_zero hf0
          have e2 : caps.map a.eval = (cs.map fun c => Value.pointer (some ⟨(ρ c.1).blk, 0, none⟩)).toArray := by
            rw [← h1]; apply Array.toList_inj.1; simp
          simp [Instr.makeFunc, e1, e2]
        · cases h
      · split at h
        · rename_i y hf1 hc0
          split at h
          · rename_i σ xs hy
            cases h
            have h1 := hE y
            rw [hy] at h1
            obtain ⟨g1, g2, g3, g4⟩ := h1
            have e1 : first = #[y] := Array.toList_inj.1 (by simpa using hf1)
            have e2 : caps = #[] := Array.toList_inj.1 (by simpa using hc0)
            refine ⟨_, ⟨rfl, g2, g3, g4⟩, fun i hi => (by simp [AV.ids] at hi), ?_⟩
            simp [Instr.makeFunc, e1, e2, g1]
          · cases h
        · cases h
    · cases h
  case slice t x lo hi mx =>
    have key : ∀ id off σ, Γ.sg t = σ → slAll M id off σ = some (r, vs) → PtrOk (ρ id) off σ → a.eval x = .pointer (some ⟨(ρ id).blk, off, none⟩) → id < M.length → ∃ z, Den ρ r z ∧ (∀ i ∈ r.ids, i < M.length) ∧ (Instr.sliceAt t (a.eval x) none none none).run P w = .ok z w := by
      intro id off σ ht h hp hx hid
      unfold slAll at h
      split at h
      · rename_i n e hinf
        split at h
        · rename_i τ xs hb
          cases h
          obtain ⟨t', hu, ht', -⟩ := H.arr ht hinf
          obtain ⟨f1, f2, f3, f4⟩ := Sg.arr_flat σ e n hinf
          obtain ⟨ti, z, hi, hsz, -, -⟩ := H.parts ht' (by rintro rfl; cases f4)
          obtain ⟨C, -, -, -, -, -, -, hroom, -⟩ := hM.blk id _ hb
          refine ⟨.slice (some ⟨(ρ id).blk, off, none⟩) n n, ⟨n, rfl, Nat.le_refl _, f4, fun i hlt => ptr_idx hp hinf hlt, ?_, ?_⟩, fun i hi => (by simp [AV.ids] at hi; omega), ?_⟩
          · have := hp.1; rw [f2] at this; exact this
          · have := hp.1; rw [f2] at this; omega
          · by_cases hn0 : n = 0
            · simp [Instr.sliceAt, run_underlying hu, hx, Instr.sureAddr, Instr.sliceBounds, run_so hi hsz, hn0]
            · simp [Instr.sliceAt, run_underlying hu, hx, Instr.sureAddr, Instr.sliceBounds, run_so hi hsz, Addr.add]
        · cases h
      · cases h
    split at h
    · have hx := hE x
      have hxi := hI x
      split at h
      · rename_i id σ e
        rw [e] at hx hxi
        obtain ⟨hx, hp, -⟩ := hx
        split at h
        · rename_i hc
          obtain ⟨z, h1, h2, h3⟩ := key id 0 σ hc h hp hx (hxi id (by simp [AV.ids]))
          exact ⟨z, h1, h2, by simp [h3]⟩
        · cases h
      · rename_i id off σ e
        rw [e] at hx hxi
        obtain ⟨hx, hp⟩ := hx
        split at h
        · rename_i hc
          obtain ⟨z, h1, h2, h3⟩ := key id off σ hc h hp hx (hxi id (by simp [AV.ids]))
          exact ⟨z, h1, h2, by simp [h3]⟩
        · cases h
      · cases h
    · split at h
      · rename_i l' h' m' el eh em
        have bv : ∀ (o : Option Operand) (n : Option Int), bndAV E o = some n → BV n (o.map a.eval) := by
          intro o n ho
          cases o with
          | none => cases ho; trivial
          | some y =>
            simp only [bndAV] at ho
            split at ho
            · rename_i k n' e
              cases ho
              have := hE y
              rw [e] at this
              exact ⟨k, this⟩
            · cases ho
        obtain ⟨z, h1, h2, h3⟩ := sliceAV_sound H h hv (hE x) (bv _ _ el) (bv _ _ eh) (bv _ _ em) w
        exact ⟨z, h1, by rw [h2]; simp, by simp [h3]⟩
      · cases h
  case call c =>
    split at h
    · rename_i b hb
      obtain ⟨z, h1, h2, h3⟩ := evB_sound (n := M.length) H hE h hv (w := w)
      refine ⟨z, h1, h2, ?_⟩
      have e : (c.args.toList.map a.eval).toArray = c.args.map a.eval := by apply Array.toList_inj.1; simp
      simp only [e] at h3
      simp [resolve, hb, invoke]
      exact h3 _ _
    · cases h

end Go.Eng
