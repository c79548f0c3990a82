/- Lists of cells. -/
import Derived.Test.YtplnfdgokpgbcaaDoorValid2
namespace Go.Proofs.YtplnfdgokpgbcaaDoor
open Go Go.Eng
set_option linter.unusedSimpArgs false
set_option linter.unusedVariables false
set_option maxRecDepth 100000
set_option maxHeartbeats 4000000

/-- The cells of the first y rows, and the first x cells of row y. -/
def rowA (acc : List (List Int)) (y : Nat) : Nat → List (List Int)
  | 0 => acc
  | x + 1 => rowA acc y x ++ [[(x : Int), (y : Int)]]
def spotsY (w : Nat) : Nat → List (List Int)
  | 0 => []
  | y + 1 => rowA (spotsY w y) y w
def spots (p : List Int) : List (List Int) := spotsY (p.getD 0 0).toNat (p.getD 1 0).toNat

theorem rowA_len (acc : List (List Int)) (y x : Nat) : (rowA acc y x).length = acc.length + x := by
  induction x with
  | zero => rfl
  | succ x ih => simp [rowA, ih]; omega
theorem spotsY_len (w y : Nat) : (spotsY w y).length = w * y := by
  induction y with
  | zero => rfl
  | succ y ih => simp [spotsY, ih, rowA_len, Nat.mul_succ]

def yesS : Fun
  | [.ag .spot _], [] => some (.d true, [], [])
  | _, _ => .none


def allS : Fun
  | [.ag .pas p], [] => some (.fs .spot (spots p), [], [])
  | _, _ => .none

/-- The grass of a cell. -/
def gAt (p s : List Int) : Int := p.getD (2 + (s.getD 1 0).toNat * 10 + (s.getD 0 0).toNat * 1) 0
def inG (s : List Int) : Prop := 0 ≤ s.getD 0 0 ∧ s.getD 0 0 < 10 ∧ 0 ≤ s.getD 1 0 ∧ s.getD 1 0 < 10

def gAtS : Fun
  | [.ag .pas p, .ag .spot s], [] => some (.i .i64 (gAt p s), [], [inG s])
  | _, _ => .none

theorem PasOk.gAt {p s : List Int} (h : PasOk p) (hs : inG s) : -32768 ≤ gAt p s ∧ gAt p s ≤ 32767 := by
  obtain ⟨h1, h2, h3, h4⟩ := hs
  exact h.g (by omega) (by omega)

set_option maxRecDepth 100000 in
theorem s_grass : Sound Tryd.prog 62 gAtS := by
  intro args M r M' vs h hvs
  unfold gAtS at h
  split at h
  case h_2 => cases h
  rename_i p s
  cases h
  refine SpecOK.assume fun hA hM => ?_
  have htb := (TbOk.nil : TbOk Tryd.prog tb0)
  refine SpecOK.of_goes [] Tryd.func62 rfl ?_
  have hp : PasOk p := ⟨hA.1, hA.2.1⟩
  obtain ⟨a, b, rfl⟩ := len2 hA.2.2.1
  obtain ⟨hs, -⟩ := hvs
  have hg := hp.gAt hs
  simp only [inG, List.getD_cons_zero, List.getD_cons_succ] at hs
  simp only [gAt, List.getD_cons_zero, List.getD_cons_succ] at hg ⊢
  rw [Nat.mul_one] at hg
  clear hA hM
  refine Goes.tree Γ_ok htb 1000 false false Tryd.func62 rfl ?_
  ((try simp only [decide_eq_true_eq, decide_eq_false_iff_not, Bool.not_eq_true', Bool.not_eq_false', Bool.not_true, Bool.not_false, Bool.and_eq_true, Bool.or_eq_true, bne_iff_ne, beq_iff_eq, ne_eq]); (try simp only [rng, lo, hi, mnI, mxI, Int.toNat_natCast, Sg.n, Nat.mul_one, Nat.zero_add, Nat.add_zero, Nat.reduceAdd, List.getD_cons_zero, List.getD_cons_succ]))
  ((repeat' (first | (with_reducible apply And.intro) | intro _)); all_goals (first | exact trivial | (with_reducible assumption) | (show (_ : List Blk) = _; rfl) | (first | exact trivial | (with_reducible assumption) | omega | (split <;> omega) | (split <;> split <;> omega)) | skip); all_goals (try (refine ⟨rfl, (by first | exact Nat.le_refl _ | exact Nat.le_of_ble_eq_true rfl), rfl, rfl, ?_, (by repeat' (first | exact trivial | rfl | apply And.intro)), rfl, rfl⟩)))
  exact sameA_refl _

def sumN (p : List Int) (rows : List (List Int)) : Nat → Int
  | 0 => 0
  | i + 1 => sumN p rows i + gAt p (rows.getD i [])

theorem sumN_rng {p : List Int} {rows : List (List Int)} (hp : PasOk p) (hs : ∀ s ∈ rows, inG s) : ∀ i : Nat, i ≤ rows.length → -32768 * (i:Int) ≤ sumN p rows i ∧ sumN p rows i ≤ 32767 * (i:Int) := by
  intro i
  induction i with
  | zero => intro _; simp [sumN]
  | succ i ih =>
    intro hi
    have := ih (by omega)
    have hg := hp.gAt (s := rows.getD i []) (hs _ (by rw [List.getD_eq_getElem?_getD, List.getElem?_eq_getElem (by omega)]; exact List.getElem_mem _))
    simp only [sumN]; omega

def sumS : Fun
  | [.ag .pas p, .fs .spot rows], [] => some (.i .i64 (sumN p rows rows.length), [], [rows.length ≤ 1073741824 ∧ ∀ s ∈ rows, inG s])
  | _, _ => .none

/-- The sum of all 100 cells. -/
def rowN (p : List Int) (acc : Int) (y : Nat) : Nat → Int
  | 0 => acc
  | x + 1 => rowN p acc y x + p.getD (2 + y * 10 + x) 0
def sumA (p : List Int) : Nat → Int
  | 0 => 0
  | y + 1 => rowN p (sumA p y) y 10

def sumAS : Fun
  | [.pw 0 .pas], [.c .pas p] => some (.i .i64 (sumA p 10), [.c .pas p], [])
  | _, _ => .none

theorem rowN_rng {p : List Int} (hp : PasOk p) {y : Nat} (hy : y < 10) (acc : Int) : ∀ x, x ≤ 10 → acc - 32768 * x ≤ rowN p acc y x ∧ rowN p acc y x ≤ acc + 32767 * x := by
  intro x
  induction x with
  | zero => intro _; simp [rowN]
  | succ x ih => intro hx; have := ih (by omega); have := hp.g' hy (x := x) (by omega); simp only [rowN]; omega
theorem sumA_rng {p : List Int} (hp : PasOk p) : ∀ y, y ≤ 10 → -327680 * y ≤ sumA p y ∧ sumA p y ≤ 327670 * y := by
  intro y
  induction y with
  | zero => intro _; simp [sumA]
  | succ y ih => intro hy; have := ih (by omega); have := rowN_rng hp (y := y) (by omega) (sumA p y) 10 (by omega); simp only [sumA]; omega

theorem sumN_app (p : List Int) (l r : List (List Int)) : ∀ i, i ≤ l.length → sumN p (l ++ r) i = sumN p l i := by
  intro i
  induction i with
  | zero => intro _; rfl
  | succ i ih =>
    intro h
    simp only [sumN]
    rw [ih (by omega), List.getD_eq_getElem?_getD, List.getElem?_append_left (by omega), ← List.getD_eq_getElem?_getD]

theorem sum_rowA (p : List Int) (acc : List (List Int)) (y x : Nat) : sumN p (rowA acc y x) (rowA acc y x).length = rowN p (sumN p acc acc.length) y x := by
  induction x with
  | zero => rfl
  | succ x ih =>
    simp only [rowA, rowN, List.length_append, List.length_cons, List.length_nil, sumN, Nat.zero_add]
    rw [sumN_app _ _ _ _ (Nat.le_refl _), ih]
    congr 1
    rw [List.getD_eq_getElem?_getD, List.getElem?_append_right (Nat.le_refl _), Nat.sub_self]
    simp [gAt]

theorem rowN_out {p : List Int} {y : Nat} (h : okR p y) (acc : Int) {w : Nat} (hw : (p.getD 0 0).toNat ≤ w ∨ (p.getD 1 0).toNat ≤ y) : ∀ x, w ≤ x → x ≤ 10 → rowN p acc y x = rowN p acc y w := by
  intro x
  induction x with
  | zero => intro h1 _; rw [Nat.le_zero.1 h1]
  | succ x ih =>
    intro h1 h2
    by_cases hx : w = x + 1
    · rw [hx]
    · simp only [rowN]
      rw [ih (by omega) (by omega)]
      have := h.1 x (by omega)
      unfold okC at this
      rw [Nat.mul_one] at this
      omega

theorem sum_spots {p : List Int} (h : okP p) : sumN p (spots p) (spots p).length = sumA p 10 := by
  obtain ⟨hd, hr⟩ := h
  unfold okD at hd
  have h1 : ∀ y, y ≤ (p.getD 1 0).toNat → sumN p (spotsY (p.getD 0 0).toNat y) (spotsY (p.getD 0 0).toNat y).length = sumA p y := by
    intro y
    induction y with
    | zero => intro _; rfl
    | succ y ih =>
      intro hy
      rw [spotsY, sum_rowA, ih (by omega), sumA, rowN_out (hr y (by omega)) _ (.inl (Nat.le_refl _)) 10 (by omega) (by omega)]
  have h2 : ∀ y, (p.getD 1 0).toNat ≤ y → y ≤ 10 → sumA p y = sumA p (p.getD 1 0).toNat := by
    intro y
    induction y with
    | zero => intro h1 _; rw [Nat.le_zero.1 h1]
    | succ y ih =>
      intro h1 h2
      by_cases hx : (p.getD 1 0).toNat = y + 1
      · rw [hx]
      · rw [sumA, rowN_out (w := 0) (hr y (by omega)) _ (.inr (by omega)) 10 (by omega) (by omega), ← ih (by omega) (by omega)]
        rfl
  rw [h2 10 (by omega) (by omega)]
  exact h1 _ (Nat.le_refl _)
theorem mem_rowA {acc : List (List Int)} {y : Nat} {s : List Int} : ∀ {x : Nat}, s ∈ rowA acc y x ↔ s ∈ acc ∨ ∃ i, i < x ∧ s = [(i : Int), (y : Int)] := by
  intro x
  induction x with
  | zero => simp [rowA]
  | succ x ih =>
    simp only [rowA, List.mem_append, ih, List.mem_singleton]
    constructor
    · rintro ((h | ⟨i, h1, h2⟩) | h)
      · exact .inl h
      · exact .inr ⟨i, by omega, h2⟩
      · exact .inr ⟨x, by omega, h⟩
    · rintro (h | ⟨i, h1, h2⟩)
      · exact .inl (.inl h)
      · by_cases hx : i = x
        · subst hx; exact .inr h2
        · exact .inl (.inr ⟨i, by omega, h2⟩)

theorem mem_spotsY {w : Nat} {s : List Int} : ∀ {y : Nat}, s ∈ spotsY w y ↔ ∃ j i : Nat, j < y ∧ i < w ∧ s = [(i : Int), (j : Int)] := by
  intro y
  induction y with
  | zero => simp [spotsY]
  | succ y ih =>
    rw [spotsY, mem_rowA, ih]
    constructor
    · rintro (⟨j, i, h1, h2, h3⟩ | ⟨i, h1, h2⟩)
      · exact ⟨j, i, by omega, h2, h3⟩
      · exact ⟨y, i, by omega, h1, h2⟩
    · rintro ⟨j, i, h1, h2, h3⟩
      by_cases hy : j = y
      · subst hy; exact .inr ⟨i, h2, h3⟩
      · exact .inl ⟨j, i, by omega, h2, h3⟩

theorem spots_ok {p : List Int} (h : okD p) : (spots p).length ≤ 1073741824 ∧ ∀ s ∈ spots p, inG s := by
  unfold okD at h
  constructor
  · unfold spots; rw [spotsY_len]
    have : (p.getD 0 0).toNat * (p.getD 1 0).toNat ≤ 10 * 10 := Nat.mul_le_mul (by omega) (by omega)
    omega
  · intro s hs
    obtain ⟨j, i, h1, h2, rfl⟩ := mem_spotsY.1 hs
    simp only [inG, List.getD_cons_zero, List.getD_cons_succ]
    omega
theorem sameA_i {k : IntKind} {a b : Int} (h : a = b) : sameA (.i k a) (.i k b) := by subst h; exact sameA_refl _
theorem sameA_t2 {k k' : IntKind} {a b c d : Int} (h : a = b) (h' : c = d) : sameA (.t2 (.i k a) (.i k' c)) (.t2 (.i k b) (.i k' d)) := by subst h; subst h'; exact sameA_refl _
theorem sameA_bt {k' : IntKind} {a b : Bool} {c d : Int} (h : a = b) (h' : c = d) : sameA (.t2 (.b a) (.i k' c)) (.t2 (.b b) (.i k' d)) := by subst h; subst h'; exact sameA_refl _
theorem sameA_at {k' : IntKind} {σ : Sg} {a b : List Int} {c d : Int} (h : a = b) (h' : c = d) : sameA (.t2 (.ag σ a) (.i k' c)) (.t2 (.ag σ b) (.i k' d)) := by subst h; subst h'; exact sameA_refl _
theorem sameA_ft {k' : IntKind} {σ : Sg} {a b : List (List Int)} {c d : Int} (h : a = b) (h' : c = d) : sameA (.t2 (.fs σ a) (.i k' c)) (.t2 (.fs σ b) (.i k' d)) := by subst h; subst h'; exact sameA_refl _

/-- The place of the first one that is so, or -1. -/
def findI (f : List Int → Bool) (rows : List (List Int)) : Int := if rows.any f then (rows.findIdx f : Int) else -1

theorem findI_some {f : List Int → Bool} {rows : List (List Int)} {i : Nat} (hi : i < rows.length) (h : f (rows.getD i []) = true) (hn : ∀ j, j < i → f (rows.getD j []) = false) : findI f rows = i := by
  have e : ∀ j (hj : j < rows.length), rows.getD j [] = rows[j] := fun j hj => by rw [List.getD_eq_getElem?_getD, List.getElem?_eq_getElem hj]; rfl
  rw [e i hi] at h
  have h1 : rows.any f = true := List.any_eq_true.2 ⟨_, List.getElem_mem hi, h⟩
  have h2 : rows.findIdx f = i := (List.findIdx_eq hi).2 ⟨h, fun j hj => by rw [← e j (by omega)]; exact hn j hj⟩
  unfold findI; rw [if_pos h1, h2]
theorem findI_none {f : List Int → Bool} {rows : List (List Int)} (hn : ∀ j, j < rows.length → f (rows.getD j []) = false) : findI f rows = -1 := by
  have e : ∀ j (hj : j < rows.length), rows.getD j [] = rows[j] := fun j hj => by rw [List.getD_eq_getElem?_getD, List.getElem?_eq_getElem hj]; rfl
  have h1 : ¬ rows.any f = true := by
    intro h
    obtain ⟨x, hx, hf⟩ := List.any_eq_true.1 h
    obtain ⟨j, hj, rfl⟩ := List.mem_iff_getElem.1 hx
    have := hn j hj
    rw [e j hj] at this
    rw [this] at hf; cases hf
  unfold findI; rw [if_neg h1]
theorem findI_any (f : List Int → Bool) (rows : List (List Int)) : decide (0 ≤ findI f rows) = rows.any f := by
  unfold findI
  split
  · rename_i h; rw [h]; exact decide_eq_true (by omega)
  · rename_i h; rw [Bool.not_eq_true] at h; rw [h]; rfl

end Go.Proofs.YtplnfdgokpgbcaaDoor
