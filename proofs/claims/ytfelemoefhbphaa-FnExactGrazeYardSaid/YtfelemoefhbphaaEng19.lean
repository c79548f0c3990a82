/- The engine, part 19: tables of what is told, and small laws of lists. No conditions. -/
import Derived.Test.YtfelemoefhbphaaEng18
namespace Go.Eng
open Go Go.RowKit
variable {P : Program} {Γ : Tab}

def tb0 : FuncId → Option Fun := fun _ => .none
def tb1 (n : Nat) (S : Fun) (tb : FuncId → Option Fun) : FuncId → Option Fun := fun m => match Nat.beq n m with
  | true => some S
  | false => tb m

theorem TbOk.nil : TbOk P tb0 := ⟨fun _ _ h => (by cases h), fun _ _ h => (by cases h)⟩

theorem TbOk.cons {n : Nat} {S : Fun} {tb : FuncId → Option Fun} {F : Func} (hS : Sound P n S) (hf : P.funcs[n]? = some F) (hb : F.body.isNone = false) (hn : (F.name == "runtime.NumGoroutine") = false) (h : TbOk P tb) : TbOk P (tb1 n S tb) where
  sound := fun m S' h' => by
    unfold tb1 at h'
    split at h'
    · rename_i e
      cases h'
      rw [← Nat.eq_of_beq_eq_true e]
      exact hS
    · exact h.sound m S' h'
  enter := fun m S' h' args w => by
    unfold tb1 at h'
    split at h'
    · rename_i e
      rw [← Nat.eq_of_beq_eq_true e]
      exact enter_ok hf hb hn args w
    · exact h.enter m S' h' args w

def frOf : Nat → List (Nat × AV) → List AV
  | n, [] => List.replicate n .any
  | n, (t, x) :: l => (frOf n l).set t x

/-- A loop, with its first entry. -/
theorem Goes.loop0 {fn : FuncId} {m : Nat} {R : AV → List Blk → Prop} {ι : Type} (μ : ι → Nat) (I : ι → Prop) (fr : ι → List AV) (M : ι → List Blk) {todo : List Item} {fr0 : List AV} {M0 : List Blk} (i0 : ι) (h0 : I i0)
    (hf : leF (fr i0) fr0) (hm : leM (M i0) M0)
    (h : ∀ i, I i → (∀ j, I j → μ j < μ i → ∀ fr' M', leF (fr j) fr' → leM (M j) M' → Goes P fn m todo fr' M' R) → Goes P fn m todo (fr i) (M i) R) : Goes P fn m todo fr0 M0 R :=
  Goes.weak hf hm (Goes.loop (S := fun _ => R) μ I (fun i hi ih => h i hi fun j hj hlt _ _ h1 h2 => Goes.weak h1 h2 (ih j hj hlt)) i0 h0)

/-- It gives back what it is given. -/
def idS (σ : Sg) : Fun
  | [.ag τ xs], [] => if τ = σ then some (.ag τ xs, [], []) else .none
  | _, _ => .none

theorem idS_inv {σ : Sg} {args : List AV} {M M' : List Blk} {r : AV} {vs : List Prop} (h : idS σ args M = some (r, M', vs)) : ∃ xs, args = [.ag σ xs] ∧ M = [] ∧ r = .ag σ xs ∧ M' = [] := by
  unfold idS at h
  split at h
  · split at h
    · rename_i hc; cases h; subst hc; exact ⟨_, rfl, rfl, rfl, rfl⟩
    · cases h
  · cases h

/-- A copy, part by part. -/
def cpy (xs zs : List Int) (k : Nat) : List Int := xs.take k ++ zs.drop k

theorem cpy_zero (xs zs : List Int) : cpy xs zs 0 = zs := by simp [cpy]

theorem cpy_all (xs zs : List Int) {k : Nat} (h1 : xs.length ≤ k) (h2 : zs.length ≤ k) : cpy xs zs k = xs := by
  simp [cpy, List.take_of_length_le h1, List.drop_eq_nil_of_le h2]

theorem cpy_set (xs zs : List Int) {k : Nat} (h1 : k < xs.length) (h2 : k < zs.length) : (cpy xs zs k).set k (xs.getD k 0) = cpy xs zs (k + 1) := by
  unfold cpy
  have e : (xs.take k).length = k := by rw [List.length_take]; omega
  rw [List.set_append_right _ _ (by omega), e, Nat.sub_self, List.drop_eq_getElem_cons h2, List.set_cons_zero, List.getD_eq_getElem?_getD, List.getElem?_eq_getElem h1]
  simp only [Option.getD_some]
  rw [List.take_succ_eq_append_getElem h1, List.append_assoc]
  rfl

theorem cpy_seg (xs zs : List Int) {k n : Nat} (h1 : k + n ≤ xs.length) (_ : k + n ≤ zs.length) : putSeg (cpy xs zs k) k n ((xs.drop k).take n) = cpy xs zs (k + n) := by
  unfold putSeg cpy
  have e : (xs.take k).length = k := by rw [List.length_take]; omega
  rw [List.take_append_of_le_length (by omega), List.take_of_length_le (l := xs.take k) (by omega), List.drop_append, e, List.drop_eq_nil_of_le (as := xs.take k) (by omega), List.nil_append, List.drop_drop,
    show k + (k + n - k) = k + n from by omega, List.take_add]

theorem cpy_len (xs zs : List Int) {k n : Nat} (h1 : k ≤ xs.length) (h2 : zs.length = n) (h3 : k ≤ n) : (cpy xs zs k).length = n := by
  unfold cpy
  rw [List.length_append, List.length_take, List.length_drop]
  omega

end Go.Eng
