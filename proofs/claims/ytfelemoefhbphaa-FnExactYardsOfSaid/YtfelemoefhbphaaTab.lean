/- The table of this seat's types. Printed by mktab.py. -/
import Derived.Test.YtfelemoefhbphaaEngE
import Derived.Test.YtfelemoefhbphaaRows
namespace Go.Proofs.Ytfelemoefhbphaa
open Go Go.Eng

def sgL : List Sg := [.none, .none, .i64, .i64, .bool, .u8, .none, .none, .none, .str, .none, .none, .none, .none, .none, .none, .none, .none, .none, .none, .none, .i32, .i8, .i16, .row, .grid, .u16, .w10, .none, .pas, .spot, .spot, .ref, .none, .ref, .pas, .ref, .spot, .ref, .ref, .ref, .ref, .ref, .none, .ref, .ref, .ref, .ref, .none, .ref, .ref, .ref, .ref, .ref, .none, .ref, .tab, .none, .gro, .ref, .gro, .ref, .ref, .none, .ref, .none, .ref, .ref, .ref, .ref, .ref, .ref, .ref, .none, .ref, .ref, .ref, .ref, .ref, .ref, .ref, .none, .none, .ref, .ref, .ref, .ref, .l10, .lgrid, .none, .ref, .ref, .ref, .none, .none, .ref, .none, .none, .ref, .none, .none, .none, .none, .ref, .ref, .grid, .ref, .ref, .ref, .ref, .ref, .ref, .none, .hur, .ref, .ref, .ref, .ref, .none, .ref, .ref, .ref, .ref, .none, .none, .ref, .ref, .b10, .bgrid, .ref, .ref, .ref, .ref, .none, .ref, .ref, .ref, .ref, .ref, .ref, .ref, .ref, .none, .ref, .u64, .none, .ref, .ref, .none, .none, .ref, .ref, .ref, .ref, .ref, .ref, .ref, .none, .ref, .ref, .ref, .ref, .ref, .ref, .ref, .ref, .ref, .ref, .ref, .ref, .ref, .ref, .ref, .ref, .ref, .ref, .ref, .ref, .ref, .none, .none, .none, .none, .ref, .none, .ref, .ref, .none, .none, .ref, .ref, .ref, .none, .ref, .none, .u32, .none, .u64, .ref, .none, .ref, .ref, .ref, .ref, .ref, .none, .none, .none, .ref, .none, .ref, .ref, .ref, .none, .none, .ref, .ref]
def slL : List (Option TypeId) := [none, none, none, none, none, none, none, none, none, none, none, none, none, none, none, none, none, none, none, none, none, none, none, none, none, none, none, none, none, none, none, none, some 37, none, none, none, none, none, none, none, none, none, some 32, none, none, none, none, none, none, none, none, none, none, none, none, none, none, none, none, none, none, none, none, none, none, none, none, some 31, none, none, none, none, some 113, none, none, none, none, none, none, none, none, none, none, none, none, none, none, none, none, none, none, none, none, none, none, none, none, none, none, none, none, none, none, none, none, none, none, none, none, none, none, none, none, none, none, none, none, none, none, none, some 2, none, none, none, none, none, none, none, none, none, none, none, none, none, none, none, none, none, none, none, none, none, none, none, none, none, none, none, none, none, none, none, none, none, none, none, none, none, none, none, none, none, none, none, none, none, none, none, none, none, some 4, none, none, none, none, none, none, none, none, none, none, none, none, some 22, none, none, none, none, none, none, none, none, none, none, none, none, none, none, some 3, none, none, none, none, none, none, none, none, none, none, none, none, none, none, none, none, none, none]
def mpL : List (Option (TypeId × TypeId)) := [none, none, none, none, none, none, none, none, none, none, none, none, none, none, none, none, none, none, none, none, none, none, none, none, none, none, none, none, none, none, none, none, none, none, none, none, none, none, none, none, none, none, none, none, none, none, none, none, none, none, none, none, none, none, none, none, none, none, none, none, none, none, none, none, none, none, none, none, none, none, none, none, none, none, none, none, none, none, none, none, none, none, none, none, none, none, none, none, none, none, none, none, none, none, none, none, none, none, none, none, none, none, none, none, none, none, none, none, none, none, none, none, none, none, none, none, none, none, none, none, none, none, none, none, none, none, none, none, none, none, none, none, none, none, none, none, none, none, none, none, none, none, none, none, none, none, some (37, 4), none, none, none, none, none, none, none, none, none, none, none, some (37, 3), none, none, none, none, none, none, none, none, none, none, none, none, none, none, none, none, none, none, none, none, none, none, none, none, none, none, none, none, none, none, none, none, none, none, none, none, none, none, none, none, none, none, none, none, none, none, none, none, none, none, none, none, none, none, none, none, none, none]
def rcL : List (Option (List AV)) := []
def ptL : List (Option TypeId) := []
def Γ : Tab := { sg := fun t => sgL.getD t .none, sl := fun t => slL.getD t none, mp := fun t => mpL.getD t none, rc := fun t => rcL.getD t none, pt := fun t => ptL.getD t none, up := fun t => [232].contains t, ne := fun f => ([] : List Nat).contains f }

theorem Γ_ty : ((List.range 217).all fun t => tyOk Try.prog Γ t) = true := by kernel_rfl
theorem Γ_sl : ((List.range 217).all fun t => match Γ.sl t with | some e => (match Try.prog.underlying t with | some (.slice e') => e' == e | _ => false) | none => true) = true := by kernel_rfl

theorem Γ_mp : ((List.range 217).all fun t => match Γ.mp t with | some (k, e) => (match Try.prog.underlying t with | some (.map k' e') => k' == k && e' == e | _ => false) && (Γ.sg k == .spot || Γ.sg k == .sp2) | none => true) = true := by kernel_rfl

theorem Γ_rc : ((List.range 0).all fun t => match Γ.rc t with | some zs => recOk Try.prog t zs | none => true) = true := by kernel_rfl
theorem Γ_pt : ((List.range 0).all fun t => match Γ.pt t with | some e => (match Try.prog.underlying t with | some (.pointer e') => e' == e | _ => false) && (match Try.prog.info? e with | some i => i.size != 0 | none => false) | none => true) = true := by kernel_rfl

theorem Γ_ok : TabOk Try.prog Γ where
  ty := fun t => by
    by_cases h : t < 217
    · exact List.all_eq_true.1 Γ_ty t (List.mem_range.2 h)
    · have : Γ.sg t = .none := by
        show sgL.getD t .none = .none
        rw [List.getD_eq_getElem?_getD, List.getElem?_eq_none (Nat.not_lt.1 h)]; rfl
      simp [tyOk, this]
  sl := fun t e h => by
    by_cases ht : t < 217
    · have := List.all_eq_true.1 Γ_sl t (List.mem_range.2 ht)
      rw [h] at this
      simp only at this
      split at this
      · rename_i e' he
        rw [he, eq_of_beq this]
      · cases this
    · exfalso
      have h2 : slL.getD t none = some e := h
      rw [List.getD_eq_getElem?_getD, List.getElem?_eq_none (Nat.not_lt.1 ht)] at h2
      cases h2
  mixed := by kernel_rfl
  mp := fun t k e h => by
    by_cases ht : t < 217
    · have := List.all_eq_true.1 Γ_mp t (List.mem_range.2 ht)
      rw [h] at this
      simp only [Bool.and_eq_true, Bool.or_eq_true] at this
      obtain ⟨h1, h2⟩ := this
      split at h1
      · rename_i k' e' he
        simp only [Bool.and_eq_true] at h1
        rw [he, eq_of_beq h1.1, eq_of_beq h1.2]
        exact ⟨rfl, h2.imp eq_of_beq eq_of_beq⟩
      · cases h1
    · exfalso
      have h2 : mpL.getD t none = some (k, e) := h
      rw [List.getD_eq_getElem?_getD, List.getElem?_eq_none (Nat.not_lt.1 ht)] at h2
      cases h2

  rc := fun t zs h => by
    by_cases ht : t < 0
    · have := List.all_eq_true.1 Γ_rc t (List.mem_range.2 ht)
      rw [h] at this
      exact this
    · exfalso
      have h2 : rcL.getD t none = some zs := h
      rw [List.getD_eq_getElem?_getD, List.getElem?_eq_none (Nat.not_lt.1 ht)] at h2
      cases h2
  pt := fun t e h => by
    by_cases ht : t < 0
    · have := List.all_eq_true.1 Γ_pt t (List.mem_range.2 ht)
      rw [h] at this
      simp only [Bool.and_eq_true] at this
      obtain ⟨h1, h2⟩ := this
      split at h1
      · rename_i e' he
        rw [he, eq_of_beq h1]
        refine ⟨rfl, ?_⟩
        split at h2
        · rename_i i hi
          exact ⟨i, hi, by simpa using h2⟩
        · cases h2
      · cases h1
    · exfalso
      have h2 : ptL.getD t none = some e := h
      rw [List.getD_eq_getElem?_getD, List.getElem?_eq_none (Nat.not_lt.1 ht)] at h2
      cases h2
  up := fun t h => by
    have e : t = 232 := by simpa [Γ] using h
    subst e
    exact Try.underlying232
  ne := fun f h x w => by
    cases h

instance : Glob := { G := fun _ => True, mono := fun _ h => h, whole := true, tyOf := fun σ => match σ with | .spot => 37 | .hur => 113 | _ => 0 }
theorem globW (W : World) : Glob.G fun k => W.heap[k]? := trivial
end Go.Proofs.Ytfelemoefhbphaa
