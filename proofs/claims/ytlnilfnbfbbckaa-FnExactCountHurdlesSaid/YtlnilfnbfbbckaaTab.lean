/- The table of this seat's types. Printed by mktab.py. -/
import Derived.Test.YtlnilfnbfbbckaaEngE
import Derived.Test.YtlnilfnbfbbckaaRows
namespace Go.Proofs.Ytlnilfnbfbbckaa
open Go Go.Eng

def sgL : List Sg := [.none, .none, .i64, .i64, .bool, .u8, .none, .none, .none, .str, .none, .none, .none, .none, .none, .none, .none, .none, .none, .none, .none, .i32, .i8, .i16, .row, .grid, .u16, .w10, .none, .pas, .spot, .spot, .none, .hur, .ref, .pas, .ref, .spot, .none, .hur, .ref, .ref, .ref, .none, .ref, .ref, .ref, .ref, .none, .ref, .ref, .ref, .ref, .ref, .ref, .none, .ref, .ref, .ref, .ref, .none, .ref, .ref, .ref, .ref, .ref, .ref, .ref, .none, .ref, .ref, .ref, .tab, .none, .gro, .none, .ref, .gro, .ref, .ref, .ref, .ref, .ref, .ref, .ref, .none, .none, .ref, .ref, .ref, .ref, .ref, .ref, .ref, .ref, .ref, .ref, .ref, .ref, .none, .none, .none, .none, .none, .none, .ref, .ref, .ref, .ref, .l10, .lgrid, .ref, .grid, .ref, .ref, .ref, .ref, .ref, .ref, .ref, .ref, .ref, .none, .ref, .ref, .none, .ref, .u64, .ref, .ref, .none, .none, .ref, .none, .ref, .ref, .none, .ref, .ref, .ref, .ref, .ref, .ref, .b10, .bgrid, .ref, .ref, .ref, .ref, .ref, .ref, .ref, .none, .none, .ref, .none, .ref, .none, .none, .none, .none, .none, .none, .none, .none, .u32]
def slL : List (Option TypeId) := [none, none, none, none, none, none, none, none, none, none, none, none, none, none, none, none, none, none, none, none, none, none, none, none, none, none, none, none, none, none, none, none, none, none, none, none, none, none, none, none, none, none, some 37, none, none, none, none, none, none, none, some 31, none, none, none, none, none, none, none, none, none, none, none, none, none, none, none, none, some 39, none, none, none, none, none, none, none, none, none, none, none, none, none, none, none, none, none, none, none, none, none, none, none, none, none, none, none, none, none, none, none, none, none, none, none, none, none, none, none, none, none, none, none, none, none, none, none, none, none, none, none, none, none, none, none, none, none, none, none, none, none, none, none, none, none, none, none, some 2, none, none, none, none, none, none, none, none, none, none, none, none, none, none, none, some 4, none, none, some 22, none, none, none, none, none, none, none, none, none, none, none]
def Γ : Tab := { sg := fun t => sgL.getD t .none, sl := fun t => slL.getD t none }

theorem Γ_ty : ((List.range 166).all fun t => tyOk Try.prog Γ t) = true := by kernel_rfl
theorem Γ_sl : ((List.range 166).all fun t => match Γ.sl t with | some e => (match Try.prog.underlying t with | some (.slice e') => e' == e | _ => false) | none => true) = true := by kernel_rfl

theorem Γ_ok : TabOk Try.prog Γ where
  ty := fun t => by
    by_cases h : t < 166
    · exact List.all_eq_true.1 Γ_ty t (List.mem_range.2 h)
    · have : Γ.sg t = .none := by
        show sgL.getD t .none = .none
        rw [List.getD_eq_getElem?_getD, List.getElem?_eq_none (Nat.not_lt.1 h)]; rfl
      simp [tyOk, this]
  sl := fun t e h => by
    by_cases ht : t < 166
    · have := List.all_eq_true.1 Γ_sl t (List.mem_range.2 ht)
      rw [h] at this
      simp only at this
      split at this
      · rename_i e' he
        rw [he, eq_of_beq this]
      · cases this
    · exfalso
      have h2 : slL.getD t none = some e := h
      rw [List.getD_eq_getElem?_getD, List.getElem?_eq_none (Nat.not_lt.1 ht)] at h2
      cases h2
  mixed := by kernel_rfl

end Go.Proofs.Ytlnilfnbfbbckaa
