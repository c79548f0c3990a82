/- The table of this seat's types. Printed by mktab.py. -/
import Derived.Test.YtplnfdgokpgbcaaDoorEngE
import Derived.Lib.LaidTab
import Derived.Lib.ItoaNum
import Derived.Test.YtplnfdgokpgbcaaDoorRows
namespace Go.Proofs.YtplnfdgokpgbcaaDoor
open Go Go.Eng

def sgL : List Sg := [.none, .none, .i64, .i64, .bool, .u8, .none, .none, .none, .str, .none, .none, .none, .none, .none, .none, .none, .none, .none, .none, .none, .i32, .i8, .tab, .i16, .none, .gro, .ref, .gro, .ref, .ref, .ref, .ref, .ref, .ref, .ref, .ref, .ref, .ref, .ref, .ref, .ref, .ref, .ref, .ref, .row, .grid, .u16, .w10, .none, .pas, .ref, .pas, .ref, .ref, .none, .ref, .ref, .none, .none, .ref, .ref, .ref, .ref, .ref, .none, .ref, .ref, .none, .none, .ref, .spot, .spot, .none, .goat, .ref, .spot, .none, .goat, .ref, .ref, .ref, .ref, .ref, .none, .none, .none, .none, .none, .none, .none, .none, .ref, .none, .hur, .ref, .none, .hur, .ref, .ref, .ref, .ref, .ref, .ref, .none, .none, .ref, .ref, .none, .none, .none, .none, .none, .none, .none, .none, .ref, .none, .ref, .none, .none, .none, .ref, .none, .none, .none, .none, .ref, .none, .none, .none, .ref, .ref, .ref, .ref, .ref, .none, .ref, .ref, .ref, .u64, .none, .none, .none, .none, .none, .none, .none, .none, .none, .none, .none, .none, .none, .none, .none, .none, .none, .none, .u64, .none, .none, .none, .none, .none, .none, .none, .none, .none, .none, .none, .none, .u32, .none, .none, .none, .none, .none, .none, .none, .none, .none, .none, .none, .none, .none, .none, .none, .none, .none, .none, .none, .none, .none, .none, .none, .none, .none, .none, .none, .none, .none, .none, .none, .none, .none, .none, .none, .none, .none, .none, .none, .none, .ref, .ref, .ref]
def slL : List (Option TypeId) := [none, none, none, none, none, none, none, none, none, none, none, none, none, none, none, none, none, none, none, none, none, none, none, none, none, none, none, none, none, none, none, some 78, none, none, some 74, none, none, none, some 97, none, none, some 94, none, none, none, none, none, none, none, none, none, none, none, none, none, none, none, none, none, none, none, none, none, none, none, none, none, some 9, none, none, none, none, none, none, none, none, none, none, none, none, none, none, none, some 5, none, none, none, none, none, none, none, none, none, none, none, none, none, none, none, none, none, none, none, none, none, none, none, none, none, none, none, none, none, none, none, none, none, none, none, none, none, none, none, none, none, none, none, some 22, none, none, none, none, none, none, none, none, none, none, none, none, none, none, none, none, none, none, none, none, none, none, none, none, none, none, none, none, none, none, none, none, none, none, none, none, none, none, none, none, none, none, none, none, none, none, none, none, none, none, none, none, none, none, none, none, none, none, none, none, none, none, none, none, none, none, none, none, none, none, none, none, none, none, none, none, none, none, none, none, none, none, none, none, none, none, none, some 72]
def mpL : List (Option (TypeId × TypeId)) := [none, none, none, none, none, none, none, none, none, none, none, none, none, none, none, none, none, none, none, none, none, none, none, none, none, none, none, none, none, none, none, none, none, none, none, none, none, none, none, none, none, none, none, none, none, none, none, none, none, none, none, none, none, none, none, none, none, none, none, none, none, none, none, none, none, none, none, none, none, none, none, none, none, none, none, none, none, none, none, none, none, none, none, none, none, none, none, none, none, none, none, none, none, none, none, none, none, none, none, none, none, none, none, none, none, none, none, none, none, none, none, none, none, none, none, none, none, none, none, none, none, none, none, none, none, none, none, none, none, none, none, none, none, none, none, none, none, none, none, none, none, none, none, none, none, none, none, none, none, none, none, none, none, none, none, none, none, none, none, none, none, none, none, none, none, none, none, none, none, none, none, none, none, none, none, none, none, none, none, none, none, none, none, none, none, none, none, none, none, none, none, none, none, none, none, none, none, none, none, none, none, none, none, none, none, none, none, none, none, none, none, none, none, none, none, none]
def rcL : List (Option (List AV)) := [none, none, none, none, none, none, none, none, none, none, none, none, none, none, none, none, none, none, none, none, none, none, none, none, none, none, none, none, none, none, none, none, none, none, none, none, none, none, none, none, none, none, none, none, none, none, none, none, none, none, none, none, none, none, none, none, none, none, none, none, none, none, none, none, none, none, none, none, none, none, none, none, none, none, none, none, none, none, none, none, none, none, none, none, none, some [.np, .nsl], none, none, none, none, none, none, none, none, none, none, none, none, none, none, none, none, none, none, none, none, none, none, none, none, none, none, none, none, none, none, none, none, none, none, none, none, none, none, none, none, none, none, none, none, none, none, none, none, none, none, none, none, none, none, none, none, none, none, none, none, none, none, none, none, none, none, none, none, none, none, none, none, none, none, none, none, none, none, none, none, none, none, none, none, none, none, none, none, none, none, none, none, none, none, none, none, none, none, none, none, none, none, none, none, none, none, none, none, none, none, none, none, none, none, none, none, none, none, none, none, none, none, none, none, none, none, none, none, none, none]
def ptL : List (Option TypeId) := [none, none, none, none, none, none, none, none, none, none, none, none, none, none, none, none, none, none, none, none, none, none, none, none, none, none, none, none, none, none, none, none, none, none, none, none, none, none, none, none, none, none, none, none, none, none, none, none, none, none, none, none, none, none, none, none, none, none, none, none, none, none, none, none, none, none, none, none, none, none, none, none, none, none, none, none, none, none, none, none, none, none, some 85, none, none, none, none, none, none, none, none, none, none, none, none, none, none, none, none, none, none, none, none, none, none, none, none, none, none, none, none, none, none, none, none, none, none, none, none, none, none, none, none, none, none, none, none, none, none, none, none, none, none, none, none, none, none, none, none, none, none, none, none, none, none, none, none, none, none, none, none, none, none, none, none, none, none, none, none, none, none, none, none, none, none, none, none, none, none, none, none, none, none, none, none, none, none, none, none, none, none, none, none, none, none, none, none, none, none, none, none, none, none, none, none, none, none, none, none, none, none, none, none, none, none, none, none, none, none, none, none, none, none, none, none, none]
def Γ : Tab := { sg := fun t => sgL.getD t .none, sl := fun t => slL.getD t none, mp := fun t => mpL.getD t none, rc := fun t => rcL.getD t none, pt := fun t => ptL.getD t none, up := fun t => [150].contains t, ne := fun f => ([105] : List Nat).contains f }

theorem Γ_ty : ((List.range 216).all fun t => tyOk Tryd.prog Γ t) = true := by kernel_rfl
theorem Γ_sl : ((List.range 216).all fun t => match Γ.sl t with | some e => (match Tryd.prog.underlying t with | some (.slice e') => e' == e | _ => false) | none => true) = true := by kernel_rfl

theorem Γ_mp : ((List.range 216).all fun t => match Γ.mp t with | some (k, e) => (match Tryd.prog.underlying t with | some (.map k' e') => k' == k && e' == e | _ => false) && (Γ.sg k == .spot || Γ.sg k == .sp2) | none => true) = true := by kernel_rfl

theorem Γ_rc : ((List.range 216).all fun t => match Γ.rc t with | some zs => recOk Tryd.prog t zs | none => true) = true := by kernel_rfl
theorem Γ_pt : ((List.range 216).all fun t => match Γ.pt t with | some e => (match Tryd.prog.underlying t with | some (.pointer e') => e' == e | _ => false) && (match Tryd.prog.info? e with | some i => i.size != 0 | none => false) | none => true) = true := by kernel_rfl

theorem Γ_ok : TabOk Tryd.prog Γ where
  ty := fun t => by
    by_cases h : t < 216
    · exact List.all_eq_true.1 Γ_ty t (List.mem_range.2 h)
    · have : Γ.sg t = .none := by
        show sgL.getD t .none = .none
        rw [List.getD_eq_getElem?_getD, List.getElem?_eq_none (Nat.not_lt.1 h)]; rfl
      simp [tyOk, this]
  sl := fun t e h => by
    by_cases ht : t < 216
    · have := List.all_eq_true.1 Γ_sl t (List.mem_range.2 ht)
      rw [h] at this
      simp only at this
      split at this
      · rename_i e' he
        rw [he, eq_of_beq this]
      · cases this
    · exfalso
      have h2 : slL.getD t none = some e := h
      rw [List.getD_eq_getElem?_getD, List.getElem?_eq_none (Nat.not_lt.1 ht)] at h2
      cases h2
  mixed := by kernel_rfl
  mp := fun t k e h => by
    by_cases ht : t < 216
    · have := List.all_eq_true.1 Γ_mp t (List.mem_range.2 ht)
      rw [h] at this
      simp only [Bool.and_eq_true, Bool.or_eq_true] at this
      obtain ⟨h1, h2⟩ := this
      split at h1
      · rename_i k' e' he
        simp only [Bool.and_eq_true] at h1
        rw [he, eq_of_beq h1.1, eq_of_beq h1.2]
        exact ⟨rfl, h2.imp eq_of_beq eq_of_beq⟩
      · cases h1
    · exfalso
      have h2 : mpL.getD t none = some (k, e) := h
      rw [List.getD_eq_getElem?_getD, List.getElem?_eq_none (Nat.not_lt.1 ht)] at h2
      cases h2

  rc := fun t zs h => by
    by_cases ht : t < 216
    · have := List.all_eq_true.1 Γ_rc t (List.mem_range.2 ht)
      rw [h] at this
      exact this
    · exfalso
      have h2 : rcL.getD t none = some zs := h
      rw [List.getD_eq_getElem?_getD, List.getElem?_eq_none (Nat.not_lt.1 ht)] at h2
      cases h2
  pt := fun t e h => by
    by_cases ht : t < 216
    · have := List.all_eq_true.1 Γ_pt t (List.mem_range.2 ht)
      rw [h] at this
      simp only [Bool.and_eq_true] at this
      obtain ⟨h1, h2⟩ := this
      split at h1
      · rename_i e' he
        rw [he, eq_of_beq h1]
        refine ⟨rfl, ?_⟩
        split at h2
        · rename_i i hi
          exact ⟨i, hi, by simpa using h2⟩
        · cases h2
      · cases h1
    · exfalso
      have h2 : ptL.getD t none = some e := h
      rw [List.getD_eq_getElem?_getD, List.getElem?_eq_none (Nat.not_lt.1 ht)] at h2
      cases h2
  up := fun t h => by
    have e : t = 150 := by simpa [Γ] using h
    subst e
    exact Tryd.underlying150
  ne := fun f h x w => by
    have e : f = 105 := by simpa [Γ] using h
    subst e
    rw [run_callFunc_extern Tryd.func105 (by kernel_rfl) (by kernel_rfl) (by kernel_rfl) (e := Extern.AbiNoEscape.same) (by kernel_rfl), Lib.run_noEscape]
    rfl

/-- What the library's calls find in the world: the table of powers of ten, the cell of MaxLen, two errors. -/
def globFacts (w : World) : Prop := Lib.TabIs Tryd.prog w "internal/strconv.uint64pow10" .u64 Lib.pow10Tab ∧ (∃ m, w.cell? ⟨1, 0, none⟩ = some (.int .i64 m)) ∧
  (∃ tp p, w.var? Tryd.prog "strconv.ErrSyntax" = some #[.iface tp p]) ∧ (∃ tp p, w.var? Tryd.prog "strconv.ErrRange" = some #[.iface tp p])
def globG (F : Nat → Option Obj) : Prop := ∀ w : World, (∀ k o, F k = some o → w.heap[k]? = some o) → globFacts w
instance : Glob := { G := globG, mono := fun h g w hw => g w fun k o hk => hw k o (h k o hk) }
theorem var_mono {P : Program} {W w : World} (hw : ∀ (k : Nat) (o : Obj), W.heap[k]? = some o → w.heap[k]? = some o) {name : String} {cs : Array Value} (h : W.var? P name = some cs) : w.var? P name = some cs := by
  unfold World.var? at *
  cases hg : P.globalNamed name with
  | none => rw [hg] at h; exact h
  | some g =>
    rw [hg] at h
    cases hk : W.heap[g]? with
    | none => simp [hk] at h
    | some o =>
      have := hw g o hk
      simp only [Option.bind_some, hk] at h
      simp only [Option.bind_some, this]
      exact h
theorem cell_mono {W w : World} (hw : ∀ (k : Nat) (o : Obj), W.heap[k]? = some o → w.heap[k]? = some o) {a : Addr} {v : Value} (h : W.cell? a = some v) : w.cell? a = some v := by
  unfold World.cell? at *
  cases hk : W.heap[a.block]? with
  | none => simp [hk] at h
  | some o =>
    rw [hk] at h
    rw [hw _ o hk]; exact h
theorem globW {W : World} (h : globFacts W) : Glob.G fun k => W.heap[k]? := by
  intro w hw
  obtain ⟨h1, ⟨m, h2⟩, ⟨t, p, h3⟩, ⟨t', p', h4⟩⟩ := h
  exact ⟨var_mono hw h1, ⟨m, cell_mono hw h2⟩, ⟨t, p, var_mono hw h3⟩, ⟨t', p', var_mono hw h4⟩⟩
theorem laid_tail {P : Program} {x : String × DataW Unit} {rest : List (String × DataW Unit)} {W : World} (h : laidMet P (x :: rest) W) : laidMet P rest W := by
  obtain ⟨ps, ⟨g', t', cs, fuel, p, q, hg', ht', hvar, hd, hr, rfl⟩, hn, hc⟩ := h
  exact ⟨q, hr, (List.nodup_append.1 hn).2.1, fun b off hm => hc b off (List.mem_append_right _ hm)⟩
end Go.Proofs.YtplnfdgokpgbcaaDoor
