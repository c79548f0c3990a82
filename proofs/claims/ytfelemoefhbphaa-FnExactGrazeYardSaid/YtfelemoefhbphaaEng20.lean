/- The engine, part 20: what a row's argument is. No conditions. -/
import Derived.Test.YtfelemoefhbphaaEng19
import Derived.ProofKit
import Derived.OpenShut
import Derived.Below
import Derived.Carry
import Derived.SizedLaws
import Derived.ChangeOld
namespace Go.Eng
open Go Go.RowKit Go.ChangeShapes Go.WideShapes Go.ChangeAt
variable {P : Program} {Γ : Tab}

def CellsAt (σ : Sg) (cs : List Value) : Prop := cs.length = σ.n ∧ ∀ (j : Nat) (k : CK), σ.flat[j]? = some k → ∃ x, cs[j]? = some (k.val x) ∧ k.ok x

theorem TabOk.cells (H : TabOk P Γ) {t : TypeId} {σ : Sg} (h : Γ.sg t = σ) (hn : σ ≠ .none) : P.cellsOf t = σ.n := by
  obtain ⟨i, z, h1, h2, -, -⟩ := H.parts h hn
  simp [Program.cellsOf, h1, h2]

theorem fldAt_of : ∀ (fs : List Sg) (j : Nat), j < sumN fs → ∃ i o τ, fldAt fs i = some (o, τ) ∧ o ≤ j ∧ j < o + τ.n ∧ i < fs.length
  | [], j, h => by simp [sumN] at h
  | σ :: l, j, h => by
    by_cases hj : j < σ.n
    · exact ⟨0, 0, σ, rfl, Nat.zero_le _, by omega, by simp⟩
    · obtain ⟨i, o, τ, h1, h2, h3, h4⟩ := fldAt_of l (j - σ.n) (by simp only [sumN] at h; omega)
      exact ⟨i + 1, σ.n + o, τ, by simp [fldAt, h1], by omega, by omega, by simpa using h4⟩

theorem rng_wf {k : IntKind} {m : Int} (h : (Lit.int k m).wf = true) : rng k m := by
  simp only [Lit.wf, Bool.and_eq_true, decide_eq_true_eq] at h
  cases k <;> exact h

theorem wf_rng {k : IntKind} {m : Int} (h : rng k m) : (Lit.int k m).wf = true := by
  simp only [Lit.wf, Bool.and_eq_true, decide_eq_true_eq]
  cases k <;> exact h

theorem cells_of {ks : List CK} : ∀ {cs : List Value}, cs.length = ks.length → (∀ (j : Nat) (k : CK), ks[j]? = some k → ∃ x, cs[j]? = some (k.val x) ∧ k.ok x) → ∃ xs, cs = cellsV ks xs ∧ xs.length = ks.length ∧ cellsOk ks xs := by
  induction ks with
  | nil => intro cs hl _; exact ⟨[], (by rw [List.length_nil, List.length_eq_zero_iff] at hl; rw [hl]; rfl), rfl, trivial⟩
  | cons k ks ih =>
    intro cs hl h
    cases cs with
    | nil => simp at hl
    | cons c cs =>
      obtain ⟨x, h1, h2⟩ := h 0 k rfl
      obtain ⟨xs, e, hl2, hok⟩ := ih (cs := cs) (by simpa using hl) (fun j k' hj => by simpa using h (j + 1) k' (by simpa using hj))
      simp only [List.getElem?_cons_zero, Option.some.injEq] at h1
      exact ⟨x :: xs, by rw [h1, e]; rfl, by simp [hl2], h2, hok⟩

theorem Sg.pure_ne {σ : Sg} (h : σ.pure = true) (hf : 0 < σ.n) : σ ≠ .none := by rintro rfl; cases hf

section
variable {H : Type} {enc : TypeId × Value → H} {w : World} {base : Nat} {spare : Nat → Bool} {held : Bool}

theorem flatMap_nil {α β : Type} {l : List α} {f : α → List β} (h : ∀ (i : Nat) (x : α), l[i]? = some x → f x = []) : l.flatMap f = [] := by
  rw [List.flatMap_eq_nil_iff]
  intro x hx
  obtain ⟨i, hi, e⟩ := List.getElem_of_mem hx
  exact h i x (by rw [List.getElem?_eq_getElem hi, e])

theorem trod_pure (T : TabOk P Γ) : ∀ (fuel : Nat) (t : TypeId) (σ : Sg) (cs : List Value) (x : DataW H × List MemPlace), Γ.sg t = σ → σ.pure = true → σ ≠ .none →
    DataW.trod enc P w base spare held fuel t cs = some x → CellsAt σ cs ∧ x.2 = [] := by
  intro fuel
  induction fuel with
  | zero => intro t σ cs x _ _ _ h; simp [DataW.trod] at h
  | succ n ih =>
    intro t σ cs x ht hp hn h
    have hcell := T.cells ht hn
    cases hi : σ.inf with
    | cell k =>
      have hu := T.cell ht hi
      obtain ⟨hf, hn1, -⟩ := Sg.cell_flat σ k hi
      have one : ∀ v : Value, (∃ z, v = k.val z ∧ k.ok z) → CellsAt σ [v] := by
        rintro v ⟨z, rfl, hz⟩
        refine ⟨by rw [hn1]; rfl, fun j k' hj => ?_⟩
        rw [hf] at hj
        cases j with
        | zero =>
          simp only [List.getElem?_cons_zero, Option.some.injEq] at hj
          subst hj
          exact ⟨z, rfl, hz⟩
        | succ j => simp at hj
      cases k with
      | int k =>
        obtain ⟨m, rfl, rfl, hw⟩ := DataW.trod_int hu h
        refine ⟨one _ ⟨m, rfl, ?_⟩, rfl⟩
        exact rng_wf hw
      | bool =>
        obtain ⟨b, rfl, rfl⟩ := DataW.trod_bool hu h
        refine ⟨one _ ⟨if b then 1 else 0, ?_, ?_⟩, rfl⟩
        · cases b <;> rfl
        · cases b
          · exact .inl rfl
          · exact .inr rfl
    | arr m e =>
      obtain ⟨hf, hnn, hpe, he0⟩ := Sg.arr_flat σ e m hi
      obtain ⟨t', hu, ht', -⟩ := T.arr ht hi
      obtain ⟨xs, n', hn', rfl, hl, hxs, hx⟩ := DataW.trod_array hu h
      cases hn'
      have hce := T.cells ht' (Sg.pure_ne hpe he0)
      have key : ∀ i, i < m → ∃ y, xs[i]? = some y ∧ CellsAt e ((cs.drop (i * e.n)).take e.n) ∧ y.2 = [] := by
        intro i hi
        have := hx i hi
        rw [List.getElem?_eq_getElem (by omega), hce] at this
        have h2 := ih t' e _ _ ht' hpe (Sg.pure_ne hpe he0) this
        exact ⟨_, List.getElem?_eq_getElem (by omega), h2⟩
      refine ⟨⟨by rw [hl, hcell], fun j k hj => ?_⟩, ?_⟩
      · have hjl : j < m * e.n := by
          have := (List.getElem?_eq_some_iff.1 hj).1
          rw [Sg.flat_len σ hp, hnn] at this
          exact this
        have hdiv : j / e.n < m := by rw [Nat.div_lt_iff_lt_mul he0]; exact hjl
        have hmod := Nat.mod_lt j he0
        have hsum : j / e.n * e.n + j % e.n = j := by rw [Nat.mul_comm]; exact Nat.div_add_mod j e.n
        obtain ⟨y, -, ⟨hl2, hc⟩, -⟩ := key (j / e.n) hdiv
        rw [hf] at hj
        have hr := rep_get e.flat m (j / e.n) (j % e.n) hdiv (by rw [Sg.flat_len e hpe]; exact hmod)
        rw [Sg.flat_len e hpe, hsum] at hr
        rw [hr] at hj
        obtain ⟨z, hz, hk⟩ := hc _ _ hj
        rw [List.getElem?_take_of_lt hmod, List.getElem?_drop, hsum] at hz
        exact ⟨z, hz, hk⟩
      · refine flatMap_nil fun i y hy => ?_
        have hil : i < m := by have := (List.getElem?_eq_some_iff.1 hy).1; omega
        obtain ⟨y', hy', -, h3⟩ := key i hil
        rw [hy] at hy'
        cases hy'
        exact h3
    | st fs =>
      obtain ⟨hf, hnn, hpf⟩ := Sg.st_flat σ fs hi
      obtain ⟨gs, hu, hgs, -, -⟩ := T.st ht hn hi
      obtain ⟨xs, n', hn', rfl, hl, hxs, hx⟩ := DataW.trod_struct hu h
      cases hn'
      have hlen : gs.size = fs.length := by
        unfold fldsOk at hgs
        simp only [Bool.and_eq_true, beq_iff_eq] at hgs
        exact hgs.1
      have key : ∀ i o τ, fldAt fs i = some (o, τ) → ∃ y, xs[i]? = some y ∧ (0 < τ.n → CellsAt τ ((cs.drop o).take τ.n)) ∧ (0 < τ.n → y.2 = []) := by
        intro i o τ hfl
        obtain ⟨g, hg, ho, hτ, -⟩ := fldsOk_at hgs hfl
        have hil : i < xs.length := by have := (Array.getElem?_eq_some_iff.1 hg).1; omega
        refine ⟨_, List.getElem?_eq_getElem hil, ?_⟩
        have := hx i g hg
        rw [List.getElem?_eq_getElem hil] at this
        have aux : 0 < τ.n → CellsAt τ ((cs.drop o).take τ.n) ∧ (xs[i]).2 = [] := by
          intro h0
          have hne := Sg.pure_ne (hpf τ (fldAt_mem' hfl)) h0
          rw [T.cells hτ hne, ho] at this
          exact ih g.type τ _ _ hτ (hpf τ (fldAt_mem' hfl)) hne this
        exact ⟨fun h0 => (aux h0).1, fun h0 => (aux h0).2⟩
      refine ⟨⟨by rw [hl, hcell], fun j k hj => ?_⟩, ?_⟩
      · have hjl : j < sumN fs := by
          have := (List.getElem?_eq_some_iff.1 hj).1
          rw [Sg.flat_len σ hp, hnn] at this
          exact this
        obtain ⟨i, o, τ, hfl, h1, h2, -⟩ := fldAt_of fs j hjl
        obtain ⟨y, -, hc, -⟩ := key i o τ hfl
        obtain ⟨hl2, hc⟩ := hc (by omega)
        have hg := (flats_fld fs i o τ hpf hfl).2 (j - o) (by omega)
        rw [show o + (j - o) = j from by omega, ← hf, hj] at hg
        obtain ⟨z, hz, hk⟩ := hc _ _ hg.symm
        rw [List.getElem?_take_of_lt (by omega), List.getElem?_drop, show o + (j - o) = j from by omega] at hz
        exact ⟨z, hz, hk⟩
      · refine flatMap_nil fun i y hy => ?_
        have hil : i < fs.length := by have := (List.getElem?_eq_some_iff.1 hy).1; omega
        obtain ⟨o, τ, hfl⟩ := fldAt_some' fs i hil
        obtain ⟨y', hy', -, h3⟩ := key i o τ hfl
        rw [hy] at hy'
        cases hy'
        exact h3 (Sg.st_pos' σ fs hi τ (fldAt_mem' hfl))
    | str => cases σ <;> simp [Sg.inf] at hi <;> simp [Sg.pure] at hp
    | ref => cases σ <;> simp [Sg.inf] at hi <;> simp [Sg.pure] at hp

theorem open_agg (T : TabOk P Γ) {t : TypeId} {σ : Sg} {r : Reach} {b0 : Nat} {v : Value} {d : DataW H} {ps : List MemPlace} (ht : Γ.sg t = σ) (hp : σ.pure = true) (hn : σ ≠ .none)
    (hi : (match σ.inf with | .arr _ _ => true | .st _ => true | _ => false) = true)
    (hval : Value.okWide P w r b0 t v) (hd : DataW.Trod enc P w base spare held t v d ps) :
    ∃ xs, v = .agg (cellsV σ.flat xs).toArray ∧ ps = [] ∧ xs.length = σ.n ∧ cellsOk σ.flat xs := by
  obtain ⟨fuel, hf⟩ := hd
  obtain ⟨⟨h1, h2⟩, h3⟩ := trod_pure T fuel t σ _ _ ht hp hn hf
  have hag : ∃ cs, v = .agg cs := by
    unfold Value.okWide at hval
    cases hc : σ.inf with
    | arr n e =>
      obtain ⟨t', hu, -, -⟩ := T.arr ht hc
      rw [hu] at hval
      obtain ⟨cs, e, -⟩ := hval
      exact ⟨cs, e⟩
    | st fs =>
      obtain ⟨gs, hu, -, -, -⟩ := T.st ht hn hc
      rw [hu] at hval
      obtain ⟨cs, e, -⟩ := hval
      exact ⟨cs, e⟩
    | _ => rw [hc] at hi; cases hi
  obtain ⟨cs, rfl⟩ := hag
  obtain ⟨xs, e, hl, hok⟩ := cells_of (ks := σ.flat) (cs := cs.toList) (by rw [Sg.flat_len σ hp]; exact h1) h2
  refine ⟨xs, ?_, h3, by rw [hl, Sg.flat_len σ hp], hok⟩
  rw [← e]

end

/-- The value whose cells are all zero. -/
def zeroV (σ : Sg) : Value := .agg (cellsV σ.flat (List.replicate σ.n 0)).toArray

/-- What was there before is as it was. -/
theorem After.below {ρ ρ' : Rho} {M' : List Blk} {w w' : World} (h : After ρ [] M' w w' ρ') : Below w.heap.size w w' :=
  ⟨h.os, h.tape, h.output, h.size, fun b hb => h.frame b hb fun id hl => by have := hl.lt; simp at this⟩

theorem mrel_nil {ρ : Rho} {w : World} (h : ∀ k o, ρ.F k = some o → w.heap[k]? = some o) : MRel ρ [] w := ⟨fun _ _ h => (by simp at h), fun _ _ h => by have := h.lt; simp at this, fun _ _ h => (by simp at h), fun k o hk => ⟨h k o hk, fun i hi => by have := hi.lt; simp at this⟩⟩

end Go.Eng
