/- The engine, texts 20 20b 21 22 23 23b. No conditions. -/
import Derived.Test.YtplnfdgokpgbcaaDoorEngE
import Derived.ProofKit
import Derived.OpenShut
import Derived.Below
import Derived.Carry
import Derived.SizedLaws
import Derived.ChangeOld
import Derived.ChangeSlices
import Derived.SliceStrings
import Derived.ChangeMaps5
/- The engine, part 20: what a row's argument is. No conditions. -/
namespace Go.Eng
open Go Go.RowKit Go.ChangeShapes Go.WideShapes Go.ChangeAt
set_option linter.unusedSectionVars false
variable [Glob]
variable {P : Program} {Γ : Tab}

def CellsAt (σ : Sg) (cs : List Value) : Prop := cs.length = σ.n ∧ ∀ (j : Nat) (k : CK), σ.flat[j]? = some k → ∃ x, cs[j]? = some (k.val x) ∧ k.ok x

theorem TabOk.cells (H : TabOk P Γ) {t : TypeId} {σ : Sg} (h : Γ.sg t = σ) (hn : σ ≠ .none) : P.cellsOf t = σ.n := by
  obtain ⟨i, z, h1, h2, -, -⟩ := H.parts h hn
  simp [Program.cellsOf, h1, h2]

theorem fldAt_of : ∀ (fs : List Sg) (j : Nat), j < sumN fs → ∃ i o τ, fldAt fs i = some (o, τ) ∧ o ≤ j ∧ j < o + τ.n ∧ i < fs.length
  | [], j, h => by simp [sumN] at h
  | σ :: l, j, h => by
    by_cases hj : j < σ.n
    · exact ⟨0, 0, σ, rfl, Nat.zero_le _, by omega, by simp⟩
    · obtain ⟨i, o, τ, h1, h2, h3, h4⟩ := fldAt_of l (j - σ.n) (by simp only [sumN] at h; omega)
      exact ⟨i + 1, σ.n + o, τ, by simp [fldAt, h1], by omega, by omega, by simpa using h4⟩

theorem rng_wf {k : IntKind} {m : Int} (h : (Lit.int k m).wf = true) : rng k m := by
  simp only [Lit.wf, Bool.and_eq_true, decide_eq_true_eq] at h
  cases k <;> exact h

theorem wf_rng {k : IntKind} {m : Int} (h : rng k m) : (Lit.int k m).wf = true := by
  simp only [Lit.wf, Bool.and_eq_true, decide_eq_true_eq]
  cases k <;> exact h

theorem cells_of {ks : List CK} : ∀ {cs : List Value}, cs.length = ks.length → (∀ (j : Nat) (k : CK), ks[j]? = some k → ∃ x, cs[j]? = some (k.val x) ∧ k.ok x) → ∃ xs, cs = cellsV ks xs ∧ xs.length = ks.length ∧ cellsOk ks xs := by
  induction ks with
  | nil => intro cs hl _; exact ⟨[], (by rw [List.length_nil, List.length_eq_zero_iff] at hl; rw [hl]; rfl), rfl, trivial⟩
  | cons k ks ih =>
    intro cs hl h
    cases cs with
    | nil => simp at hl
    | cons c cs =>
      obtain ⟨x, h1, h2⟩ := h 0 k rfl
      obtain ⟨xs, e, hl2, hok⟩ := ih (cs := cs) (by simpa using hl) (fun j k' hj => by simpa using h (j + 1) k' (by simpa using hj))
      simp only [List.getElem?_cons_zero, Option.some.injEq] at h1
      exact ⟨x :: xs, by rw [h1, e]; rfl, by simp [hl2], h2, hok⟩

theorem Sg.pure_ne {σ : Sg} (h : σ.pure = true) (hf : 0 < σ.n) : σ ≠ .none := by rintro rfl; cases hf

section
variable {H : Type} {enc : TypeId × Value → H} {w : World} {base : Nat} {spare : Nat → Bool} {held : Bool}

theorem flatMap_nil {α β : Type} {l : List α} {f : α → List β} (h : ∀ (i : Nat) (x : α), l[i]? = some x → f x = []) : l.flatMap f = [] := by
  rw [List.flatMap_eq_nil_iff]
  intro x hx
  obtain ⟨i, hi, e⟩ := List.getElem_of_mem hx
  exact h i x (by rw [List.getElem?_eq_getElem hi, e])

theorem trod_pure (T : TabOk P Γ) : ∀ (fuel : Nat) (t : TypeId) (σ : Sg) (cs : List Value) (x : DataW H × List MemPlace), Γ.sg t = σ → σ.pure = true → σ ≠ .none →
    DataW.trod enc P w base spare held fuel t cs = some x → CellsAt σ cs ∧ x.2 = [] := by
  intro fuel
  induction fuel with
  | zero => intro t σ cs x _ _ _ h; simp [DataW.trod] at h
  | succ n ih =>
    intro t σ cs x ht hp hn h
    have hcell := T.cells ht hn
    cases hi : σ.inf with
    | cell k =>
      have hu := T.cell ht hi
      obtain ⟨hf, hn1, -⟩ := Sg.cell_flat σ k hi
      have one : ∀ v : Value, (∃ z, v = k.val z ∧ k.ok z) → CellsAt σ [v] := by
        rintro v ⟨z, rfl, hz⟩
        refine ⟨by rw [hn1]; rfl, fun j k' hj => ?_⟩
        rw [hf] at hj
        cases j with
        | zero =>
          simp only [List.getElem?_cons_zero, Option.some.injEq] at hj
          subst hj
          exact ⟨z, rfl, hz⟩
        | succ j => simp at hj
      cases k with
      | int k =>
        obtain ⟨m, rfl, rfl, hw⟩ := DataW.trod_int hu h
        refine ⟨one _ ⟨m, rfl, ?_⟩, rfl⟩
        exact rng_wf hw
      | bool =>
        obtain ⟨b, rfl, rfl⟩ := DataW.trod_bool hu h
        refine ⟨one _ ⟨if b then 1 else 0, ?_, ?_⟩, rfl⟩
        · cases b <;> rfl
        · cases b
          · exact .inl rfl
          · exact .inr rfl
    | arr m e =>
      obtain ⟨hf, hnn, hpe, he0⟩ := Sg.arr_flat σ e m hi
      obtain ⟨t', hu, ht', -⟩ := T.arr ht hi
      obtain ⟨xs, n', hn', rfl, hl, hxs, hx⟩ := DataW.trod_array hu h
      cases hn'
      have hce := T.cells ht' (Sg.pure_ne hpe he0)
      have key : ∀ i, i < m → ∃ y, xs[i]? = some y ∧ CellsAt e ((cs.drop (i * e.n)).take e.n) ∧ y.2 = [] := by
        intro i hi
        have := hx i hi
        rw [List.getElem?_eq_getElem (by omega), hce] at this
        have h2 := ih t' e _ _ ht' hpe (Sg.pure_ne hpe he0) this
        exact ⟨_, List.getElem?_eq_getElem (by omega), h2⟩
      refine ⟨⟨by rw [hl, hcell], fun j k hj => ?_⟩, ?_⟩
      · have hjl : j < m * e.n := by
          have := (List.getElem?_eq_some_iff.1 hj).1
          rw [Sg.flat_len σ hp, hnn] at this
          exact this
        have hdiv : j / e.n < m := by rw [Nat.div_lt_iff_lt_mul he0]; exact hjl
        have hmod := Nat.mod_lt j he0
        have hsum : j / e.n * e.n + j % e.n = j := by rw [Nat.mul_comm]; exact Nat.div_add_mod j e.n
        obtain ⟨y, -, ⟨hl2, hc⟩, -⟩ := key (j / e.n) hdiv
        rw [hf] at hj
        have hr := rep_get e.flat m (j / e.n) (j % e.n) hdiv (by rw [Sg.flat_len e hpe]; exact hmod)
        rw [Sg.flat_len e hpe, hsum] at hr
        rw [hr] at hj
        obtain ⟨z, hz, hk⟩ := hc _ _ hj
        rw [List.getElem?_take_of_lt hmod, List.getElem?_drop, hsum] at hz
        exact ⟨z, hz, hk⟩
      · refine flatMap_nil fun i y hy => ?_
        have hil : i < m := by have := (List.getElem?_eq_some_iff.1 hy).1; omega
        obtain ⟨y', hy', -, h3⟩ := key i hil
        rw [hy] at hy'
        cases hy'
        exact h3
    | st fs =>
      obtain ⟨hf, hnn, hpf⟩ := Sg.st_flat σ fs hi
      obtain ⟨gs, hu, hgs, -, -⟩ := T.st ht hn hi
      obtain ⟨xs, n', hn', rfl, hl, hxs, hx⟩ := DataW.trod_struct hu h
      cases hn'
      have hlen : gs.size = fs.length := by
        unfold fldsOk at hgs
        simp only [Bool.and_eq_true, beq_iff_eq] at hgs
        exact hgs.1
      have key : ∀ i o τ, fldAt fs i = some (o, τ) → ∃ y, xs[i]? = some y ∧ (0 < τ.n → CellsAt τ ((cs.drop o).take τ.n)) ∧ (0 < τ.n → y.2 = []) := by
        intro i o τ hfl
        obtain ⟨g, hg, ho, hτ, -⟩ := fldsOk_at hgs hfl
        have hil : i < xs.length := by have := (Array.getElem?_eq_some_iff.1 hg).1; omega
        refine ⟨_, List.getElem?_eq_getElem hil, ?_⟩
        have := hx i g hg
        rw [List.getElem?_eq_getElem hil] at this
        have aux : 0 < τ.n → CellsAt τ ((cs.drop o).take τ.n) ∧ (xs[i]).2 = [] := by
          intro h0
          have hne := Sg.pure_ne (hpf τ (fldAt_mem' hfl)) h0
          rw [T.cells hτ hne, ho] at this
          exact ih g.type τ _ _ hτ (hpf τ (fldAt_mem' hfl)) hne this
        exact ⟨fun h0 => (aux h0).1, fun h0 => (aux h0).2⟩
      refine ⟨⟨by rw [hl, hcell], fun j k hj => ?_⟩, ?_⟩
      · have hjl : j < sumN fs := by
          have := (List.getElem?_eq_some_iff.1 hj).1
          rw [Sg.flat_len σ hp, hnn] at this
          exact this
        obtain ⟨i, o, τ, hfl, h1, h2, -⟩ := fldAt_of fs j hjl
        obtain ⟨y, -, hc, -⟩ := key i o τ hfl
        obtain ⟨hl2, hc⟩ := hc (by omega)
        have hg := (flats_fld fs i o τ hpf hfl).2 (j - o) (by omega)
        rw [show o + (j - o) = j from by omega, ← hf, hj] at hg
        obtain ⟨z, hz, hk⟩ := hc _ _ hg.symm
        rw [List.getElem?_take_of_lt (by omega), List.getElem?_drop, show o + (j - o) = j from by omega] at hz
        exact ⟨z, hz, hk⟩
      · refine flatMap_nil fun i y hy => ?_
        have hil : i < fs.length := by have := (List.getElem?_eq_some_iff.1 hy).1; omega
        obtain ⟨o, τ, hfl⟩ := fldAt_some' fs i hil
        obtain ⟨y', hy', -, h3⟩ := key i o τ hfl
        rw [hy] at hy'
        cases hy'
        exact h3 (Sg.st_pos' σ fs hi τ (fldAt_mem' hfl))
    | str => cases σ <;> simp [Sg.inf] at hi <;> simp [Sg.pure] at hp
    | ref => cases σ <;> simp [Sg.inf] at hi <;> simp [Sg.pure] at hp

theorem open_agg (T : TabOk P Γ) {t : TypeId} {σ : Sg} {r : Reach} {b0 : Nat} {v : Value} {d : DataW H} {ps : List MemPlace} (ht : Γ.sg t = σ) (hp : σ.pure = true) (hn : σ ≠ .none)
    (hi : (match σ.inf with | .arr _ _ => true | .st _ => true | _ => false) = true)
    (hval : Value.okWide P w r b0 t v) (hd : DataW.Trod enc P w base spare held t v d ps) :
    ∃ xs, v = .agg (cellsV σ.flat xs).toArray ∧ ps = [] ∧ xs.length = σ.n ∧ cellsOk σ.flat xs := by
  obtain ⟨fuel, hf⟩ := hd
  obtain ⟨⟨h1, h2⟩, h3⟩ := trod_pure T fuel t σ _ _ ht hp hn hf
  have hag : ∃ cs, v = .agg cs := by
    unfold Value.okWide at hval
    cases hc : σ.inf with
    | arr n e =>
      obtain ⟨t', hu, -, -⟩ := T.arr ht hc
      rw [hu] at hval
      obtain ⟨cs, e, -⟩ := hval
      exact ⟨cs, e⟩
    | st fs =>
      obtain ⟨gs, hu, -, -, -⟩ := T.st ht hn hc
      rw [hu] at hval
      obtain ⟨cs, e, -⟩ := hval
      exact ⟨cs, e⟩
    | _ => rw [hc] at hi; cases hi
  obtain ⟨cs, rfl⟩ := hag
  obtain ⟨xs, e, hl, hok⟩ := cells_of (ks := σ.flat) (cs := cs.toList) (by rw [Sg.flat_len σ hp]; exact h1) h2
  refine ⟨xs, ?_, h3, by rw [hl, Sg.flat_len σ hp], hok⟩
  rw [← e]

end

/-- The value whose cells are all zero. -/
def zeroV (σ : Sg) : Value := .agg (cellsV σ.flat (List.replicate σ.n 0)).toArray

/-- What was there before is as it was. -/
theorem After.below {ρ ρ' : Rho} {M' : List Blk} {w w' : World} (h : After ρ [] M' w w' ρ') : Below w.heap.size w w' :=
  ⟨h.os, h.tape, h.output, h.size, fun b hb => h.frame b hb fun id hl => by have := hl.lt; simp at this⟩

theorem mrel_nil {ρ : Rho} {w : World} (h : ∀ k o, ρ.F k = some o → w.heap[k]? = some o) : MRel ρ [] w := ⟨fun _ _ h => (by simp at h), fun _ _ h => by have := h.lt; simp at this, fun _ _ h => (by simp at h), fun k o hk => ⟨h k o hk, fun i hi => by have := hi.lt; simp at this⟩⟩

end Go.Eng

/- The engine, part 20b: rows are frozen on the way and at the end. No conditions. -/
namespace Go.Eng
open Go Go.RowKit
set_option linter.unusedSectionVars false
variable [Glob]
variable {P : Program} {Γ : Tab}

def frzB (z : Bool) (rs : List AV) (M : List Blk) : Option (List AV × List Blk) :=
  match z with
  | true => frzL rs M
  | false => some (rs, M)

variable {fn : FuncId} {m : Nat} {R : AV → List Blk → Prop}

theorem Goes.retZ (H : TabOk P Γ) (z : Bool) {f : Func} (hf : P.funcs[fn]? = some f) {fr : List AV} {M M' : List Blk} {rs rs' : List AV} {r : AV}
    (h : evResL Γ fr M f.results.toList = some rs) (hz : frzB z rs M = some (rs', M')) (ht : tupAV rs' = some r) (hR : R r M') : (∀ k, Goes P fn m (.code .ret :: k) fr M R) ∧ Goes P fn m [] fr M R := by
  have key : ∀ (ρ : Rho) (a : Act) (w : World), m ≤ M.length → FRel ρ M.length fr a → MRel ρ M w → ∃ v ρ', (results f a.tmps).run P w = .ok v w ∧ Den ρ' r v ∧ (∀ i ∈ r.ids, i < M'.length) ∧ AfterM m ρ M M' w w ρ' := by
    intro ρ a w hm0 hF hM
    obtain ⟨vs, hvs, hd, hi⟩ := evResL_sound H hF hM h
    have hres : ∀ rs'' : List AV, ∀ ρ' : Rho, Dens ρ' rs'' vs → (∀ q ∈ rs'', ∀ i ∈ q.ids, i < M'.length) → tupAV rs'' = some r → ∃ v, (results f a.tmps).run P w = .ok v w ∧ Den ρ' r v ∧ ∀ i ∈ r.ids, i < M'.length := by
      intro rs'' ρ' hd' hi' ht'
      obtain ⟨h1, h2⟩ := tup_sound ht' hd' hi'
      refine ⟨_, ?_, h1, h2⟩
      rw [results_eq, Array.mapM_eq_mapM_toList, Sem.run_bind]
      have : ((List.toArray <$> List.mapM (resOf a.tmps) f.results.toList).run P w) = .ok vs.toArray w := by
        rw [← bind_pure_comp, Sem.run_bind, hvs]; rfl
      rw [this]
      rfl
    cases z with
    | false =>
      cases hz
      obtain ⟨v, h1, h2, h3⟩ := hres _ ρ hd hi ht
      exact ⟨v, ρ, h1, h2, h3, AfterM.refl hm0 hM⟩
    | true =>
      obtain ⟨ρ', k1, k2, k3, k4, k5⟩ := frzL_sound hM hd hi hz
      obtain ⟨v, h1, h2, h3⟩ := hres _ ρ' k2 k3 ht
      exact ⟨v, ρ', h1, h2, h3, k1.comp hm0 (AfterM.refl (by omega) k1.rel)⟩
  constructor
  · intro k ρ a w b cs hm0 hb hk hF hd hM
    obtain ⟨v, ρ', h1, h2, h3, h4⟩ := key ρ a w hm0 hF hM
    exact ⟨v, w, _, ρ', r, M', .one step_ret, hb, ⟨rfl, hd, hk, f, by rw [← hb] at hf; exact hf, h1⟩, hR, h2, h4, h3⟩
  · intro ρ a w b cs hm0 hb hk hF hd hM
    obtain ⟨v, ρ', h1, h2, h3, h4⟩ := key ρ a w hm0 hF hM
    exact ⟨v, w, _, ρ', r, M', .one step_end, hb, ⟨rfl, hd, hk, f, by rw [← hb] at hf; exact hf, h1⟩, hR, h2, h4, h3⟩

/-- A row is frozen on the way. -/
theorem Goes.freeze {todo : List Item} {fr : List AV} {M : List Blk} (t id n : Nat) (σ : Sg) (e : TypeId) {c : Cn} (hf : fr.getD t .any = .ow id n σ e) (hc : srcOf M (.ow id n σ e) = some c)
    (g : Goes P fn m todo (fr.set t (frz c)) (M.set id .dead) R) (hty : frzOk σ e = true := by rfl) : Goes P fn m todo fr M R := by
  intro ρ a w b cs hm0 hb hk hF hd hM
  have hm := own_src hM hc
  have hdt := hF.den t
  rw [hf] at hdt
  obtain ⟨ρ1, h1, h2, h3⟩ := After.freeze hM hm hdt (frzOk_h hty)
  have h3' : Den ρ1 (frz c) (a.tmps.getD t undef) := by cases c <;> exact h3
  have e1 : ∀ s, (fr.set t (frz c)).getD s .any = if t = s ∧ s < fr.length then frz c else fr.getD s .any := by
    intro s
    rw [List.getD_eq_getElem?_getD, List.getD_eq_getElem?_getD, List.getElem?_set]
    by_cases hs : t = s
    · subst hs
      by_cases hl : t < fr.length
      · simp [hl]
      · simp [hl]
    · simp [hs]
  have hF1 : FRel ρ1 (M.set id .dead).length (fr.set t (frz c)) a := by
    refine ⟨by rw [List.length_set]; exact hF.size, fun s => ?_, fun s i hi => ?_⟩
    · rw [e1]
      split
      · rename_i hs; rw [← hs.1]; exact h3'
      · exact (hF.den s).congr h1.fmono (fun id _ => h2 id)
    · rw [e1] at hi
      rw [List.length_set]
      split at hi
      · rw [frz_ids] at hi; cases hi
      · exact hF.ids s i hi
  obtain ⟨v, w', fr2, ρ', r, M2, hs, q1, q2, q3, q4, q5, q6⟩ := g ρ1 a w b cs (by simpa using hm0) hb hk hF1 hd h1.rel
  exact ⟨v, w', fr2, ρ', r, M2, hs, q1, q2, q3, q4, h1.comp hm0 q5, q6⟩

end Go.Eng

/- The engine, part 21: a body's run both ways at each open test. No conditions. -/
namespace Go.Eng
open Go Go.RowKit
set_option linter.unusedSectionVars false
variable [Glob]
variable {P : Program} {Γ : Tab}

def cj : List Prop → Prop → (Prop → Option Prop) → Option Prop
  | [], q, K => K q
  | p :: l, q, K => cj l q fun q => K (p ∧ q)

theorem cj_some : ∀ (l : List Prop) (q : Prop) (K : Prop → Option Prop) (Q : Prop), cj l q K = some Q → ∃ q', K q' = some Q ∧ (q' ↔ (allP l ∧ q))
  | [], q, K, Q, h => ⟨q, h, by simp [allP]⟩
  | p :: l, q, K, Q, h => by
    obtain ⟨q', h1, h2⟩ := cj_some l q (fun q => K (p ∧ q)) Q h
    exact ⟨_, h1, by rw [h2]; simp only [allP, and_assoc]⟩

def conjO (v : List Prop) (q : Option Prop) : Option Prop :=
  match q with
  | some q => cj v q some
  | .none => .none

theorem conjO_some {v : List Prop} {q : Option Prop} {Q : Prop} (h : conjO v q = some Q) (hQ : Q) : allP v ∧ ∃ q', q = some q' ∧ q' := by
  unfold conjO at h
  split at h
  · obtain ⟨q', h1, h2⟩ := cj_some _ _ _ _ h
    cases h1
    exact ⟨(h2.1 hQ).1, _, rfl, (h2.1 hQ).2⟩
  · cases h

/-- Both ways. -/
def br (p : Bool) (A B : Option Prop) : Option Prop :=
  match A with
  | some a => (match B with
    | some b => some ((p = true → a) ∧ (p = false → b))
    | .none => some ((p = true → a) ∧ (p = false → False)))
  | .none => (match B with
    | some b => some ((p = true → False) ∧ (p = false → b))
    | .none => .none)

theorem br_some {p : Bool} {A B : Option Prop} {Q : Prop} (h : br p A B = some Q) (hQ : Q) : (p = true ∧ ∃ a, A = some a ∧ a) ∨ (p = false ∧ ∃ b, B = some b ∧ b) := by
  unfold br at h
  split at h
  · split at h
    · cases h
      cases p
      · exact .inr ⟨rfl, _, rfl, hQ.2 rfl⟩
      · exact .inl ⟨rfl, _, rfl, hQ.1 rfl⟩
    · cases h
      cases p
      · exact (hQ.2 rfl).elim
      · exact .inl ⟨rfl, _, rfl, hQ.1 rfl⟩
  · split at h
    · cases h
      cases p
      · exact .inr ⟨rfl, _, rfl, hQ.2 rfl⟩
      · exact (hQ.1 rfl).elim
    · cases h

def decT (fr : List AV) (t : Tmp) (K : Bool → List AV → Option Prop) : Option Prop :=
  match fr.getD t .any with
  | .d true => K true fr
  | .d false => K false fr
  | .b p => br p (fL (fr.set t (.d true)) fun fr => K true fr) (fL (fr.set t (.d false)) fun fr => K false fr)
  | _ => .none

theorem decT_some {fr : List AV} {t : Tmp} {K : Bool → List AV → Option Prop} {Q : Prop} (h : decT fr t K = some Q) (hQ : Q) :
    ∃ π1 bit fr' v, (∀ π, decide1 fr t (π1 ++ π) = some (bit, fr', π, v)) ∧ allP v ∧ ∃ Q', K bit fr' = some Q' ∧ Q' := by
  unfold decT at h
  split at h
  · rename_i e; exact ⟨[], true, fr, [], fun π => by simp only [decide1, e]; rfl, trivial, Q, h, hQ⟩
  · rename_i e; exact ⟨[], false, fr, [], fun π => by simp only [decide1, e]; rfl, trivial, Q, h, hQ⟩
  · rename_i p e
    rw [fL_eq, fL_eq] at h
    rcases br_some h hQ with ⟨hp, a, h1, h2⟩ | ⟨hp, a, h1, h2⟩
    · exact ⟨[true], true, _, [p = true], fun π => by simp only [decide1, e]; rfl, ⟨hp, trivial⟩, a, h1, h2⟩
    · exact ⟨[false], false, _, [p = false], fun π => by simp only [decide1, e]; rfl, ⟨hp, trivial⟩, a, h1, h2⟩
  · cases h

def pickT (fr : List AV) (K : List AV → Option Prop) : Op → Option Prop
  | .pick (.tmp t) _ _ => decT fr t fun _ fr => K fr
  | _ => K fr

theorem pickT_some {fr : List AV} {K : List AV → Option Prop} {op : Op} {Q : Prop} (h : pickT fr K op = some Q) (hQ : Q) :
    ∃ π1 fr' v, (∀ π, decideP fr (π1 ++ π) op = some (fr', π, v)) ∧ allP v ∧ ∃ Q', K fr' = some Q' ∧ Q' := by
  unfold pickT at h
  split at h
  · obtain ⟨π1, bit, fr', v, h1, h2, Q', h3, h4⟩ := decT_some h hQ
    exact ⟨π1, fr', v, fun π => by simp only [decideP, h1], h2, Q', h3, h4⟩
  · rename_i hn
    refine ⟨[], fr, [], fun π => ?_, trivial, Q, h, hQ⟩
    unfold decideP
    split
    · exact absurd rfl (hn _ _ _)
    · rfl

def guardT (all : Array Oper) (fr : List AV) (K : Bool → List AV → Option Prop) : Option (Nat × Bool) → Option Prop
  | .none => K true fr
  | some (j, want) => match (all[j]?).bind (·.dst) with
    | some t => (match fr.getD t .any with
      | .un => K false fr
      | _ => decT fr t fun bit fr => K (bit == want) fr)
    | .none => .none

theorem guardT_some {all : Array Oper} {fr : List AV} {K : Bool → List AV → Option Prop} {g : Option (Nat × Bool)} {Q : Prop} (h : guardT all fr K g = some Q) (hQ : Q) :
    ∃ π1 ok fr' v, ((g = .none ∧ ok = true ∧ fr' = fr ∧ π1 = [] ∧ v = []) ∨ ∃ j want t, g = some (j, want) ∧ (all[j]?).bind (·.dst) = some t ∧ ∀ π, guard1 fr t want (π1 ++ π) = some (ok, fr', π, v)) ∧
      allP v ∧ ∃ Q', K ok fr' = some Q' ∧ Q' := by
  unfold guardT at h
  split at h
  · exact ⟨[], true, fr, [], .inl ⟨rfl, rfl, rfl, rfl, rfl⟩, trivial, Q, h, hQ⟩
  · rename_i j want
    split at h
    · rename_i t ht
      split at h
      · rename_i e
        exact ⟨[], false, fr, [], .inr ⟨j, want, t, rfl, ht, fun π => by simp only [guard1, e]; rfl⟩, trivial, Q, h, hQ⟩
      · rename_i hne
        obtain ⟨π1, bit, fr', v, h1, hv, hk⟩ := decT_some h hQ
        refine ⟨π1, _, fr', v, .inr ⟨j, want, t, rfl, ht, fun π => ?_⟩, hv, hk⟩
        unfold guard1
        split
        · rename_i e; exact absurd e hne
        · rw [h1]
    · cases h

def evOpsT (Γ : Tab) (wr : Bool) (tb : FuncId → Option Fun) (all : Array Oper) : List Oper → List AV → List Blk → (List AV → List Blk → Option Prop) → Option Prop
  | [], fr, M, K => K fr M
  | o :: rest, fr, M, K =>
    guardT all fr (fun ok fr => match ok with
      | true => pickT fr (fun fr => match evO Γ wr tb M (evA fr) o.op with
        | some (r, M, v3) => fAV r fun r => fM M fun M => fL (setO fr o.dst r) fun fr => conjO v3 (evOpsT Γ wr tb all rest fr M K)
        | .none => .none) o.op
      | false => fL (setO fr o.dst AV.un) fun fr => evOpsT Γ wr tb all rest fr M K) o.guard

theorem evOpsT_some {wr : Bool} {tb : FuncId → Option Fun} {all : Array Oper} {K : List AV → List Blk → Option Prop} : ∀ (l : List Oper) (fr : List AV) (M : List Blk) (Q : Prop),
    evOpsT Γ wr tb all l fr M K = some Q → Q → ∃ π1 fr' M' v, (∀ π, evOps Γ wr tb all l fr M (π1 ++ π) = some (fr', M', π, v)) ∧ allP v ∧ ∃ Q', K fr' M' = some Q' ∧ Q' := by
  intro l
  induction l with
  | nil => intro fr M Q h hQ; exact ⟨[], fr, M, [], fun π => rfl, trivial, Q, h, hQ⟩
  | cons o rest ih =>
    intro fr M Q h hQ
    simp only [evOpsT] at h
    obtain ⟨π0, ok, fr1, v1, hg, hv1, Q1, h1, hQ1⟩ := guardT_some h hQ
    cases ok with
    | true =>
      dsimp only at h1
      obtain ⟨π1, fr2, v2, hp, hv2, Q2, h2, hQ2⟩ := pickT_some h1 hQ1
      split at h2
      · rename_i r M1 v3 he
        simp only [fAV_eq, fM_eq, fL_eq] at h2
        obtain ⟨hv3, Q3, h3, hQ3⟩ := conjO_some h2 hQ2
        obtain ⟨π2, fr3, M3, v4, h4, hv4, hk⟩ := ih _ _ _ h3 hQ3
        refine ⟨π0 ++ (π1 ++ π2), fr3, M3, v1 ++ v2 ++ v3 ++ v4, fun π => ?_, allP_app.2 ⟨allP_app.2 ⟨allP_app.2 ⟨hv1, hv2⟩, hv3⟩, hv4⟩, hk⟩
        rcases hg with ⟨hg, hok, rfl, rfl, rfl⟩ | ⟨j, want, t, hg, ht, hd⟩
        · simp only [evOps, hg, List.nil_append, List.append_assoc, hp, he, fAV_eq, fM_eq, fL_eq, fP_eq, h4]
        · simp only [evOps, hg, ht, List.append_assoc, hd, hp, he, fAV_eq, fM_eq, fL_eq, fP_eq, h4]
      · cases h2
    | false =>
      dsimp only at h1
      rw [fL_eq] at h1
      obtain ⟨π2, fr3, M3, v4, h4, hv4, hk⟩ := ih _ _ _ h1 hQ1
      refine ⟨π0 ++ π2, fr3, M3, v1 ++ v4, fun π => ?_, allP_app.2 ⟨hv1, hv4⟩, hk⟩
      rcases hg with ⟨hg, hok, rfl, rfl, rfl⟩ | ⟨j, want, t, hg, ht, hd⟩
      · cases hok
      · simp only [evOps, hg, ht, List.append_assoc, hd, fL_eq, h4]

def decDT (rs : List AV) (δ : List (Nat × Bool)) (j : Nat) (K : Bool → List (Nat × Bool) → Option Prop) : Option Prop :=
  match dget δ j with
  | some b => K b δ
  | .none => match rs.getD j .any with
    | .d b => K b δ
    | .b p => br p (K true ((j, true) :: δ)) (K false ((j, false) :: δ))
    | _ => .none

theorem decDT_some {rs : List AV} {δ : List (Nat × Bool)} {j : Nat} {K : Bool → List (Nat × Bool) → Option Prop} {Q : Prop} (h : decDT rs δ j K = some Q) (hQ : Q) :
    ∃ π1 bit δ' v, (∀ π, decD rs δ j (π1 ++ π) = some (bit, δ', π, v)) ∧ allP v ∧ ∃ Q', K bit δ' = some Q' ∧ Q' := by
  unfold decDT at h
  split at h
  · rename_i b e; exact ⟨[], b, δ, [], fun π => by simp only [decD, e]; rfl, trivial, Q, h, hQ⟩
  · rename_i e
    split at h
    · rename_i b e2; exact ⟨[], b, δ, [], fun π => by simp only [decD, e, e2]; rfl, trivial, Q, h, hQ⟩
    · rename_i p e2
      rcases br_some h hQ with ⟨hp, a, h1, h2⟩ | ⟨hp, a, h1, h2⟩
      · exact ⟨[true], true, _, [p = true], fun π => by simp only [decD, e, e2]; rfl, ⟨hp, trivial⟩, a, h1, h2⟩
      · exact ⟨[false], false, _, [p = false], fun π => by simp only [decD, e, e2]; rfl, ⟨hp, trivial⟩, a, h1, h2⟩
    · cases h

def guardDT (all : List Oper) (bk : Nat) (rs : List AV) (δ : List (Nat × Bool)) (K : Bool → List (Nat × Bool) → Option Prop) : Option (Nat × Bool) → Option Prop
  | .none => K true δ
  | some (j, want) => if Nat.testBit bk j = true ∧ ((all[j]?).bind (·.dst)).isSome = true then (match rs.getD j .any with
    | .un => K false δ
    | _ => decDT rs δ j fun b δ => K (b == want) δ) else .none

theorem guardDT_some {all : List Oper} {bk : Nat} {rs : List AV} {δ : List (Nat × Bool)} {K : Bool → List (Nat × Bool) → Option Prop} {g : Option (Nat × Bool)} {Q : Prop} (h : guardDT all bk rs δ K g = some Q) (hQ : Q) :
    ∃ π1 ok δ' v, ((g = .none ∧ ok = true ∧ δ' = δ ∧ π1 = [] ∧ v = []) ∨ ∃ j want, g = some (j, want) ∧ (Nat.testBit bk j = true ∧ ((all[j]?).bind (·.dst)).isSome = true) ∧ ∀ π, guardD rs δ j want (π1 ++ π) = some (ok, δ', π, v)) ∧
      allP v ∧ ∃ Q', K ok δ' = some Q' ∧ Q' := by
  unfold guardDT at h
  split at h
  · exact ⟨[], true, δ, [], .inl ⟨rfl, rfl, rfl, rfl, rfl⟩, trivial, Q, h, hQ⟩
  · rename_i j want
    split at h
    · rename_i ht
      split at h
      · rename_i e
        exact ⟨[], false, δ, [], .inr ⟨j, want, rfl, ht, fun π => by simp only [guardD, e]; rfl⟩, trivial, Q, h, hQ⟩
      · rename_i hne
        obtain ⟨π1, bit, δ', v, h1, hv, hk⟩ := decDT_some h hQ
        refine ⟨π1, _, δ', v, .inr ⟨j, want, rfl, ht, fun π => ?_⟩, hv, hk⟩
        unfold guardD
        split
        · rename_i e; exact absurd e hne
        · rw [h1]
    · cases h

def pickDT (all : List Oper) (rs : List AV) (δ : List (Nat × Bool)) (K : List (Nat × Bool) → Option Prop) : Op → Option Prop
  | .pick (.tmp t) _ _ => (match wrt all 0 t with
    | some j => decDT rs δ j fun _ δ => K δ
    | .none => K δ)
  | _ => K δ

theorem pickDT_some {all : List Oper} {rs : List AV} {δ : List (Nat × Bool)} {K : List (Nat × Bool) → Option Prop} {op : Op} {Q : Prop} (h : pickDT all rs δ K op = some Q) (hQ : Q) :
    ∃ π1 δ' v, ((π1 = [] ∧ δ' = δ ∧ v = [] ∧ ∀ t a b, op = .pick (.tmp t) a b → wrt all 0 t = .none) ∨ ∃ t a b j bit, op = .pick (.tmp t) a b ∧ wrt all 0 t = some j ∧ ∀ π, decD rs δ j (π1 ++ π) = some (bit, δ', π, v)) ∧
      allP v ∧ ∃ Q', K δ' = some Q' ∧ Q' := by
  unfold pickDT at h
  split at h
  · rename_i t a b
    split at h
    · rename_i j hw
      obtain ⟨π1, bit, δ2, v2, h2, hv2, hk⟩ := decDT_some h hQ
      exact ⟨π1, δ2, v2, .inr ⟨t, a, b, j, bit, rfl, hw, h2⟩, hv2, hk⟩
    · rename_i hw
      refine ⟨[], δ, [], .inl ⟨rfl, rfl, rfl, fun t' a' b' e => ?_⟩, trivial, Q, h, hQ⟩
      cases e; exact hw
  · rename_i hno
    exact ⟨[], δ, [], .inl ⟨rfl, rfl, rfl, fun t a b e => (hno t a b e).elim⟩, trivial, Q, h, hQ⟩

def evDT (Γ : Tab) (wr : Bool) (tb : FuncId → Option Fun) (all : List Oper) (bs : List Nat) (fr0 : List AV) (n0 : Nat) :
    List Oper → Nat → List AV → List Blk → List Nat → List (Nat × Bool) → (List AV → List Blk → List Nat → List (Nat × Bool) → Option Prop) → Option Prop
  | [], _, rs, M, births, δ, K => K rs M births δ
  | o :: rest, k, rs, M, births, δ, K =>
    guardDT all (bs.getD k 0) rs δ (fun ok δ => match ok with
      | true => pickDT all rs δ (fun δ =>
        fM (maskF n0 births (fun j => tbit (bs.getD k 0) j) M 0) fun Mk =>
        match evQ Γ wr tb Mk (evE all bs fr0 rs δ k M.length) o.op with
        | some (r, news, v3) => fAV r fun r => fM news fun news =>
          if ((r.ids.all (idOk n0 (births ++ news.map fun _ => k) (bs.getD k 0) k)) && news.all fun b => match b with
            | .r vs => vs.all fun x => x.ids.all (idOk n0 (births ++ news.map fun _ => k) (bs.getD k 0) k)
            | _ => true) = true then
            conjO v3 (fS (rs ++ [r]) fun rs1 => fS (M ++ news) fun M1 => fS (births ++ news.map fun _ => k) fun b1 => evDT Γ wr tb all bs fr0 n0 rest (k + 1) rs1 M1 b1 δ K)
          else .none
        | .none => .none) o.op
      | false => fS (rs ++ [AV.un]) fun rs1 => evDT Γ wr tb all bs fr0 n0 rest (k + 1) rs1 M births δ K) o.guard

theorem evDT_some {wr : Bool} {tb : FuncId → Option Fun} {all : List Oper} {bs : List Nat} {fr0 : List AV} {n0 : Nat} {K : List AV → List Blk → List Nat → List (Nat × Bool) → Option Prop} :
    ∀ (l : List Oper) (k : Nat) (rs : List AV) (M : List Blk) (births : List Nat) (δ : List (Nat × Bool)) (Q : Prop),
    evDT Γ wr tb all bs fr0 n0 l k rs M births δ K = some Q → Q →
    ∃ π1 rs' M' b' δ' v, (∀ π, evD Γ wr tb all bs fr0 n0 l k rs M births δ (π1 ++ π) = some (rs', M', b', δ', π, v)) ∧ allP v ∧ ∃ Q', K rs' M' b' δ' = some Q' ∧ Q' := by
  intro l
  induction l with
  | nil => intro k rs M births δ Q h hQ; exact ⟨[], rs, M, births, δ, [], fun π => rfl, trivial, Q, h, hQ⟩
  | cons o rest ih =>
    intro k rs M births δ Q h hQ
    simp only [evDT, fS_eq] at h
    obtain ⟨π0, ok, δ1, v1, hg, hv1, Q1, h1, hQ1⟩ := guardDT_some h hQ
    cases ok with
    | true =>
      dsimp only at h1
      obtain ⟨π1, δ2, v2, hp, hv2, Q2, h2, hQ2⟩ := pickDT_some h1 hQ1
      rw [fM_eq] at h2
      split at h2
      · rename_i r news v3 he
        simp only [fAV_eq, fM_eq] at h2
        split at h2
        · rename_i hc
          obtain ⟨hv3, Q3, h3, hQ3⟩ := conjO_some h2 hQ2
          obtain ⟨π2, rs', M', b', δ', v4, h4, hv4, hk⟩ := ih _ _ _ _ _ _ h3 hQ3
          refine ⟨π0 ++ (π1 ++ π2), rs', M', b', δ', v1 ++ v2 ++ v3 ++ v4, fun π => ?_, allP_app.2 ⟨allP_app.2 ⟨allP_app.2 ⟨hv1, hv2⟩, hv3⟩, hv4⟩, hk⟩
          have key : ∀ (π : List Bool), evD Γ wr tb all bs fr0 n0 (o :: rest) k rs M births δ (π0 ++ π) = (match (some (true, δ1, π, v1) : Option (Bool × List (Nat × Bool) × List Bool × List Prop)) with
            | some (true, δ, π, v1) => (match (match o.op with
              | .pick (.tmp t) _ _ => (match wrt all 0 t with
                | some j => (match decD rs δ j π with
                  | some (_, δ, π, v) => some (δ, π, v)
                  | .none => .none)
                | .none => some (δ, π, []))
              | _ => some (δ, π, [])) with
              | some (δ, π, v2) =>
                fM (maskF n0 births (fun j => tbit (bs.getD k 0) j) M 0) fun Mk =>
                match evQ Γ wr tb Mk (evE all bs fr0 rs δ k M.length) o.op with
                | some (r, news, v3) => fAV r fun r => fM news fun news => fP (v1 ++ v2 ++ v3) fun v =>
                  if ((r.ids.all (idOk n0 (births ++ news.map fun _ => k) (bs.getD k 0) k)) && news.all fun b => match b with
                    | .r vs => vs.all fun x => x.ids.all (idOk n0 (births ++ news.map fun _ => k) (bs.getD k 0) k)
                    | _ => true) = true then
                    (match evD Γ wr tb all bs fr0 n0 rest (k + 1) (rs ++ [r]) (M ++ news) (births ++ news.map fun _ => k) δ π with
                    | some (rs, M, births, δ, π, v') => some (rs, M, births, δ, π, v ++ v')
                    | .none => .none)
                  else .none
                | .none => .none
              | .none => .none)
            | _ => .none) := by
            intro π
            rcases hg with ⟨hg, hok, rfl, rfl, rfl⟩ | ⟨j, want, hg, ht, hd⟩
            · simp only [evD, fS_eq, hg, List.nil_append]; rfl
            · simp only [evD, fS_eq, hg, if_pos ht, hd]; rfl
          have key2 : ∀ (π : List Bool), (match o.op with
              | .pick (.tmp t) _ _ => (match wrt all 0 t with
                | some j => (match decD rs δ1 j (π1 ++ π) with
                  | some (_, δ, π, v) => some (δ, π, v)
                  | .none => .none)
                | .none => some (δ1, π1 ++ π, []))
              | _ => some (δ1, π1 ++ π, []) : Option (List (Nat × Bool) × List Bool × List Prop)) = some (δ2, π, v2) := by
            intro π
            rcases hp with ⟨rfl, rfl, rfl, hno⟩ | ⟨t, a, b, j, bit, hop, hw, hd⟩
            · split
              · rename_i t a b hop
                rw [hno t a b hop]; rfl
              · rfl
            · simp only [hop, hw, hd]
          rw [List.append_assoc, key, List.append_assoc]
          dsimp only
          rw [key2]
          dsimp only
          simp only [fM_eq, he, fAV_eq, fP_eq]
          rw [if_pos hc, h4]
        · cases h2
      · cases h2
    | false =>
      dsimp only at h1
      obtain ⟨π2, rs', M', b', δ', v4, h4, hv4, hk⟩ := ih _ _ _ _ _ _ h1 hQ1
      refine ⟨π0 ++ π2, rs', M', b', δ', v1 ++ v4, fun π => ?_, allP_app.2 ⟨hv1, hv4⟩, hk⟩
      rcases hg with ⟨hg, hok, rfl, rfl, rfl⟩ | ⟨j, want, hg, ht, hd⟩
      · cases hok
      · simp only [evD, fS_eq, hg, if_pos ht, List.append_assoc, hd, h4]

def evMT (Γ : Tab) (wr : Bool) (tb : FuncId → Option Fun) (all : List Oper) (bs : List Nat) (fr : List AV) (M : List Blk) (s : Nat) (K : List AV → List Blk → Option Prop) : Option Prop :=
  match all[s]? with
  | some o => (match o.op with
    | .store t x y => evDT Γ wr tb all bs fr M.length (all.set s (dum o)) 0 [] M [] [] fun rs M' bn δ => (match evE all bs fr rs δ s M'.length x with
        | .pw id σ => if (decide (Γ.sg t = σ ∧ σ ≠ .none) && isSt o && midOk Γ bs all M.length bn id s) = true then (match storeW M' id σ (evE all bs fr rs δ s M'.length y) with
          | some M2 => (match M2[id]? with
            | some (.c _ _) => fL (frEnd all fr rs δ) fun fr => fM M2 fun M2 => K fr M2
            | _ => .none)
          | .none => .none) else .none
        | _ => .none)
    | _ => .none)
  | .none => .none

theorem evMT_some {wr : Bool} {tb : FuncId → Option Fun} {all : List Oper} {bs : List Nat} {fr : List AV} {M : List Blk} {s : Nat} {K : List AV → List Blk → Option Prop} {Q : Prop}
    (h : evMT Γ wr tb all bs fr M s K = some Q) (hQ : Q) : ∃ π1 fr' M' v, (∀ π, evM Γ wr tb all bs fr M s (π1 ++ π) = some (fr', M', π, v)) ∧ allP v ∧ ∃ Q', K fr' M' = some Q' ∧ Q' := by
  unfold evMT at h
  split at h
  case h_2 => cases h
  rename_i o ho
  split at h
  case h_2 => cases h
  rename_i t x y hop
  obtain ⟨π1, rs, M1, b1, δ1, v, h1, hv, Q1, h2, hQ1⟩ := evDT_some _ _ _ _ _ _ _ h hQ
  split at h2
  case h_2 => cases h2
  rename_i id σ hx
  split at h2
  case isFalse => cases h2
  rename_i hck
  split at h2
  case h_2 => cases h2
  rename_i M2 hs
  split at h2
  case h_2 => cases h2
  rename_i τ xs hM2
  simp only [fL_eq, fM_eq] at h2
  refine ⟨π1, _, M2, v, fun π => ?_, hv, Q1, h2, hQ1⟩
  unfold evM
  rw [ho]
  dsimp only
  rw [hop]
  simp only [h1, hx]
  rw [if_pos hck, hs]
  simp only [hM2, fL_eq, fM_eq, fP_eq]

def evRT (Γ : Tab) (wr : Bool) (tb : FuncId → Option Fun) (all : List Oper) (fr : List AV) (M : List Blk) (K : List AV → List Blk → Option Prop) : Option Prop :=
  fBigs (bef all []) fun bs =>
  if (once all && backOk all 0 && dstOk fr.length all && decide (all.length ≤ 1000)) = true then
    (match tail2 tb all with
    | some (o1, o2) => evDT Γ wr tb all bs fr M.length (all.take (all.length - 2)) 0 [] M [] [] fun rs M' _ δ =>
        if (allBits (bs.getD (all.length - 2) 0) (all.length - 2) && allBits (bs.getD (all.length - 1) 0) (all.length - 1)) = true then
          fL (frEnd (all.take (all.length - 2)) fr rs δ) fun fr => fM M' fun M' =>
          (match evO Γ wr tb M' (evA fr) o1.op with
          | some (r1, M1, v1) => fL (setO fr o1.dst r1) fun fr1 => fM M1 fun M1 => (match evO Γ wr tb M1 (evA fr1) o2.op with
            | some (r2, M2, v2) => fL (setO fr1 o2.dst r2) fun fr2 => fM M2 fun M2 => conjO (v1 ++ v2) (K fr2 M2)
            | .none => .none)
          | .none => .none)
        else .none
    | .none =>
    (match isTail1 tb all with
    | true => evDT Γ wr tb all bs fr M.length all.dropLast 0 [] M [] [] fun rs M' _ δ =>
        if ((List.range (all.length - 1)).all fun k => Nat.testBit (bs.getD (all.length - 1) 0) k) = true then
          fL (frEnd all.dropLast fr rs δ) fun fr => fM M' fun M' =>
          (match all.getLast? with
          | some o => (match evO Γ wr tb M' (evA fr) o.op with
            | some (r, M'', v') => fL (setO fr o.dst r) fun fr => fM M'' fun M'' => conjO v' (K fr M'')
            | .none => .none)
          | .none => .none)
        else .none
    | false => (match midSt all 0 with
      | some s => evMT Γ wr tb all bs fr M s K
      | .none => evDT Γ wr tb all bs fr M.length all 0 [] M [] [] fun rs M' _ δ => fL (frEnd all fr rs δ) fun fr => fM M' fun M' => K fr M')))
  else .none

theorem evRT_some {wr : Bool} {tb : FuncId → Option Fun} {all : List Oper} {fr : List AV} {M : List Blk} {K : List AV → List Blk → Option Prop} {Q : Prop}
    (h : evRT Γ wr tb all fr M K = some Q) (hQ : Q) : ∃ π1 fr' M' v, (∀ π, evR Γ wr tb all fr M (π1 ++ π) = some (fr', M', π, v)) ∧ allP v ∧ ∃ Q', K fr' M' = some Q' ∧ Q' := by
  unfold evRT at h
  rw [fBigs_eq] at h
  split at h
  case isFalse => cases h
  rename_i hck
  split at h
  · rename_i o1 o2 ht2
    obtain ⟨π1, rs, M1, b1, δ1, v, h1, hv, Q1, h2, hQ1⟩ := evDT_some _ _ _ _ _ _ _ h hQ
    split at h2
    case isFalse => cases h2
    rename_i hc2
    simp only [fL_eq, fM_eq] at h2
    split at h2
    case h_2 => cases h2
    rename_i r1 M2 v1 he1
    split at h2
    case h_2 => cases h2
    rename_i r2 M3 v2 he2
    obtain ⟨hv', Q2, h3, hQ2⟩ := conjO_some h2 hQ1
    refine ⟨π1, _, M3, v ++ (v1 ++ v2), fun π => ?_, allP_app.2 ⟨hv, hv'⟩, Q2, h3, hQ2⟩
    unfold evR
    rw [fBigs_eq, if_pos hck, ht2]
    simp only [h1, if_pos hc2, fL_eq, fM_eq, fP_eq, he1, he2]
  rename_i ht2
  split at h
  · rename_i htl
    obtain ⟨π1, rs, M1, b1, δ1, v, h1, hv, Q1, h2, hQ1⟩ := evDT_some _ _ _ _ _ _ _ h hQ
    split at h2
    case isFalse => cases h2
    rename_i hc2
    simp only [fL_eq, fM_eq] at h2
    split at h2
    · rename_i o ho
      split at h2
      · rename_i r M2 v' he
        obtain ⟨hv', Q2, h3, hQ2⟩ := conjO_some h2 hQ1
        refine ⟨π1, _, M2, v ++ v', fun π => ?_, allP_app.2 ⟨hv, hv'⟩, Q2, h3, hQ2⟩
        unfold evR
        rw [fBigs_eq, if_pos hck, ht2]
        dsimp only
        rw [htl]
        simp only [h1, if_pos hc2, fL_eq, fM_eq, fP_eq, ho, he]
      · cases h2
    · cases h2
  · rename_i htl
    split at h
    · rename_i s hs
      obtain ⟨π1, fr', M', v, h1, hv, hk⟩ := evMT_some h hQ
      refine ⟨π1, fr', M', v, fun π => ?_, hv, hk⟩
      unfold evR
      rw [fBigs_eq, if_pos hck, ht2]
      dsimp only
      rw [htl]
      simp only [hs, h1]
    rename_i hs
    obtain ⟨π1, rs, M1, b1, δ1, v, h1, hv, Q1, h2, hQ1⟩ := evDT_some _ _ _ _ _ _ _ h hQ
    simp only [fL_eq, fM_eq] at h2
    refine ⟨π1, _, M1, v, fun π => ?_, hv, Q1, h2, hQ1⟩
    unfold evR
    rw [fBigs_eq, if_pos hck, ht2]
    dsimp only
    rw [htl]
    simp only [hs, h1, fL_eq, fM_eq, fP_eq]

def condT (fr : List AV) (K : Bool → List AV → Option Prop) : Operand → Option Prop
  | .tmp t => decT fr t K
  | .const (.bool b) => K b fr
  | _ => .none

theorem condT_some {fr : List AV} {K : Bool → List AV → Option Prop} {x : Operand} {Q : Prop} (h : condT fr K x = some Q) (hQ : Q) :
    ∃ π1 bit fr' v, (∀ π, condP fr (π1 ++ π) x = some (bit, fr', π, v)) ∧ allP v ∧ ∃ Q', K bit fr' = some Q' ∧ Q' := by
  unfold condT at h
  split at h
  · exact decT_some h hQ
  · exact ⟨[], _, fr, [], fun π => rfl, trivial, Q, h, hQ⟩
  · cases h

def retT (Γ : Tab) (z : Bool) (res : List ResultVar) (R : AV → List Blk → Prop) (fr : List AV) (M : List Blk) : Option Prop :=
  match evResL Γ fr M res with
  | some rs => (match frzB z rs M with
    | some (rs, M) => (match tupAV rs with
      | some r => fAV r fun r => fM M fun M => some (R r M)
      | .none => .none)
    | .none => .none)
  | .none => .none

/-- From here on by hand. -/
structure Lf (p : Prop) : Prop where
  get : p

def tree (P : Program) (Γ : Tab) (z wr : Bool) (tb : FuncId → Option Fun) (fn : FuncId) (m : Nat) (res : List ResultVar) (R : AV → List Blk → Prop) : Nat → List Item → List AV → List Blk → Option Prop
  | 0, _, _, _ => .none
  | n + 1, todo, fr, M => match todo with
    | [] => retT Γ z res R fr M
    | .inLoop c :: k => some (Lf (Goes P fn m (.code c :: .inLoop c :: k) fr M R))
    | .inBlock _ :: k => tree P Γ z wr tb fn m res R n k fr M
    | .code c :: k => match c with
      | .ret => retT Γ z res R fr M
      | .loop c => some (Lf (Goes P fn m (.code c :: .inLoop c :: k) fr M R))
      | .skip => tree P Γ z wr tb fn m res R n k fr M
      | .label _ => tree P Γ z wr tb fn m res R n k fr M
      | .seq x y => tree P Γ z wr tb fn m res R n (.code x :: .code y :: k) fr M
      | .block id c => tree P Γ z wr tb fn m res R n (.code c :: .inBlock id :: k) fr M
      | .exit id => (match exitTo id k with
        | some k' => tree P Γ z wr tb fn m res R n k' fr M
        | .none => .none)
      | .goto l => (match gotoIn l k with
        | some k' => tree P Γ z wr tb fn m res R n k' fr M
        | .none => .none)
      | .cond x c d => condT fr (fun bit fr => match bit with
        | true => tree P Γ z wr tb fn m res R n (.code c :: k) fr M
        | false => tree P Γ z wr tb fn m res R n (.code d :: k) fr M) x
      | .region _ ops true => evRT Γ wr tb ops.toList fr M fun fr M => tree P Γ z wr tb fn m res R n k fr M
      | .region _ ops false => evOpsT Γ wr tb ops ops.toList fr M fun fr M => tree P Γ z wr tb fn m res R n k fr M
      | _ => .none
    | _ => .none

theorem retT_sound (H : TabOk P Γ) {z : Bool} {fn : FuncId} {m : Nat} {R : AV → List Blk → Prop} {f : Func} (hf : P.funcs[fn]? = some f) {fr : List AV} {M : List Blk} {Q : Prop} (h : retT Γ z f.results.toList R fr M = some Q) (hQ : Q) :
    (∀ k, Goes P fn m (.code .ret :: k) fr M R) ∧ Goes P fn m [] fr M R := by
  unfold retT at h
  split at h
  · rename_i rs h1
    split at h
    · rename_i rs' M' h2
      split at h
      · rename_i r h3
        simp only [fAV_eq, fM_eq] at h
        cases h
        exact Goes.retZ H z hf h1 h2 h3 hQ
      · cases h
    · cases h
  · cases h

theorem tree_sound (H : TabOk P Γ) {tb : FuncId → Option Fun} (htb : TbOk P tb) {z wr : Bool} {fn : FuncId} {m : Nat} {R : AV → List Blk → Prop} {f : Func} (hf : P.funcs[fn]? = some f) : ∀ (n : Nat) (todo : List Item) (fr : List AV) (M : List Blk) (Q : Prop),
    tree P Γ z wr tb fn m f.results.toList R n todo fr M = some Q → Q → Goes P fn m todo fr M R := by
  intro n
  induction n with
  | zero => intro todo fr M Q h; cases h
  | succ n ih =>
    intro todo fr M Q h hQ
    unfold tree at h
    split at h
    · exact (retT_sound H hf h hQ).2
    · cases h; exact hQ.get.step fun b a cs w => step_inLoop
    · exact (ih _ _ _ _ h hQ).step fun b a cs w => step_inBlock
    · split at h
      · exact (retT_sound H hf h hQ).1 _
      · cases h; exact hQ.get.step fun b a cs w => step_loop
      · exact (ih _ _ _ _ h hQ).step fun b a cs w => step_skip
      · exact (ih _ _ _ _ h hQ).step fun b a cs w => step_label
      · exact (ih _ _ _ _ h hQ).step fun b a cs w => step_seq
      · exact (ih _ _ _ _ h hQ).step fun b a cs w => step_block
      · split at h
        · rename_i he; exact (ih _ _ _ _ h hQ).step fun b a cs w => step_exit he
        · cases h
      · split at h
        · rename_i he; exact (ih _ _ _ _ h hQ).step fun b a cs w => step_goto he
        · cases h
      · obtain ⟨π1, bit, fr', v, h1, hv, Q', h2, hQ'⟩ := condT_some h hQ
        have h1' := h1 []
        refine Goes.cond h1' hv ?_
        cases bit
        · exact ih _ _ _ _ h2 hQ'
        · exact ih _ _ _ _ h2 hQ'
      · obtain ⟨π1, fr', M', v, h1, hv, Q', h2, hQ'⟩ := evRT_some h hQ
        have h1' := h1 []
        refine Goes.region (fun ρ a w hF hM => ?_) (ih _ _ _ _ h2 hQ')
        rw [List.append_nil] at h1'
        exact evR_sound H htb hF hM h1' hv fun a' w' ρ' g1 g2 g3 => ⟨rfl, ρ', g1, g2, g3⟩
      · obtain ⟨π1, fr', M', v, h1, hv, Q', h2, hQ'⟩ := evOpsT_some _ _ _ _ h hQ
        have h1' := h1 []
        refine Goes.region (fun ρ a w hF hM => ?_) (ih _ _ _ _ h2 hQ')
        exact wp_region_list (evOps_sound H htb _ ρ fr M _ a w _ _ _ _ hF hM h1' hv fun a' w' ρ' g1 g2 g3 => ⟨rfl, ρ', g1, g2, g3⟩)
      · cases h
    · cases h

/-- The rest of a body, both ways at each open test. -/
theorem Goes.tree (H : TabOk P Γ) {tb : FuncId → Option Fun} (htb : TbOk P tb) (n : Nat) (z wr : Bool) {fn : FuncId} {m : Nat} {R : AV → List Blk → Prop} {f : Func} (hf : P.funcs[fn]? = some f) {todo : List Item} {fr : List AV} {M : List Blk} {Q : Prop}
    (h : Eng.tree P Γ z wr tb fn m f.results.toList R n todo fr M = some Q) (hQ : Q) : Goes P fn m todo fr M R := tree_sound H htb hf n _ _ _ _ h hQ

end Go.Eng

/- The engine, part 22: loops in which memory grows; nil rows. No conditions. -/
namespace Go.Eng
open Go Go.RowKit
set_option linter.unusedSectionVars false
variable [Glob]
variable {P : Program} {Γ : Tab} {R : AV → List Blk → Prop} {fn : FuncId} {m : Nat}

/-- Frame and memory are so, once renumbered. -/
def RenOk (m : Nat) (σ : List Nat) (fr : List AV) (M : List Blk) (fr' : List AV) (M' : List Blk) : Prop :=
  σ.length = M.length ∧ σ.take m = List.range m ∧ nodupB σ = true ∧ leF (fr.map (AV.mapI fun i => σ.getD i 0)) fr' ∧ finB σ M' 0 M ∧ (fr.all fun x => x.ids.all fun i => decide (i < M.length)) = true ∧ closedB M = true ∧ Nat.ble m M.length = true

theorem Goes.ren {todo : List Item} {fr fr' : List AV} {M M' : List Blk} (σ : List Nat) (h : RenOk m σ fr M fr' M') (g : Goes P fn m todo fr M R) : Goes P fn m todo fr' M' R := by
  obtain ⟨h1, h2, h3, h4, h5, h6, h7, h8⟩ := h
  exact Goes.renum σ h1 h2 h3 h4 h5 h6 h7 (Nat.le_of_ble_eq_true h8) g

/-- A loop, with its first entry; at each return memory is renumbered. -/
theorem Goes.loopR {ι : Type} (μ : ι → Nat) (I : ι → Prop) (fr : ι → List AV) (M : ι → List Blk) {todo : List Item} {fr0 : List AV} {M0 : List Blk} (i0 : ι) (σ0 : List Nat) (h0 : I i0)
    (e0 : RenOk m σ0 (fr i0) (M i0) fr0 M0)
    (h : ∀ i, I i → (∀ j, I j → μ j < μ i → ∀ σ fr' M', RenOk m σ (fr j) (M j) fr' M' → Goes P fn m todo fr' M' R) → Goes P fn m todo (fr i) (M i) R) : Goes P fn m todo fr0 M0 R :=
  Goes.ren σ0 e0 (Goes.loop (S := fun _ => R) μ I (fun i hi ih => h i hi fun j hj hlt σ _ _ h1 => Goes.ren σ h1 (ih j hj hlt)) i0 h0)

theorem den_nil {ρ : Rho} {σ : Sg} {v : Value} (hp : σ.pure = true) (hn : 0 < σ.n) (h : Den ρ .nsl v) : Den ρ (.fs σ []) v := by
  simp only [Den] at h
  subst h
  exact ⟨hp, hn, by simp, none, 0, rfl, by simp, .inl rfl⟩

/-- A nil slice reads as no rows. -/
def unnil (σ : Sg) : AV → AV
  | .nsl => .fs σ []
  | x => x

def nilS (σ : Sg) (S : Fun) : Fun := fun args M => S (args.map (unnil σ)) M

theorem unnil_ids (σ : Sg) (x : AV) : (unnil σ x).ids = x.ids := by cases x <;> rfl

theorem nil_sound {σ : Sg} (hp : σ.pure = true) (hn : 0 < σ.n) {f : FuncId} {S : Fun} (h : Sound P f S) : Sound P f (nilS σ S) := by
  intro args M r M' vs he hv ρ vals w hd hM hi
  refine h _ _ _ _ _ he hv ρ vals w ?_ hM ?_
  · clear he hi
    induction args generalizing vals with
    | nil => cases vals <;> exact hd
    | cons x l ih =>
      cases vals with
      | nil => exact hd.elim
      | cons v vs =>
        refine ⟨?_, ih vs hd.2⟩
        cases x <;> first | exact hd.1 | exact den_nil hp hn hd.1
  · intro x hx i hix
    rw [List.mem_map] at hx
    obtain ⟨y, hy, rfl⟩ := hx
    rw [unnil_ids] at hix
    exact hi y hy i hix

end Go.Eng

/- The engine, part 23: a row's argument that is a slice. No conditions. -/
namespace Go.Eng
open Go Go.RowKit Go.ChangeShapes Go.WideShapes Go.ChangeAt
set_option linter.unusedSectionVars false
variable [Glob]
variable {P : Program} {Γ : Tab}
variable {H : Type} {enc : TypeId × Value → H} {w : World} {base : Nat} {spare : Nat → Bool} {held : Bool}

/-- Its rows. -/
theorem open_rows (T : TabOk P Γ) {t e : TypeId} {σ : Sg} {r : Reach} {b0 : Nat} {v : Value} {d : DataW H} {ps : List MemPlace} (hu : P.underlying t = some (.slice e)) (ht : Γ.sg e = σ) (hp : σ.pure = true) (hn : 0 < σ.n)
    (hval : Value.okWide P w r b0 t v) (hd : DataW.Trod enc P w base spare held t v d ps) (hw0 : Glob.whole = false := by rfl) : ∃ rows, FS (fun k => w.heap[k]?) σ rows v ∧ rows.length ≤ maxLen := by
  obtain ⟨a0, len0, cap0, rfl⟩ := okWide_slice hu hval
  obtain ⟨fuel, hf⟩ := hd
  rcases DataW.trod_slice hu hf with ⟨h0, -⟩ | ⟨a, len, cap, elems, rest, n, -, hcs, -, hb, hl, hm, hlen, hel, -, -⟩
  · simp [Value.cells] at h0
    obtain ⟨rfl, rfl, rfl⟩ := h0
    exact ⟨[], ⟨hp, hn, by simp, none, 0, rfl, by simp, .inl rfl⟩, by simp⟩
  · simp [Value.cells] at hcs
    obtain ⟨rfl, rfl, rfl⟩ := hcs
    have hce := T.cells ht (Sg.pure_ne hp hn)
    rw [hce] at hel
    have each : ∀ i, i < len0 → ∃ row : List Int, row.length = σ.n ∧ cellsOk σ.flat row ∧ ∀ j, j < σ.n → w.cell? ((a.add (i * σ.n)).add j) = (cellsV σ.flat row)[j]? := by
      intro i hi
      have h1 := hel i hi
      rw [List.getElem?_eq_getElem (by omega), Option.bind_eq_some_iff] at h1
      obtain ⟨cs, hc1, hc2⟩ := h1
      obtain ⟨h2, h3⟩ := (trod_pure T n e σ cs _ ht hp (Sg.pure_ne hp hn) hc2).1
      obtain ⟨xs, e1, hl2, hok⟩ := cells_of (ks := σ.flat) (cs := cs) (by rw [Sg.flat_len σ hp]; exact h2) h3
      obtain ⟨-, -, h4⟩ := World.cells?_some hc1
      exact ⟨xs, by rw [hl2, Sg.flat_len σ hp], hok, fun j hj => by rw [h4 j hj, e1]⟩
    have hch : ∃ f : Nat → List Int, ∀ i, i < len0 → (f i).length = σ.n ∧ cellsOk σ.flat (f i) ∧ ∀ j, j < σ.n → w.cell? ((a.add (i * σ.n)).add j) = (cellsV σ.flat (f i))[j]? := by
      refine ⟨fun i => if h : i < len0 then (each i h).choose else [], fun i hi => ?_⟩
      simp only [hi, dif_pos]
      exact (each i hi).choose_spec
    obtain ⟨f, hfr⟩ := hch
    refine ⟨(List.range len0).map f, ?_, by simp; omega⟩
    refine ⟨hp, hn, by simp; omega, some a, cap0, by simp, by simp; exact hl, ?_⟩
    by_cases h0 : len0 = 0
    · left; subst h0; rfl
    right
    have hpos : 0 < len0 := by omega
    have add_add : ∀ (x y : Nat), (a.add x).add y = a.add (x + y) := by
      intro x y
      unfold Addr.add
      by_cases hx : x = 0
      · subst hx; simp
      · by_cases hy : y = 0
        · subst hy; simp [hx]
        · rw [if_neg hx, if_neg hy, if_neg (by omega)]
          simp [Nat.add_assoc]
    have hcell : ∀ i j, i < len0 → j < σ.n → w.cell? (a.add (i * σ.n + j)) = (cellsV σ.flat (f i))[j]? := by
      intro i j hi hj
      rw [← add_add]; exact (hfr i hi).2.2 j hj
    -- the block
    have hfirst : ∃ v0, w.cell? a = some v0 := by
      have := hcell 0 0 hpos hn
      rw [Nat.zero_mul, Nat.zero_add] at this
      rw [show a.add 0 = a from rfl] at this
      have hk : (f 0).length = σ.n := (hfr 0 hpos).1
      have hy : (f 0)[0]? = some ((f 0)[0]'(by omega)) := List.getElem?_eq_getElem _
      rw [cellsV_get σ.flat (f 0) 0 _ _ hy (getD_some (by rw [Sg.flat_len σ hp]; exact hn) .bool)] at this
      exact ⟨_, this⟩
    obtain ⟨v0, hv0⟩ := hfirst
    unfold World.cell? at hv0
    cases hh : w.heap[a.block]? with
    | none => rw [hh] at hv0; cases hv0
    | some o =>
      rw [hh] at hv0
      cases o with
      | cells C ty fz =>
        have hsp : a.spot = none := by
          cases hs : a.spot with
          | none => rfl
          | some q => simp [hs] at hv0
        obtain ⟨bk, off, sp⟩ := a
        dsimp only at hsp hh
        subst hsp
        refine ⟨bk, off, C, ty, fz, rfl, hh, fun i row hi => ?_, fun hw => absurd (hw0.symm.trans hw) (by decide)⟩
        rw [List.getElem?_map] at hi
        have hil : i < len0 := by
          rcases Nat.lt_or_ge i len0 with h | h
          · exact h
          · rw [List.getElem?_eq_none (by simpa using h)] at hi; cases hi
        rw [List.getElem?_range hil] at hi
        simp only [Option.map_some, Option.some.injEq] at hi
        subst hi
        obtain ⟨k1, k2, k3⟩ := hfr i hil
        refine ⟨k1, fun j y hy => ?_⟩
        have hj : j < σ.n := by have := (List.getElem?_eq_some_iff.1 hy).1; omega
        have hjf : j < σ.flat.length := by rw [Sg.flat_len σ hp]; exact hj
        have h5 := hcell i j hil hj
        rw [cellsV_get σ.flat (f i) j y _ hy (getD_some hjf .bool)] at h5
        refine ⟨?_, cellsOk_get σ.flat (f i) j y _ k2 hy (getD_some hjf _)⟩
        rw [← h5]
        unfold World.cell? Addr.add
        by_cases hz : i * σ.n + j = 0
        · simp [hz, hh, show off + i * σ.n + j = off from by omega]
        · rw [if_neg hz]
          simp only [hh]
          rw [Nat.add_assoc]
          rfl
      | _ => cases hv0

theorem trod_lt' {t : TypeId} {v : Value} {d : DataW H} {ps : List MemPlace} (hd : DataW.Trod enc P w base spare held t v d ps) : ∀ p ∈ ps, p.block < w.heap.size := by
  obtain ⟨fuel, hf⟩ := hd
  exact DataW.trod_lt fuel t _ _ hf

theorem den_fs {ρ : Rho} {σ : Sg} {rows : List (List Int)} {v : Value} {W : World} (h : FS (fun k => W.heap[k]?) σ rows v) (hF : ρ.F = fun k => W.heap[k]?) : Den ρ (.fs σ rows) v := by
  show FS ρ.F σ rows v
  rw [hF]; exact h

end Go.Eng

/- The engine, part 23b: an own slice is lent to a function that only reads it, ahead of other memory. No conditions. -/
namespace Go.Eng
open Go Go.RowKit
set_option linter.unusedSectionVars false
variable [Glob]
variable {P : Program} {Γ : Tab}

/-- Values that name nothing frozen. -/
def plA : AV → Bool
  | .i _ _ => true
  | .b _ => true
  | .d _ => true
  | .ag _ _ => true
  | .ow _ _ _ _ => true
  | .nsl => true
  | .s _ => true
  | .t2 x y => plA x && plA y
  | .t3 x y z => plA x && plA y && plA z
  | _ => false
def plB : Blk → Bool
  | .l _ _ => true
  | .c _ _ => true
  | .s _ => true
  | _ => false
theorem pl_den {ρ ρ' : Rho} : ∀ {x : AV} {v : Value}, plA x = true → (∀ i ∈ x.ids, ρ' i = ρ i) → Den ρ x v → Den ρ' x v
  | .i _ _, _, _, _, h => h
  | .b _, _, _, _, h => h
  | .d _, _, _, _, h => h
  | .s _, _, _, _, h => h
  | .ag _ _, _, _, _, h => h
  | .nsl, _, _, _, h => h
  | .ow id _ _ _, _, _, he, h => by simp only [Den] at *; rw [he id (by simp [AV.ids])]; exact h
  | .t2 x y, _, hp, he, h => by
    simp only [plA, Bool.and_eq_true] at hp
    obtain ⟨u, v, e, h1, h2⟩ := h
    exact ⟨u, v, e, pl_den hp.1 (fun i hi => he i (by simp [AV.ids, hi])) h1, pl_den hp.2 (fun i hi => he i (by simp [AV.ids, hi])) h2⟩
  | .t3 x y z, _, hp, he, h => by
    simp only [plA, Bool.and_eq_true] at hp
    obtain ⟨u, v, w, e, h1, h2, h3⟩ := h
    exact ⟨u, v, w, e, pl_den hp.1.1 (fun i hi => he i (by simp [AV.ids, hi])) h1, pl_den hp.1.2 (fun i hi => he i (by simp [AV.ids, hi])) h2, pl_den hp.2 (fun i hi => he i (by simp [AV.ids, hi])) h3⟩
theorem pl_brel {ρ ρ' : Rho} {l : Go.Eng.Loc} {o : Option Obj} {b : Blk} (hp : plB b = true) (h : BRel ρ l o b) : BRel ρ' l o b := by
  cases b <;> first | exact h | cases hp

theorem dens_split {ρ : Rho} {x : AV} {r : List AV} : ∀ {l : List AV} {vs : List Value}, Dens ρ (l ++ x :: r) vs → ∃ v1 v v2, vs = v1 ++ v :: v2 ∧ Dens ρ l v1 ∧ Den ρ x v ∧ Dens ρ r v2
  | [], [], h => h.elim
  | [], v :: vs, h => ⟨[], v, vs, rfl, trivial, h.1, h.2⟩
  | _ :: _, [], h => h.elim
  | _ :: l, v :: vs, h => by
    obtain ⟨v1, u, v2, e, h1, h2, h3⟩ := dens_split (l := l) h.2
    exact ⟨v :: v1, u, v2, by rw [e]; rfl, ⟨h.1, h1⟩, h2, h3⟩

theorem lend {f : FuncId} {pre post : List AV} {r : AV} {σ : Sg} {rows : List (List Int)} {n : Nat} {e : TypeId} {M N : List Blk} (hS : SpecOK P f (pre ++ .fs σ rows :: post) M r N)
    (hr : plA r = true) (hM0 : ∀ x ∈ M, plB x = true) (hN : ∀ x ∈ N, plB x = true) (hty : frzOk σ e = true := by rfl) :
    SpecOK P f (pre.map (AV.mapI (· + 1)) ++ .ow 0 n σ e :: post.map (AV.mapI (· + 1))) (.l σ rows :: M) (r.mapI (· + 1)) (.l σ rows :: N) := by
  intro ρ vals w hds hM hi
  obtain ⟨v1, v, v2, rfl, d1, d2, d3⟩ := dens_split hds
  have hlive : liveAt (Blk.l σ rows :: M) 0 := ⟨_, rfl, rfl⟩
  obtain ⟨ρ', hA, hloc, hden⟩ := After.freeze hM (id := 0) (c := .l σ rows) rfl d2 (frzOk_h hty)
  have hblk := hM.blk_lt hlive
  have lvM : ∀ i, liveAt M i → liveAt (Blk.l σ rows :: M) (i + 1) := fun i h => h
  have hM1 : MRel (ρ'.ren (· + 1)) M w := by
    refine ⟨?_, ?_, ?_, ?_⟩
    · intro id b h
      have := hM.blk (id + 1) b h
      show BRel _ (ρ' (id + 1)) w.heap[(ρ' (id + 1)).blk]? b
      rw [hloc]
      exact pl_brel (hM0 b (List.mem_of_getElem? h)) this
    · intro i j h1 h2 he
      have he : (ρ' (i + 1)).blk = (ρ' (j + 1)).blk := he
      rw [hloc, hloc] at he
      have := hM.inj (i + 1) (j + 1) (lvM i h1) (lvM j h2) he
      omega
    · intro id vs h
      have := hM0 _ (List.mem_of_getElem? h)
      cases this
    · intro k o h
      obtain ⟨h1, h2⟩ := hA.rel.env k o h
      refine ⟨h1, fun i hl => ?_⟩
      exact h2 (i + 1) (by
        obtain ⟨b, hb, hv⟩ := hl
        exact ⟨b, by show (Blk.dead :: M)[i + 1]? = some b; exact hb, hv⟩)
  have conv : ∀ {l : List AV} {vs : List Value}, Dens ρ (l.map (AV.mapI (· + 1))) vs → Dens (ρ'.ren (· + 1)) l vs := fun h => (dens_mapI ρ' _ _ _).1 (dens_congr hA.fmono (fun x _ i _ => hloc i) h)
  have hden' : Den (ρ'.ren (· + 1)) (.fs σ rows) v := hden
  refine (hS (ρ'.ren (· + 1)) (v1 ++ v :: v2) w (dens_app (conv d1) ⟨hden', conv d3⟩) hM1 ?_).mono ?_
  · intro x hx i hii
    have key : ∀ l : List AV, x ∈ l → (∀ y ∈ l.map (AV.mapI (· + 1)), ∀ i ∈ y.ids, i < (Blk.l σ rows :: M).length) → i < M.length := by
      intro l hl h
      have := h _ (List.mem_map_of_mem hl) (i + 1) (by rw [ids_mapI]; exact List.mem_map.2 ⟨i, hii, rfl⟩)
      simpa using this
    rcases List.mem_append.1 hx with hx | hx
    · exact key pre hx fun y hy => hi y (List.mem_append_left _ hy)
    · rcases List.mem_cons.1 hx with rfl | hx
      · cases hii
      · exact key post hx fun y hy => hi y (List.mem_append_right _ (List.mem_cons_of_mem _ hy))
  · rintro ev w' ⟨u, ρ2, rfl, hu, hB, hids⟩
    have hle3 : ∀ k o, ρ.F k = some o → (fun k => if k = (ρ 0).blk then none else ρ2.F k) k = some o := fun k o hk => by
      show (if k = (ρ 0).blk then none else ρ2.F k) = some o
      rw [if_neg (fun e => (hM.env k o hk).2 0 hlive e.symm)]; exact hB.fmono k o (hA.fmono k o hk)
    let ρ3 : Rho := ⟨fun i => if i = 0 then ρ 0 else ρ2 (i - 1), fun k => if k = (ρ 0).blk then none else ρ2.F k, Glob.mono hle3 ρ.ok⟩
    have q0 : ρ3 0 = ρ 0 := rfl
    have q1 : ∀ i, ρ3 (i + 1) = ρ2 i := fun i => rfl
    have qF : ∀ k o, ρ3.F k = some o → k ≠ (ρ 0).blk ∧ ρ2.F k = some o := fun k o h => by
      change (if k = (ρ 0).blk then none else ρ2.F k) = some o at h
      split at h
      · cases h
      · exact ⟨by assumption, h⟩
    have lv : ∀ i, liveAt (Blk.l σ rows :: N) (i + 1) → liveAt N i := fun i h => h
    have hne : ∀ i, liveAt M i → (ρ' (i + 1)).blk ≠ (ρ 0).blk := fun i h e => by
      rw [hloc] at e
      have := hM.inj (i + 1) 0 (lvM i h) hlive e
      omega
    have hfr : ∀ i, liveAt N i → (ρ2 i).blk ≠ (ρ 0).blk := fun i h e => by
      rcases Nat.lt_or_ge i M.length with hlt | hge
      · rw [hB.ext i hlt] at e
        exact hne i (hB.dead i hlt h) e
      · rcases hB.fresh i hge h with h1 | ⟨j, h1, h2, h3⟩
        · omega
        · rw [h3] at e
          exact hne j h2 e
    refine ⟨u, ρ3, rfl, ?_, ⟨?_, ⟨?_, ?_, ?_, ?_⟩, ?_, ?_, ?_, ?_, hB.os, hB.tape, hB.output, hB.size, ?_, ?_⟩, ?_⟩
    · rw [den_mapI]
      exact pl_den (ρ := ρ2) (ρ' := ρ3.ren (· + 1)) hr (fun i _ => rfl) hu
    · intro id h
      cases id with
      | zero => exact q0
      | succ id =>
        rw [q1, hB.ext id (by simpa using h)]
        exact hloc (id + 1)
    · intro id b h
      cases id with
      | zero =>
        cases h
        have h1 := hM.blk 0 _ rfl
        rw [q0, hB.frame _ hblk (fun i h => hne i h)]
        exact pl_brel rfl h1
      | succ id =>
        rw [q1]
        exact pl_brel (hN b (List.mem_of_getElem? h)) (hB.rel.blk id b h)
    · intro i j h1 h2 he
      cases i with
      | zero =>
        cases j with
        | zero => rfl
        | succ j =>
          rw [q0, q1] at he
          exact absurd he.symm (hfr j (lv j h2))
      | succ i =>
        cases j with
        | zero =>
          rw [q0, q1] at he
          exact absurd he (hfr i (lv i h1))
        | succ j =>
          rw [q1, q1] at he
          rw [hB.rel.inj i j (lv i h1) (lv j h2) he]
    · intro id vs h
      cases id with
      | zero => cases h
      | succ id =>
        have := hN _ (List.mem_of_getElem? (show N[id]? = some (.r vs) from h))
        cases this
    · intro k o h
      obtain ⟨h1, h2⟩ := qF k o h
      obtain ⟨h3, h4⟩ := hB.rel.env k o h2
      refine ⟨h3, ?_⟩
      intro i hl
      cases i with
      | zero => rw [q0]; exact fun e => h1 e.symm
      | succ i => rw [q1]; exact h4 i (lv i hl)
    · have := hB.len
      simp; omega
    · intro id h1 h2
      cases id with
      | zero => exact hlive
      | succ id => exact lvM id (hB.dead id (by simpa using h1) (lv id h2))
    · intro id h1 h2
      cases id with
      | zero => simp at h1
      | succ id =>
        rw [q1]
        rcases hB.fresh id (by simpa using h1) (lv id h2) with h3 | ⟨j, h3, h4, h5⟩
        · exact .inl h3
        · refine .inr ⟨j + 1, by simpa using h3, lvM j h4, ?_⟩
          rw [h5]
          show (ρ' (j + 1)).blk = _
          rw [hloc]
    · intro b h1 h2
      refine hB.frame b h1 (fun i h => ?_)
      show (ρ' (i + 1)).blk ≠ b
      rw [hloc]
      exact h2 (i + 1) (lvM i h)
    · intro k o h
      have hk : k ≠ (ρ 0).blk := fun e => (hM.env k o h).2 0 hlive e.symm
      show (if k = (ρ 0).blk then none else ρ2.F k) = some o
      rw [if_neg hk]
      exact hB.fmono k o (hA.fmono k o h)
    · intro k o h
      obtain ⟨h1, h2⟩ := qF k o h
      rcases hB.fnew k o h2 with h3 | h3 | ⟨i, h3, h4⟩
      · exact hA.fnew k o h3
      · exact .inr (.inl h3)
      · refine .inr (.inr ⟨i + 1, lvM i h3, ?_⟩)
        rw [← h4]
        show _ = (ρ' (i + 1)).blk
        rw [hloc]
    · intro i h
      rw [ids_mapI] at h
      obtain ⟨j, hj, rfl⟩ := List.mem_map.1 h
      have := hids j hj
      simp; omega

/-- The sign that a function writes into what is older: its Fun answers to [.un], and owes the impossible there. -/
def kill (S : Fun) : Fun := fun args M => match args, M with
  | [.un], [] => some (.un, [], [False])
  | _, _ => S args M
theorem kill_sound {f : FuncId} {S : Fun} (h : Sound P f S) : Sound P f (kill S) := by
  intro args M r M' vs he hv
  unfold kill at he
  split at he
  · cases he; exact hv.1.elim
  · exact h _ _ _ _ _ he hv
end Go.Eng
