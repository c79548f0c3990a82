/- The engine, texts 9b 9c 9d 9e 9f 9g 9h 10 11. No conditions. -/
import Derived.Test.YtplnfdgokpgbcaaDoorEngB
import Derived.Maps.AppendAt
import Derived.MapKept
import Derived.WideKeyRuns
import Derived.WideMake
import Derived.Lib.AppendStr
/- The engine, part 9b: new rows of elements. No conditions. -/
namespace Go.Eng
open Go Go.RowKit
set_option linter.unusedSectionVars false
variable [Glob]
variable {P : Program} {Γ : Tab}

/-- One element as a row of cells. -/
def rowOf (σ : Sg) (r : AV) : Option (List Int) :=
  match σ.inf with
  | .cell k => match toCell k r with
    | some n => some [n]
    | .none => .none
  | .arr _ _ => match r with
    | .ag σ' ys => if σ' = σ then some ys else .none
    | _ => .none
  | .st _ => match r with
    | .ag σ' ys => if σ' = σ then some ys else .none
    | _ => .none
  | _ => .none

def fillRows (σ : Sg) : List (List Int) → List (Nat × AV) → Option (List (List Int))
  | rows, [] => some rows
  | rows, (i, r) :: l => match rowOf σ r with
    | some row => if i < rows.length then fillRows σ (rows.set i row) l else .none
    | .none => .none

theorem rowOf_len {ρ : Rho} {σ : Sg} {r : AV} {row : List Int} {v : Value} (h : rowOf σ r = some row) (hd : Den ρ r v) : row.length = σ.n := by
  unfold rowOf at h
  split at h
  · rename_i k hk
    split at h
    · cases h; exact (Sg.cell_flat σ k hk).2.1.symm ▸ rfl
    · cases h
  · split at h
    · split at h
      · rename_i e; cases h; subst e; exact hd.2.1
      · cases h
    · cases h
  · split at h
    · split at h
      · rename_i e; cases h; subst e; exact hd.2.1
      · cases h
    · cases h
  · cases h

theorem fillRows_fill {ρ : Rho} {σ : Sg} (hp : σ.pure = true) (hn : 0 < σ.n) : ∀ (l : List (Nat × AV)) (rows rows' : List (List Int)), (∀ r ∈ rows, r.length = σ.n) → (∀ (j i : Nat) (r : AV), l[j]? = some (i, r) → ∃ v, Den ρ r v) →
    fillRows σ rows l = some rows' → fillAV (slotAt σ rows.length) rows.flatten l = some rows'.flatten ∧ (∀ r ∈ rows', r.length = σ.n) ∧ rows'.length = rows.length
  | [], rows, rows', hl, _, h => by cases h; exact ⟨rfl, hl, rfl⟩
  | (i, r) :: l, rows, rows', hl, hd, h => by
    simp only [fillRows] at h
    split at h
    · rename_i row hr
      split at h
      · rename_i hi
        obtain ⟨v, hv⟩ := hd 0 i r rfl
        have hrl := rowOf_len hr hv
        have hl2 : ∀ x ∈ rows.set i row, x.length = σ.n := fun x hx => by
          rcases List.mem_or_eq_of_mem_set hx with h1 | h1
          · exact hl x h1
          · rw [h1, hrl]
        obtain ⟨h1, h2, h3⟩ := fillRows_fill hp hn l (rows.set i row) rows' hl2 (fun j i' r' hj => hd (j + 1) i' r' (by simpa using hj)) h
        rw [List.length_set] at h1 h3
        refine ⟨?_, h2, h3⟩
        have hget : (rows.getD i []).length = σ.n := by rw [List.getD_eq_getElem?_getD, List.getElem?_eq_getElem hi]; exact hl _ (List.getElem_mem hi)
        have hfs := flatten_set (σn := σ.n) hl hrl i 0 σ.n row hi (by omega) hrl (by rw [Nat.zero_add, List.take_zero, List.drop_eq_nil_of_le (by omega)]; simp)
        rw [Nat.add_zero] at hfs
        simp only [fillAV, slotAt, if_pos hi]
        unfold rowOf at hr
        split at hr
        · rename_i k hk
          split at hr
          · rename_i n hc
            cases hr
            have h1n : σ.n = 1 := (Sg.cell_flat σ k hk).2.1
            simp only [hk, hc]
            rw [set_seg _ _ _ (by rw [flatten_len hl, h1n]; omega)]
            rw [h1n] at hfs
            rw [h1n, ← hfs]; exact h1
          · cases hr
        · rename_i n e0 hinf
          split at hr
          · split at hr
            · rename_i e
              cases hr
              subst e
              simp only [hinf, if_true]
              unfold putSeg
              rw [← hfs]; exact h1
            · cases hr
          · cases hr
        · rename_i fs hinf
          split at hr
          · split at hr
            · rename_i e
              cases hr
              subst e
              simp only [hinf, if_true]
              unfold putSeg
              rw [← hfs]; exact h1
            · cases hr
          · cases hr
        · cases hr
      · cases h
    · cases h

/-- All places, in order. -/
def inOrder : Nat → List (Nat × AV) → Bool
  | _, [] => true
  | k, (i, _) :: l => Nat.beq i k && inOrder (k + 1) l

def allStr : List (Nat × AV) → Option (List ByteArray)
  | [] => some []
  | (_, .s x) :: l => match allStr l with
    | some xs => some (x :: xs)
    | .none => .none
  | _ => .none

def allFs (σ : Sg) : List (Nat × AV) → Option (List (List (List Int)))
  | [] => some []
  | (_, .fs τ rows) :: l => if τ = σ then (match allFs σ l with
    | some xs => some (rows :: xs)
    | .none => .none) else .none
  | _ => .none

theorem fill_one : ∀ (l : List (Nat × AV)) (vs : List (Nat × Value)) (k : Nat) (cs : List Value), inOrder k l = true → l.length = vs.length → (∀ (j i : Nat) (r : AV), l[j]? = some (i, r) → ∃ v, vs[j]? = some (i, v) ∧ v.cells = #[v]) →
    cs.length = k + l.length → Instr.fill (fun i => some (i * 1, 1)) cs.toArray vs = some (cs.take k ++ vs.map (·.2)).toArray
  | [], [], k, cs, _, _, _, hc => by simp [Instr.fill]; exact (List.take_of_length_le (by simpa using Nat.le_of_eq hc)).symm
  | [], _ :: _, _, _, _, h, _, _ => by simp at h
  | _ :: _, [], _, _, _, h, _, _ => by simp at h
  | (i, r) :: l, (i', v) :: vs, k, cs, ho, hl, hd, hc => by
    obtain ⟨v', e, hv⟩ := hd 0 i r rfl
    simp only [List.getElem?_cons_zero, Option.some.injEq, Prod.mk.injEq] at e
    obtain ⟨rfl, rfl⟩ := e
    simp only [inOrder, Bool.and_eq_true] at ho
    have hik := Nat.eq_of_beq_eq_true ho.1
    subst hik
    simp only [List.length_cons] at hc
    have ih := fill_one l vs (i' + 1) (cs.set i' v) ho.2 (by simpa using hl) (fun j i r hj => by simpa using hd (j + 1) i r (by simpa using hj)) (by simp; omega)
    simp only [Nat.mul_one] at ih ⊢
    simp only [Instr.fill, hv]
    rw [if_neg (by simp; omega)]
    have e : ((#[v] : Array Value).zipIdx.foldl (fun cs (p : Value × Nat) => cs.setIfInBounds (i' + p.2) p.1) cs.toArray) = (cs.set i' v).toArray := by
      simp
    have e2 : (cs.set i' v).take (i' + 1) = cs.take i' ++ [v] := by
      rw [List.take_set, List.take_succ_eq_append_getElem (by omega), List.set_append_right _ _ (by simp; omega)]
      simp [List.length_take, Nat.min_eq_left (by omega : i' ≤ cs.length)]
    rw [e, ih, e2]
    simp

/-- A row of one-cell elements, built whole. -/
theorem run_buildOne (H : TabOk P Γ) {w : World} {t e : TypeId} {l : List (Nat × AV)} {parts : Array (Nat × Value)} (hs : Γ.sl t = some e) (hn : Γ.sg e = .str ∨ Γ.sg e = .ref) (hb : l.length ≤ 16777216)
    (hl : l.length = parts.size) (ho : inOrder 0 l = true) (hd : ∀ (j i : Nat) (r : AV), l[j]? = some (i, r) → ∃ v, parts.toList[j]? = some (i, v) ∧ v.cells = #[v]) :
    (Instr.buildSlice t l.length parts).run P w = .ok (.slice (some ⟨w.heap.size, 0, none⟩) l.length l.length) { w with heap := w.heap.push (.cells (parts.toList.map (·.2)).toArray e) } := by
  have hu := H.sl t e hs
  have hne : Γ.sg e ≠ .none := by rcases hn with h | h <;> rw [h] <;> simp
  obtain ⟨ti, z, hi, hsz, hz, hzo⟩ := H.parts rfl hne
  have h1 : (Γ.sg e).n = 1 := by rcases hn with h | h <;> rw [h] <;> rfl
  rw [h1] at hsz
  have hlt : ¬ l.length * 1 > 2 ^ 24 := by omega
  have hf : ∀ cs : Array Value, cs.size = l.length → Instr.fill (fun i => some (i * 1, 1)) cs parts.toList = some (parts.toList.map (·.2)).toArray := by
    intro cs hcs
    have := fill_one l parts.toList 0 cs.toList ho (by simpa using hl) hd (by simpa using hcs)
    simpa using this
  simp only [Instr.buildSlice, Sem.run_bind, run_underlying hu, Result.andThen_ok, run_so hi hsz, if_neg hlt]
  by_cases h0 : l.length * 1 = 0
  · rw [if_pos h0, pure_bind, hf _ (by simp)]
    simp [newRow]
  · rw [if_neg h0, Sem.run_bind]
    have hzv : (zeroValue e).run P w = .ok z w := by simp [zeroValue, run_ti hi, hz]
    rw [hzv, Result.andThen_ok, pure_bind, hf _ (by simp)]
    simp [newRow]

/-- A new row of elements. -/
def newSl (Γ : Tab) (M : List Blk) (E : Operand → AV) (t : TypeId) (len : Nat) (ps : Array (Nat × Operand)) : Option (AV × Blk) :=
  match Γ.sl t with
  | some e => fSg (Γ.sg e) fun σ => match σ with
    | .str => (match allStr (ps.toList.map fun p => (p.1, E p.2)) with
      | some l => if inOrder 0 (ps.toList.map fun p => (p.1, E p.2)) = true ∧ ps.size = len ∧ len ≤ 16777216 then some (.ow M.length len .str e, .s l) else .none
      | .none => .none)
    | .ref => (match Γ.sl e with
      | some e2 => fSg (Γ.sg e2) fun τ => (match allFs τ (ps.toList.map fun p => (p.1, E p.2)) with
        | some l => if inOrder 0 (ps.toList.map fun p => (p.1, E p.2)) = true ∧ ps.size = len ∧ len ≤ 16777216 then some (.ow M.length len .ref e, .rf τ l) else .none
        | .none => .none)
      | .none => .none)
    | σ => if σ.pure = true ∧ σ ≠ .none ∧ len * σ.n ≤ 16777216 then
      (match fillRows σ (List.replicate len (List.replicate σ.n 0)) (ps.toList.map fun p => (p.1, E p.2)) with
      | some rows => some (.ow M.length len σ e, .l σ rows)
      | .none => .none) else .none
  | .none => .none

theorem allStr_len : ∀ {l : List (Nat × AV)} {xs : List ByteArray}, allStr l = some xs → xs.length = l.length ∧ ∀ (j : Nat) x, xs[j]? = some x → ∃ i, l[j]? = some (i, .s x)
  | [], xs, h => by cases h; exact ⟨rfl, fun j x h => by simp at h⟩
  | (i, r) :: l, xs, h => by
    cases r <;> simp only [allStr, reduceCtorEq] at h
    rename_i s
    split at h
    · rename_i ys hy
      cases h
      obtain ⟨h1, h2⟩ := allStr_len hy
      refine ⟨by simp [h1], fun j x hj => ?_⟩
      cases j with
      | zero => simp only [List.getElem?_cons_zero, Option.some.injEq] at hj; subst hj; exact ⟨i, rfl⟩
      | succ j => simpa using h2 j x (by simpa using hj)
    · cases h

theorem allFs_len {τ : Sg} : ∀ {l : List (Nat × AV)} {xs : List (List (List Int))}, allFs τ l = some xs → xs.length = l.length ∧ ∀ (j : Nat) x, xs[j]? = some x → ∃ i, l[j]? = some (i, .fs τ x)
  | [], xs, h => by cases h; exact ⟨rfl, fun j x h => by simp at h⟩
  | (i, r) :: l, xs, h => by
    cases r <;> simp only [allFs, reduceCtorEq] at h
    rename_i σ s
    split at h
    · rename_i e
      subst e
      split at h
      · rename_i ys hy
        cases h
        obtain ⟨h1, h2⟩ := allFs_len hy
        refine ⟨by simp [h1], fun j x hj => ?_⟩
        cases j with
        | zero => simp only [List.getElem?_cons_zero, Option.some.injEq] at hj; subst hj; exact ⟨i, rfl⟩
        | succ j => simpa using h2 j x (by simpa using hj)
      · cases h
    · cases h

theorem newSl_sound (H : TabOk P Γ) {ρ : Rho} {M : List Blk} {E : Operand → AV} {ev : Operand → Value} {w : World} {t : TypeId} {len : Nat} {ps : Array (Nat × Operand)} {r : AV} {b : Blk}
    (hE : ∀ x, Den ρ (E x) (ev x)) (hM : MRel ρ M w) (h : newSl Γ M E t len ps = some (r, b)) :
    ∃ v w' ρ', (Instr.buildSlice t len (ps.map fun p => (p.1, ev p.2))).run P w = .ok v w' ∧ After ρ M (M ++ [b]) w w' ρ' ∧ Den ρ' r v ∧ ∀ i ∈ r.ids, i < (M ++ [b]).length := by
  have parts : ∀ (j i : Nat) (r : AV), (ps.toList.map fun p => (p.1, E p.2))[j]? = some (i, r) → ∃ v, (ps.map fun p => (p.1, ev p.2)).toList[j]? = some (i, v) ∧ Den ρ r v := fun j i r hj => by
    rw [List.getElem?_map] at hj
    rw [Array.toList_map, List.getElem?_map]
    cases hq : ps.toList[j]? with
    | none => rw [hq] at hj; cases hj
    | some q =>
      rw [hq] at hj
      simp only [Option.map_some, Option.some.injEq, Prod.mk.injEq] at hj
      obtain ⟨rfl, rfl⟩ := hj
      exact ⟨_, rfl, hE _⟩
  generalize hl : (ps.toList.map fun p => (p.1, E p.2)) = l at parts h
  have hll : l.length = (ps.map fun p => (p.1, ev p.2)).size := by rw [← hl]; simp
  have hll2 : l.length = ps.size := by rw [← hl]; simp
  unfold newSl at h
  rw [hl] at h
  split at h
  case h_2 => cases h
  rename_i e hs
  rw [fSg_eq] at h
  have pure1 : ∀ σ, Γ.sg e = σ → (if σ.pure = true ∧ σ ≠ .none ∧ len * σ.n ≤ 16777216 then
      (match fillRows σ (List.replicate len (List.replicate σ.n 0)) l with
      | some rows => some (AV.ow M.length len σ e, Blk.l σ rows)
      | .none => .none) else .none) = some (r, b) →
      ∃ v w' ρ', (Instr.buildSlice t len (ps.map fun p => (p.1, ev p.2))).run P w = .ok v w' ∧ After ρ M (M ++ [b]) w w' ρ' ∧ Den ρ' r v ∧ ∀ i ∈ r.ids, i < (M ++ [b]).length := by
    intro σ hσ h
    split at h
    case isFalse => cases h
    rename_i hc
    obtain ⟨hp, hn, hb⟩ := hc
    split at h
    case h_2 => cases h
    rename_i rows hf
    cases h
    have hpos := sg_pos hn
    subst hσ
    obtain ⟨f1, f2, f3⟩ := fillRows_fill (ρ := ρ) hp hpos l _ rows (by simp) (fun j i r hj => (parts j i r hj).imp fun v hv => hv.2) hf
    have hfl := Sg.flat_len _ hp
    have hrl := rep_len (Γ.sg e).flat len
    rw [hfl] at hrl
    rw [List.length_replicate] at f1 f3
    have hz : (List.replicate len (List.replicate (Γ.sg e).n (0 : Int))).flatten = List.replicate (len * (Γ.sg e).n) 0 := by simp [List.flatten_replicate_replicate]
    rw [hz] at f1
    obtain ⟨h1, h2, h3⟩ := run_buildSlice (w := w) (ρ := ρ) (parts := ps.map fun p => (p.1, ev p.2)) H hs hp hn hb hll parts f1
    let lc : Loc := { blk := w.heap.size, size := len * (Γ.sg e).n, room := len * (Γ.sg e).n, σ := Γ.sg e, ty := e }
    have q1 : BRel ρ lc (some (.cells (cellsV (rep len (Γ.sg e).flat) rows.flatten).toArray e (0, 0))) (.c (Γ.sg e) rows.flatten) := by
      refine ⟨_, rfl, ?_, rfl, hp, hpos, h2, Nat.le_refl _, fun j x hx => ?_⟩
      · simp [cellsV_len _ _ (by omega : (rep len (Γ.sg e).flat).length = rows.flatten.length), h2, lc]
      · have hj : j < len * (Γ.sg e).n := by have := (List.getElem?_eq_some_iff.1 hx).1; omega
        have hdiv : j / (Γ.sg e).n < len := by rw [Nat.div_lt_iff_lt_mul hpos]; exact hj
        have hmod := Nat.mod_lt j hpos
        have hsum : j / (Γ.sg e).n * (Γ.sg e).n + j % (Γ.sg e).n = j := by rw [Nat.mul_comm]; exact Nat.div_add_mod j (Γ.sg e).n
        have hr := rep_get (Γ.sg e).flat len (j / (Γ.sg e).n) (j % (Γ.sg e).n) hdiv (by omega)
        rw [hfl, hsum] at hr
        have hk : (Γ.sg e).flat[j % (Γ.sg e).n]? = some (lc.kind j) := by
          unfold Loc.kind
          show _ = some ((Γ.sg e).flat.getD (j % (Γ.sg e).n) .bool)
          rw [List.getD_eq_getElem?_getD, List.getElem?_eq_getElem (by omega)]; rfl
        rw [hk] at hr
        exact ⟨by rw [List.getElem?_toArray]; exact cellsV_get _ _ j x _ hx hr, cellsOk_get _ _ j x _ h3 hx hr⟩
    refine ⟨_, _, up ρ M.length lc, h1, After.alloc hM rfl (brel_cl f2 q1) (fun vs e => by cases e), ?_, fun i hi => by simp [AV.ids] at hi; simp [hi]⟩
    simp only [Den]
    rw [up_new]
    exact ⟨len, rfl, Nat.le_refl _, (by have : len * 1 ≤ len * (Γ.sg e).n := Nat.mul_le_mul_left _ hpos; simp only [maxLen]; omega), rfl, hpos, rfl, rfl, rfl⟩
  split at h
  · rename_i hσ
    split at h
    case h_2 => cases h
    rename_i xs hx
    split at h
    case isFalse => cases h
    rename_i hc
    obtain ⟨ho, hln, hb⟩ := hc
    cases h
    obtain ⟨x1, x2⟩ := allStr_len hx
    have hrun := run_buildOne (w := w) (l := l) (parts := ps.map fun p => (p.1, ev p.2)) H hs (.inl hσ) (by omega) hll ho (fun j i r hj => by
      obtain ⟨v, hv, hdv⟩ := parts j i r hj
      have hjl := (List.getElem?_eq_some_iff.1 hj).1
      obtain ⟨i', hi'⟩ := x2 j (xs[j]'(by omega)) (List.getElem?_eq_getElem (by omega))
      rw [hj] at hi'
      cases hi'
      obtain ⟨rfl, -⟩ := hdv
      exact ⟨_, hv, rfl⟩)
    rw [show l.length = len from by omega] at hrun
    let lc : Loc := { blk := w.heap.size, size := len * 1, room := len * 1, σ := .str, ty := e }
    refine ⟨_, _, up ρ M.length lc, hrun, After.alloc (l := lc) (b := .s xs) hM rfl ?_ (fun vs e => by cases e), ?_, fun i hi => by simp [AV.ids] at hi; simp [hi]⟩
    · refine ⟨_, rfl, by simp [lc, ← hll, hln, hll2], rfl, by simp [lc, x1, hll2, hln], Nat.le_refl _, fun j x hj => ?_⟩
      obtain ⟨i, hi⟩ := x2 j x hj
      obtain ⟨v, hv, hdv⟩ := parts j i _ hi
      obtain ⟨rfl, hsz⟩ := hdv
      refine ⟨?_, hsz⟩
      rw [List.getElem?_toArray, List.getElem?_map, hv]; rfl
    · simp only [Den]
      rw [up_new]
      exact ⟨len, rfl, Nat.le_refl _, by simp only [maxLen]; omega, rfl, Nat.one_pos, rfl, rfl, rfl⟩
  · rename_i hσ
    split at h
    case h_2 => cases h
    rename_i e2 hs2
    rw [fSg_eq] at h
    split at h
    case h_2 => cases h
    rename_i xs hx
    split at h
    case isFalse => cases h
    rename_i hc
    obtain ⟨ho, hln, hb⟩ := hc
    cases h
    obtain ⟨x1, x2⟩ := allFs_len hx
    have hrun := run_buildOne (w := w) (l := l) (parts := ps.map fun p => (p.1, ev p.2)) H hs (.inr hσ) (by omega) hll ho (fun j i r hj => by
      obtain ⟨v, hv, hdv⟩ := parts j i r hj
      have hjl := (List.getElem?_eq_some_iff.1 hj).1
      obtain ⟨i', hi'⟩ := x2 j (xs[j]'(by omega)) (List.getElem?_eq_getElem (by omega))
      rw [hj] at hi'
      cases hi'
      obtain ⟨-, -, -, a, cap, rfl, -⟩ := hdv
      exact ⟨_, hv, rfl⟩)
    rw [show l.length = len from by omega] at hrun
    let lc : Loc := { blk := w.heap.size, size := len * 1, room := len * 1, σ := .ref, ty := e }
    refine ⟨_, _, up ρ M.length lc, hrun, After.alloc (l := lc) (b := .rf (Γ.sg e2) xs) hM rfl ?_ (fun vs e => by cases e), ?_, fun i hi => by simp [AV.ids] at hi; simp [hi]⟩
    · refine ⟨_, rfl, by simp [lc, ← hll, hln, hll2], rfl, by simp [lc, x1, hll2, hln], Nat.le_refl _, fun j x hj => ?_⟩
      obtain ⟨i, hi⟩ := x2 j x hj
      obtain ⟨v, hv, hdv⟩ := parts j i _ hi
      refine ⟨v, ?_, hdv⟩
      rw [List.getElem?_toArray, List.getElem?_map, hv]; rfl
    · simp only [Den]
      rw [up_new]
      exact ⟨len, rfl, Nat.le_refl _, by simp only [maxLen]; omega, rfl, Nat.one_pos, rfl, rfl, rfl⟩
  · exact pure1 _ rfl h

end Go.Eng

/- The engine, part 9c: append, and rows of a length that is told. No conditions. -/
namespace Go.Eng
open Go Go.RowKit
set_option linter.unusedSectionVars false
variable [Glob]
variable {P : Program} {Γ : Tab}

/-- What a row of elements holds. -/
inductive Cn where
  | l (σ : Sg) (rows : List (List Int))
  | s (l : List ByteArray)
  | f (τ : Sg) (rowss : List (List (List Int)))

def Cn.blk : Cn → Blk
  | .l σ rows => .l σ rows
  | .s q => .s q
  | .f τ q => .rf τ q
def Cn.len : Cn → Nat
  | .l _ rows => rows.length
  | .s q => q.length
  | .f _ q => q.length
def Cn.sg : Cn → Sg
  | .l σ _ => σ
  | .s _ => .str
  | .f _ _ => .ref
def Cn.cat : Cn → Cn → Option Cn
  | .l σ xs, .l σ' ys => if σ' = σ then some (.l σ (xs ++ ys)) else .none
  | .s xs, .s ys => some (.s (xs ++ ys))
  | .f τ xs, .f τ' ys => if τ' = τ then some (.f τ (xs ++ ys)) else .none
  | _, _ => .none
def Cn.ok : Cn → Prop
  | .l σ _ => σ.pure = true
  | _ => True
/-- It lies there. -/
def Cn.at (F : Nat → Option Obj) (C : Array Value) (o : Nat) : Cn → Prop
  | .l σ rows => rowsAt C σ o rows
  | .s q => ∀ (j : Nat) (x : ByteArray), q[j]? = some x → C[o + j]? = some (Value.string x) ∧ x.size ≤ maxLen
  | .f τ q => ∀ (j : Nat) rows, q[j]? = some rows → ∃ y : Value, C[o + j]? = some y ∧ FS F τ rows y

theorem cn_brel {ρ : Rho} {l : Loc} {h : Option Obj} (c : Cn) : BRel ρ l h c.blk ↔ ∃ C : Array Value, h = some (.cells C l.ty (0, 0)) ∧ C.size = l.room ∧ l.σ = c.sg ∧ c.ok ∧ 0 < c.sg.n ∧ c.len * c.sg.n = l.size ∧ l.size ≤ l.room ∧ c.at ρ.F C 0 := by
  cases c with
  | l σ rows => exact Iff.rfl
  | s xs =>
    constructor
    · rintro ⟨C, h1, h2, h3, h4, h5, h6⟩
      exact ⟨C, h1, h2, h3, trivial, Nat.one_pos, by simpa [Cn.len, Cn.sg, Sg.n] using h4, h5, fun j x hj => by rw [Nat.zero_add]; exact h6 j x hj⟩
    · rintro ⟨C, h1, h2, h3, -, -, h4, h5, h6⟩
      exact ⟨C, h1, h2, h3, by simpa [Cn.len, Cn.sg, Sg.n] using h4, h5, fun j x hj => by have := h6 j x hj; rwa [Nat.zero_add] at this⟩
  | f τ xs =>
    constructor
    · rintro ⟨C, h1, h2, h3, h4, h5, h6⟩
      exact ⟨C, h1, h2, h3, trivial, Nat.one_pos, by simpa [Cn.len, Cn.sg, Sg.n] using h4, h5, fun j x hj => by rw [Nat.zero_add]; exact h6 j x hj⟩
    · rintro ⟨C, h1, h2, h3, -, -, h4, h5, h6⟩
      exact ⟨C, h1, h2, h3, by simpa [Cn.len, Cn.sg, Sg.n] using h4, h5, fun j x hj => by have := h6 j x hj; rwa [Nat.zero_add] at this⟩

theorem cn_live (c : Cn) : c.blk.live = true := by cases c <;> rfl

theorem cn_cells {F : Nat → Option Obj} {C : Array Value} {o : Nat} {c : Cn} (hn : 0 < c.sg.n) (h : c.at F C o) : ∀ j, j < c.len * c.sg.n → ∃ u, C[o + j]? = some u ∧ u.oneCell' = true := by
  cases c with
  | l σ rows =>
    intro j hj
    change j < rows.length * σ.n at hj
    change 0 < σ.n at hn
    have hdiv : j / σ.n < rows.length := by rw [Nat.div_lt_iff_lt_mul hn]; exact hj
    have hmod := Nat.mod_lt j hn
    have hsum : j / σ.n * σ.n + j % σ.n = j := by rw [Nat.mul_comm]; exact Nat.div_add_mod j σ.n
    obtain ⟨hl, hr⟩ := h (j / σ.n) _ (getD_some hdiv [])
    obtain ⟨h1, -⟩ := hr (j % σ.n) _ (getD_some (by omega) 0)
    rw [Nat.add_assoc, hsum] at h1
    exact ⟨_, h1, kind_val_one _ _⟩
  | s xs =>
    intro j hj
    have hj' : j < xs.length := by simpa [Cn.len, Cn.sg, Sg.n] using hj
    exact ⟨_, (h j _ (getD_some hj' ByteArray.empty)).1, rfl⟩
  | f τ xs =>
    intro j hj
    have hj' : j < xs.length := by simpa [Cn.len, Cn.sg, Sg.n] using hj
    obtain ⟨y, h1, -, -, -, a, cap, rfl, -⟩ := h j _ (getD_some hj' [])
    exact ⟨_, h1, rfl⟩

theorem cn_move {F : Nat → Option Obj} {C C' : Array Value} {o o' : Nat} {c : Cn} (hn : 0 < c.sg.n) (h : c.at F C o) (he : ∀ j, j < c.len * c.sg.n → C'[o' + j]? = C[o + j]?) : c.at F C' o' := by
  cases c with
  | l σ rows =>
    intro i row hi
    change 0 < σ.n at hn
    obtain ⟨hl, hr⟩ := h i row hi
    have hil := (List.getElem?_eq_some_iff.1 hi).1
    refine ⟨hl, fun j y hj => ?_⟩
    have hjl := (List.getElem?_eq_some_iff.1 hj).1
    obtain ⟨h1, h2⟩ := hr j y hj
    have hlt : i * σ.n + j < rows.length * σ.n := by
      have : (i + 1) * σ.n ≤ rows.length * σ.n := Nat.mul_le_mul_right _ hil
      rw [Nat.succ_mul] at this; omega
    have := he (i * σ.n + j) hlt
    rw [← Nat.add_assoc, ← Nat.add_assoc] at this
    exact ⟨by rw [this]; exact h1, h2⟩
  | s xs =>
    intro j x hj
    have hjl := (List.getElem?_eq_some_iff.1 hj).1
    obtain ⟨h1, h2⟩ := h j x hj
    exact ⟨by rw [he j (by simpa [Cn.len, Cn.sg, Sg.n] using hjl)]; exact h1, h2⟩
  | f τ xs =>
    intro j x hj
    have hjl := (List.getElem?_eq_some_iff.1 hj).1
    obtain ⟨y, h1, h2⟩ := h j x hj
    exact ⟨y, by rw [he j (by simpa [Cn.len, Cn.sg, Sg.n] using hjl)]; exact h1, h2⟩

theorem cn_cat_at {F : Nat → Option Obj} {C : Array Value} {c1 c2 c : Cn} (hc : Cn.cat c1 c2 = some c) (h1 : c1.at F C 0) (h2 : c2.at F C (c1.len * c1.sg.n)) : c.at F C 0 ∧ c.len = c1.len + c2.len ∧ c.sg = c1.sg ∧ c2.sg = c1.sg ∧ (c1.ok → c.ok) := by
  unfold Cn.cat at hc
  split at hc
  · split at hc
    · rename_i σ xs σ' ys e
      subst e
      cases hc
      refine ⟨fun i row hi => ?_, by simp [Cn.len], rfl, rfl, id⟩
      rw [Nat.zero_add]
      rw [List.getElem?_append] at hi
      split at hi
      · have := h1 i row hi; rwa [Nat.zero_add] at this
      · rename_i hlt
        have := h2 _ row hi
        change rowAt C σ' (xs.length * σ'.n + (i - xs.length) * σ'.n) row at this
        rwa [← Nat.add_mul, show xs.length + (i - xs.length) = i from by omega] at this
    · cases hc
  · cases hc
    rename_i xs ys
    refine ⟨fun i row hi => ?_, by simp [Cn.len], rfl, rfl, id⟩
    rw [Nat.zero_add]
    rw [List.getElem?_append] at hi
    split at hi
    · have := h1 i row hi; rwa [Nat.zero_add] at this
    · rename_i hlt
      have := h2 _ row hi
      change C[xs.length * 1 + (i - xs.length)]? = _ ∧ _ at this
      rwa [Nat.mul_one, show xs.length + (i - xs.length) = i from by omega] at this
  · split at hc
    · rename_i σ xs σ' ys e
      subst e
      cases hc
      refine ⟨fun i row hi => ?_, by simp [Cn.len], rfl, rfl, id⟩
      rw [Nat.zero_add]
      rw [List.getElem?_append] at hi
      split at hi
      · have := h1 i row hi; rwa [Nat.zero_add] at this
      · rename_i hlt
        have := h2 _ row hi
        change ∃ y : Value, C[xs.length * 1 + (i - xs.length)]? = _ ∧ _ at this
        rwa [Nat.mul_one, show xs.length + (i - xs.length) = i from by omega] at this
    · cases hc
  · cases hc

/-- What a slice holds. -/
def srcOf (M : List Blk) : AV → Option Cn
  | .ow id _ _ _ => match M[id]? with
    | some (.l σ rows) => some (.l σ rows)
    | some (.s l) => some (.s l)
    | some (.rf τ l) => some (.f τ l)
    | _ => .none
  | .fs σ rows => some (.l σ rows)
  | .fstr l => some (.s l)
  | .fz τ l => some (.f τ l)
  | _ => .none

theorem own_src {ρ : Rho} {M : List Blk} {w : World} (hM : MRel ρ M w) {id n : Nat} {σ : Sg} {e : TypeId} {c : Cn} (h : srcOf M (.ow id n σ e) = some c) : M[id]? = some c.blk := by
  simp only [srcOf] at h
  split at h <;> first | (rename_i hm; cases h; exact hm) | cases h

theorem src_sound {ρ : Rho} {M : List Blk} {w : World} (hM : MRel ρ M w) {x : AV} {v : Value} {c : Cn} (h : srcOf M x = some c) (hd : Den ρ x v) :
    ∃ a cap, v = .slice a c.len cap ∧ c.len ≤ maxLen ∧ c.ok ∧ 0 < c.sg.n ∧ (c.len = 0 ∨ ∃ k o C ty fz, a = some ⟨k, o, none⟩ ∧ w.heap[k]? = some (.cells C ty fz) ∧ c.at ρ.F C o) := by
  cases x <;> simp only [srcOf, reduceCtorEq] at h
  case ow id n σ e =>
    have hm := own_src hM (n := n) (σ := σ) (e := e) h
    obtain ⟨C, h1, h2, h3, h4, h5, h6, h7, h8⟩ := (cn_brel c).1 (hM.blk id _ hm)
    obtain ⟨cap, rfl, q1, q2, q3, q4, q5, q6, q7⟩ := hd
    have hs : c.sg = σ := by rw [← h3, q3]
    have hn : c.len = n := Nat.eq_of_mul_eq_mul_right q4 (by rw [← hs, h6, hs, q5])
    rw [hn]
    exact ⟨_, cap, rfl, Nat.le_trans q1 q2, h4, h5, .inr ⟨_, 0, C, _, _, rfl, h1, h8⟩⟩
  case fs σ rows =>
    cases h
    obtain ⟨h1, h2, h3, a, cap, rfl, -, h5⟩ := hd
    refine ⟨a, cap, rfl, h3, h1, h2, h5.imp (fun h => by rw [h]; rfl) ?_⟩
    rintro ⟨k, o, C, ty, fz, rfl, g2, g3⟩
    exact ⟨k, o, C, ty, fz, rfl, (hM.env _ _ g2).1, g3.1⟩
  case fz σ rows =>
    cases h
    obtain ⟨h3, a, cap, rfl, -, h5⟩ := hd
    refine ⟨a, cap, rfl, h3, trivial, Nat.one_pos, h5.imp (fun h => by rw [h]; rfl) ?_⟩
    rintro ⟨k, o, C, ty, fz, rfl, g2, g3⟩
    exact ⟨k, o, C, ty, fz, rfl, (hM.env _ _ g2).1, g3.2⟩
  case fstr l =>
    cases h
    obtain ⟨h3, a, cap, rfl, -, h5⟩ := hd
    refine ⟨a, cap, rfl, h3, trivial, Nat.one_pos, h5.imp (fun h => by rw [h]; rfl) ?_⟩
    rintro ⟨k, o, C, ty, fz, rfl, g2, g3⟩
    exact ⟨k, o, C, ty, fz, rfl, (hM.env _ _ g2).1, g3⟩

/-- A row has grown: its old id is dead, the new one is the last. -/
theorem After.grown {ρ : Rho} {M M1 : List Blk} {w w' : World} (hM : MRel ρ M w) {row : Option Nat} {l : Loc} {b : Blk} {o : Obj} (hg : w.grownBy w' row) (hl : l.blk = w.heap.size ∨ some l.blk = row)
    (ho : w'.heap[l.blk]? = some o) (hb : BRel ρ l (some o) b) (hbl : b.live = true) (hcl : ∀ vs, b = .r vs → ∀ x ∈ vs, ∀ i ∈ x.ids, i < M.length)
    (hlen : M1.length = M.length) (hsub : ∀ (i : Nat) (c : Blk), M1[i]? = some c → c = .dead ∨ M[i]? = some c) (hrow : ∀ k, row = some k → ∃ id, liveAt M id ∧ (ρ id).blk = k) (hnr : ∀ i, liveAt M1 i → some (ρ i).blk ≠ row) :
    After ρ M (M1 ++ [b]) w w' (up ρ M.length l) := by
  have l1 : ∀ i, liveAt M1 i → liveAt M i := by
    rintro i ⟨c, hc, hv⟩
    rcases hsub i c hc with rfl | h
    · cases hv
    · exact ⟨c, h, hv⟩
  have lo : ∀ i, liveAt (M1 ++ [b]) i → i < M.length → liveAt M1 i := by
    rintro i ⟨c, hc, hv⟩ hi
    rw [List.getElem?_append_left (by omega)] at hc
    exact ⟨c, hc, hv⟩
  have ll : ∀ i, liveAt (M1 ++ [b]) i → i < M.length ∨ i = M.length := by
    intro i hi
    have := hi.lt
    simp at this; omega
  have hne : ∀ i, liveAt M1 i → (ρ i).blk ≠ l.blk := by
    intro i hi he
    rcases hl with h | h
    · have := hM.blk_lt (l1 i hi); omega
    · exact hnr i hi (by rw [he, h])
  refine ⟨fun id hid => up_old hid, ⟨?_, ?_, ?_, ?_⟩, by simp [hlen], fun id hid hlv => l1 id (lo id hlv hid), ?_, ?_, hg.os, hg.tape, hg.output, hg.size, up_le, fun _ _ h => .inl h⟩
  · intro id c hc
    by_cases hid : id < M.length
    · rw [List.getElem?_append_left (by omega)] at hc
      rw [up_old hid]
      rcases hsub id c hc with rfl | h
      · trivial
      · by_cases hdead : c.live = true
        · rw [hg.block _ (hM.blk_lt ⟨c, h, hdead⟩) (hnr id ⟨c, hc, hdead⟩)]
          exact (hM.blk id c h).congr up_le (by rintro vs rfl x hx i hi; exact up_old (hM.cl id vs h x hx i hi))
        · cases c <;> first | trivial | (exact absurd rfl hdead)
    · have hid' : id = M.length := by have := (List.getElem?_eq_some_iff.1 hc).1; simp at this; omega
      subst hid'
      rw [List.getElem?_append_right (by omega)] at hc
      simp only [hlen, Nat.sub_self, List.getElem?_cons_zero, Option.some.injEq] at hc
      subst hc
      rw [up_new, ho]
      exact hb.congr up_le (fun vs e x hx i hi => up_old (hcl vs e x hx i hi))
  · intro i j hi hj he
    rcases ll i hi with hi' | rfl
    · rcases ll j hj with hj' | rfl
      · rw [up_old hi', up_old hj'] at he
        exact hM.inj i j (l1 i (lo i hi hi')) (l1 j (lo j hj hj')) he
      · rw [up_old hi', up_new] at he
        exact absurd he (hne i (lo i hi hi'))
    · rcases ll j hj with hj' | rfl
      · rw [up_new, up_old hj'] at he
        exact absurd he.symm (hne j (lo j hj hj'))
      · rfl
  · intro id vs hb' x hx i hi
    simp only [List.length_append, List.length_cons, List.length_nil, hlen]
    by_cases hid : id < M.length
    · rw [List.getElem?_append_left (by omega)] at hb'
      rcases hsub id _ hb' with h | h
      · cases h
      · have := hM.cl id vs h x hx i hi; omega
    · have hid' : id = M.length := by have := (List.getElem?_eq_some_iff.1 hb').1; simp at this; omega
      subst hid'
      rw [List.getElem?_append_right (by omega)] at hb'
      simp only [hlen, Nat.sub_self, List.getElem?_cons_zero, Option.some.injEq] at hb'
      have := hcl vs hb' x hx i hi
      omega
  · intro k o' hk
    obtain ⟨e1, e2⟩ := hM.env k o' hk
    have hkl : k < w.heap.size := (Array.getElem?_eq_some_iff.1 e1).1
    have hkr : some k ≠ row := by
      intro e
      obtain ⟨id, h1, h2⟩ := hrow k e.symm
      exact e2 id h1 h2
    refine ⟨by rw [hg.block k hkl hkr]; exact e1, fun i hi he => ?_⟩
    rcases ll i hi with hi' | rfl
    · rw [up_old hi'] at he
      exact e2 i (l1 i (lo i hi hi')) he
    · rw [up_new] at he
      rcases hl with h | h
      · omega
      · rw [he] at h; exact hkr h
  · intro id hid hlv
    rcases ll id hlv with h | rfl
    · omega
    · rw [up_new]
      rcases hl with h | h
      · exact .inl (Nat.le_of_eq h.symm)
      · obtain ⟨i, h1, h2⟩ := hrow _ h.symm
        exact .inr ⟨i, h1.lt, h1, h2.symm⟩
  · intro k hk hn
    refine hg.block k hk (fun e => ?_)
    obtain ⟨i, h1, h2⟩ := hrow k e.symm
    exact hn i h1 h2

/-- append. -/
def appAV (Γ : Tab) (M : List Blk) (ts : Array TypeId) (s x : AV) : Option (AV × List Blk × List Prop) :=
  match ts.toList with
  | [t, t'] => if t' = t then (match Γ.sl t with
    | some e => (match srcOf M x with
      | some c2 => if c2.sg = Γ.sg e then (match s with
        | .ow id n σ e' => if e' = e then (match srcOf M (.ow id n σ e') with
          | some c1 => (match Cn.cat c1 c2 with
            | some c => fSg c2.sg fun σ => some (.ow M.length c.len σ e, M.set id .dead ++ [c.blk], [c.len ≤ 1073741824])
            | .none => .none)
          | .none => .none) else .none
        | .nsl => fSg c2.sg fun σ => some (.ow M.length c2.len σ e, M ++ [c2.blk], [0 < c2.len ∧ c2.len ≤ 1073741824])
        | .es => fSg c2.sg fun σ => some (.ow M.length c2.len σ e, M ++ [c2.blk], [0 < c2.len ∧ c2.len ≤ 1073741824])
        | .fs σ rows => some (.fs σ rows, M, [c2.len = 0])
        | _ => .none) else .none
      | .none => .none)
    | .none => .none) else .none
  | _ => .none

theorem appAV_sound (H : TabOk P Γ) {ρ : Rho} {M M' : List Blk} {w : World} (hM : MRel ρ M w) {ts : Array TypeId} {s x r : AV} {u v : Value} {vs : List Prop} {ty : TypeId}
    (hs : Den ρ s u) (hx : Den ρ x v) (h : appAV Γ M ts s x = some (r, M', vs)) (hv : allP vs) :
    ∃ z w' ρ', (Builtin.append_ ts ty #[u, v]).run P w = .ok z w' ∧ After ρ M M' w w' ρ' ∧ Den ρ' r z ∧ ∀ i ∈ r.ids, i < M'.length := by
  unfold appAV at h
  split at h
  case h_2 => cases h
  rename_i t t' hts
  split at h
  case isFalse => cases h
  rename_i ett
  subst ett
  have hts' : ts = #[t', t'] := by apply Array.toList_inj.1; exact hts
  subst hts'
  split at h
  case h_2 => cases h
  rename_i e hsl
  split at h
  case h_2 => cases h
  rename_i c2 hc2
  split at h
  case isFalse => cases h
  rename_i hsg
  have hu := H.sl t' e hsl
  obtain ⟨a, cap, rfl, hmx, hok2, hn2, hsrc⟩ := src_sound hM hc2 hx
  have hne : Γ.sg e ≠ .none := by intro e0; rw [hsg, e0] at hn2; simp [Sg.n] at hn2
  obtain ⟨ti, z, hi, hsz, hz, hzo, hby⟩ := H.parts5 rfl hne
  have hzs : z.cells.size = (Γ.sg e).n := by
    by_cases hp : (Γ.sg e).pure = true
    · rw [zero_cells hp hzo]; simp [cellsV_len _ _ (by simp [Sg.flat_len _ hp] : (Γ.sg e).flat.length = (List.replicate (Γ.sg e).n (0:Int)).length)]
    · revert hzo hp
      generalize Γ.sg e = σ
      intro hzo hp
      have h1 : σ.n = 1 := by cases σ <;> first | rfl | (exact absurd rfl hp)
      rw [h1]
      unfold zeroOk at hzo
      split at hzo <;> first | rfl | (simp [hp] at hzo) | cases hzo
  -- the cells that come behind
  have news : ∃ nl : List Value, nl.length = c2.len * (Γ.sg e).n ∧ (∀ q ∈ nl, q.oneCell' = true) ∧ (c2.len = 0 ∨ ∃ k o C ty fz, a = some ⟨k, o, none⟩ ∧ w.heap[k]? = some (.cells C ty fz) ∧ c2.at ρ.F C o ∧ ∀ j, j < c2.len * (Γ.sg e).n → nl[j]? = C[o + j]?) := by
    rcases hsrc with h0 | ⟨k, o, C, ty', fz, rfl, g1, g2⟩
    · exact ⟨[], by rw [h0]; simp, by simp, .inl h0⟩
    · have hcell := cn_cells hn2 g2
      rw [hsg] at hcell
      have hex : ∀ n, n ≤ c2.len * (Γ.sg e).n → ∃ nl : List Value, nl.length = n ∧ (∀ q ∈ nl, q.oneCell' = true) ∧ ∀ j, j < n → nl[j]? = C[o + j]? := by
        intro n
        induction n with
        | zero => intro _; exact ⟨[], rfl, by simp, fun j hj => by omega⟩
        | succ n ih =>
          intro hn
          obtain ⟨nl, q1, q2, q3⟩ := ih (by omega)
          obtain ⟨u, hu1, hu2⟩ := hcell n (by omega)
          refine ⟨nl ++ [u], by simp [q1], fun q hq => ?_, fun j hj => ?_⟩
          · rcases List.mem_append.1 hq with h | h
            · exact q2 q h
            · simp at h; subst h; exact hu2
          · by_cases hjn : j < n
            · rw [List.getElem?_append_left (by omega)]; exact q3 j hjn
            · have : j = n := by omega
              subst this
              rw [List.getElem?_append_right (by omega), q1, Nat.sub_self, hu1]; rfl
      obtain ⟨nl, q1, q2, q3⟩ := hex _ (Nat.le_refl _)
      exact ⟨nl, q1, q2, .inr ⟨k, o, C, ty', fz, rfl, g1, g2, q3⟩⟩
  obtain ⟨nl, nl1, nl2, nl3⟩ := news
  have hnews : c2.len ≠ 0 → ∃ ad, a = some ad ∧ ∀ j q, nl[j]? = some q → w.cell? (ad.add j) = some q := by
    intro h0
    rcases nl3 with h | ⟨k, o, C, ty', fz, rfl, g1, g2, g3⟩
    · exact absurd h h0
    · refine ⟨_, rfl, fun j q hj => ?_⟩
      have hjl := (List.getElem?_eq_some_iff.1 hj).1
      rw [add_addr]
      exact run_load_c g1 (by rw [← g3 j (by omega)]; exact hj)
  -- onto a nil slice, or one without room
  have fresh : ∀ a0, u = .slice a0 0 0 → 0 < c2.len → c2.len ≤ 1073741824 → ∃ z' w', (Builtin.append_ #[t', t'] ty #[u, .slice a c2.len cap]).run P w = .ok z' w' ∧ After ρ M (M ++ [c2.blk]) w w' (up ρ M.length { blk := w.heap.size, size := c2.len * c2.sg.n, room := (grownCap w c2.len 0 e) * c2.sg.n, σ := c2.sg, ty := e }) ∧
      z' = .slice (some ⟨w.heap.size, 0, none⟩) c2.len (grownCap w c2.len 0 e) ∧ c2.len ≤ grownCap w c2.len 0 e ∧ grownCap w c2.len 0 e ≤ maxLen := by
    rintro a0 rfl h0 h30
    obtain ⟨ad, rfl, hcells⟩ := hnews (by omega)
    have hbytes : c2.len * ti.bytes ≤ 1073741824 * 4096 := Nat.mul_le_mul h30 hby
    have hrun : (Builtin.append_ #[t', t'] ty #[.slice a0 0 0, .slice (some ad) c2.len cap]).run P w = .ok (.slice (some ⟨w.heap.size, 0, none⟩) c2.len (grownCap w c2.len 0 e)) (w.drew.alloc (.cells (nl.toArray ++ Builtin.zeroCells z.cells (grownCap w c2.len 0 e - c2.len)) e)) := by
      cases a0 with
      | none => exact run_append_nil w t' ty e ti z hu hi hz ad c2.len cap nl (by rw [nl1, hsz]) hcells h0 (by omega) (by omega)
      | some b0 =>
        have := run_append_grow w t' ty e ti z hu hi hz b0 0 0 [] (by simp) (by simp) ad c2.len cap nl (by rw [nl1, hsz]) hcells (by omega) (by omega) (growslice_fits (by omega) (by rw [Nat.zero_add]; omega))
        simpa using this
    have hge := grownCap_ge w c2.len 0 e
    have hle := grownCap_le_maxLen w c2.len 0 e (by simp only [maxLen]; omega)
    refine ⟨_, _, hrun, ?_, rfl, hge, hle⟩
    have hgb : w.grownBy (w.drew.alloc (.cells (nl.toArray ++ Builtin.zeroCells z.cells (grownCap w c2.len 0 e - c2.len)) e)) none := ⟨rfl, rfl, rfl, by simp, fun k hk _ => heap_alloc_old w.drew _ hk⟩
    refine After.grown hM hgb (.inl rfl) (heap_alloc_new w.drew _) ((cn_brel c2).2 ⟨_, rfl, ?_, rfl, hok2, hn2, rfl, Nat.mul_le_mul_right _ hge, ?_⟩) (cn_live c2) (fun vs e => by cases c2 <;> cases e) rfl (fun i c h => .inr h) (fun k h => by cases h) (fun i _ => by simp)
    · simp only [Array.size_append, List.size_toArray, size_zeroCells, hzs, nl1, ← Nat.add_mul, hsg]
      congr 1; omega
    · rcases nl3 with h | ⟨k, o, C, ty', fz, -, g1, g2, g3⟩
      · omega
      · refine cn_move hn2 g2 fun j hj => ?_
        rw [hsg] at hj
        rw [Nat.zero_add, Array.getElem?_append_left (by simp; omega), List.getElem?_toArray]
        exact g3 j hj
  split at h
  · -- onto a row of one's own
    rename_i id n σ e'
    split at h
    case isFalse => cases h
    rename_i ee
    subst ee
    split at h
    case h_2 => cases h
    rename_i c1 hc1
    split at h
    case h_2 => cases h
    rename_i c hc
    rw [fSg_eq] at h
    cases h
    have hm := own_src hM hc1
    obtain ⟨C1, b1, b2, b3, b4, b5, b6, b7, b8⟩ := (cn_brel c1).1 (hM.blk id _ hm)
    obtain ⟨cap1, rfl, q1, q2, q3, q4, q5, q6, q7⟩ := hs
    have hs1 : c1.sg = σ := by rw [← b3, q3]
    have hn1 : c1.len = n := Nat.eq_of_mul_eq_mul_right q4 (by rw [← hs1, b6, hs1, q5])
    have hcsg : c2.sg = c1.sg ∧ c.len = c1.len + c2.len := by
      have := hc
      unfold Cn.cat at this
      split at this
      · split at this
        · rename_i e0; cases this; exact ⟨e0, by simp [Cn.len]⟩
        · cases this
      · cases this; exact ⟨rfl, by simp [Cn.len]⟩
      · split at this
        · cases this; exact ⟨rfl, by simp [Cn.len]⟩
        · cases this
      · cases this
    have hσe : σ = Γ.sg e' := by rw [← hs1, ← hcsg.1, hsg]
    have h30 : c.len ≤ 1073741824 := hv.1
    rw [hcsg.2] at h30
    have hbytes : (c1.len + c2.len) * ti.bytes ≤ 1073741824 * 4096 := Nat.mul_le_mul h30 hby
    have hown : w.ownsRow 0 e' (Γ.sg e').n (.slice (some ⟨(ρ id).blk, 0, none⟩) n cap1) n (C1.toList.take (n * (Γ.sg e').n)) := by
      refine ⟨?_, .inr ⟨_, cap1, C1, rfl, Nat.zero_le _, by rw [← q7]; exact b1, q1, q2, by rw [b2, q6, hσe], rfl⟩⟩
      rw [List.length_take, Array.length_toList, b2, q6, hσe]
      exact Nat.min_eq_left (Nat.mul_le_mul_right _ q1)
    -- its run
    have hrun : ∃ v' w', (Builtin.append_ #[t', t'] ty #[.slice (some ⟨(ρ id).blk, 0, none⟩) n cap1, .slice a c2.len cap]).run P w = .ok v' w' ∧ w'.ownsRow 0 e' (Γ.sg e').n v' (n + c2.len) (C1.toList.take (n * (Γ.sg e').n) ++ nl) ∧
        w.grownBy w' (some (ρ id).blk) ∧ (v'.ownBlock = some (ρ id).blk ∨ v'.ownBlock = some w.heap.size) := by
      by_cases h0 : c2.len = 0
      · refine ⟨.slice (some ⟨(ρ id).blk, 0, none⟩) n cap1, w, ?_, ?_, ⟨rfl, rfl, rfl, Nat.le_refl _, fun _ _ _ => rfl⟩, .inl rfl⟩
        · have hfc : (Builtin.firstCells ti.size 0 (.slice a 0 cap)).run P w = .ok #[] w := by
            cases a <;> simp [Builtin.firstCells, loadCells, loadCellsFrom]
          have hsc : ∀ ad : Addr, (storeCells ad []).run P w = .ok () w := by intro ad; simp [storeCells]
          rw [h0]
          simp [Builtin.append_, run_underlying hu, sizeOf, typeInfo, hi, Builtin.lenOf, q1, hfc, hsc]
        · have hnl : nl = [] := List.eq_nil_of_length_eq_zero (by rw [nl1, h0, Nat.zero_mul])
          rw [h0, hnl, List.append_nil, Nat.add_zero]
          exact hown
      · obtain ⟨ad, rfl, hcells⟩ := hnews h0
        obtain ⟨v', w', r1, r2, r3, -, r5⟩ := run_append_own_at (P := P) w 0 t' ty e' ti z (Γ.sg e').n ti.bytes hu hi hz hsz rfl hzs (by rw [← hσe]; exact q4) _ n _ hown ad c2.len cap nl nl1 hcells nl2 (by simp only [maxLen]; omega) (by rw [← hn1]; omega) (Nat.zero_le _)
        exact ⟨v', w', r1, r2, r3, r5⟩
    obtain ⟨v', w', r1, r2, r3, r5⟩ := hrun
    obtain ⟨hlen, hrow⟩ := r2
    rcases hrow with ⟨rfl, -⟩ | ⟨g, cap', cur, rfl, -, hg, hcap, hcapm, hcs, htake⟩
    · rcases r5 with h | h <;> simp [Value.ownBlock] at h
    · have hgb : g = w.heap.size ∨ some g = some (ρ id).blk := by
        rcases r5 with h | h
        · right; simpa [Value.ownBlock] using h
        · left; simpa [Value.ownBlock] using h
      let l : Loc := { blk := g, size := c.len * σ.n, room := cap' * σ.n, σ := σ, ty := e' }
      have hcur : ∀ j, j < (n + c2.len) * σ.n → cur[j]? = (C1.toList.take (n * σ.n) ++ nl)[j]? := by
        intro j hj
        rw [← hσe] at htake
        rw [← htake, List.getElem?_take_of_lt hj, Array.getElem?_toList]
      have hl1 : (C1.toList.take (n * σ.n)).length = n * σ.n := by
        have := hown.1; rwa [← hσe] at this
      have hat1 : c1.at ρ.F cur 0 := by
        refine cn_move b5 b8 fun j hj => ?_
        rw [hn1, hs1] at hj
        rw [Nat.zero_add, hcur j (by rw [Nat.add_mul]; omega), List.getElem?_append_left (by omega), List.getElem?_take_of_lt hj, Array.getElem?_toList]
      have hat2 : c2.at ρ.F cur (c1.len * c1.sg.n) := by
        rw [hn1, hs1]
        rcases nl3 with h | ⟨k, o, C, ty', fz, -, g1, g2, g3⟩
        · revert h
          cases c2 with
          | l σ' rows => intro h i row hi; have := (List.getElem?_eq_some_iff.1 hi).1; simp [Cn.len] at h; subst h; simp at this
          | s l' => intro h i row hi; have := (List.getElem?_eq_some_iff.1 hi).1; simp [Cn.len] at h; subst h; simp at this
          | f τ l' => intro h i row hi; have := (List.getElem?_eq_some_iff.1 hi).1; simp [Cn.len] at h; subst h; simp at this
        · refine cn_move hn2 g2 fun j hj => ?_
          rw [hsg] at hj
          rw [hcur _ (by rw [Nat.add_mul, hσe]; omega), List.getElem?_append_right (by omega), hl1, ← g3 j hj]
          congr 1; omega
      obtain ⟨k1, k2, k3, k4, k5⟩ := cn_cat_at hc hat1 hat2
      have hlt : id < M.length := (List.getElem?_eq_some_iff.1 hm).1
      have hlive : liveAt M id := ⟨_, hm, cn_live c1⟩
      have hA : After ρ M (M.set id .dead ++ [c.blk]) w w' (up ρ M.length l) := by
        refine After.grown hM r3 hgb hg ((cn_brel c).2 ⟨cur, rfl, (by show cur.size = cap' * σ.n; rw [hcs, hσe]), (by show σ = _; rw [k3, hs1]), k5 b4, by rw [k3]; exact b5, (by show _ = c.len * σ.n; rw [k3, hs1]), ?_, k1⟩) (cn_live c) (fun vs e => by cases c <;> cases e) (by simp) ?_ (fun k h => by cases h; exact ⟨id, hlive, rfl⟩) ?_
        · show c.len * σ.n ≤ cap' * σ.n
          exact Nat.mul_le_mul_right _ (by rw [k2, hn1]; exact hcap)
        · intro i d hd
          rw [List.getElem?_set] at hd
          split at hd
          · cases hd; exact .inl rfl
          · exact .inr hd
        · rintro i ⟨d, hd, hdl⟩ he
          rw [List.getElem?_set] at hd
          split at hd
          · cases hd; cases hdl
          · rename_i hne'
            exact hne' (hM.inj id i hlive ⟨d, hd, hdl⟩ (by simpa using he.symm))
      refine ⟨_, _, up ρ M.length l, r1, hA, ?_, fun i hi => by simp [AV.ids] at hi; simp [hi]⟩
      simp only [Den]
      rw [up_new]
      refine ⟨cap', by rw [k2, hn1], by rw [k2, hn1]; exact hcap, hcapm, by rw [k4, hs1], by rw [k4, hs1]; exact q4, by rw [k4, hs1], by rw [k4, hs1], rfl⟩
  · rw [fSg_eq] at h
    cases h
    simp only [Den] at hs
    obtain ⟨z', w', h1, h2, rfl, h4, h5⟩ := fresh none hs hv.1.1 hv.1.2
    refine ⟨_, _, _, h1, h2, ?_, fun i hi => by simp [AV.ids] at hi; simp [hi]⟩
    simp only [Den]
    rw [up_new]
    exact ⟨_, rfl, h4, h5, rfl, hn2, rfl, rfl, rfl⟩
  · rw [fSg_eq] at h
    cases h
    obtain ⟨a0, hs⟩ := hs
    obtain ⟨z', w', h1, h2, rfl, h4, h5⟩ := fresh a0 hs hv.1.1 hv.1.2
    refine ⟨_, _, _, h1, h2, ?_, fun i hi => by simp [AV.ids] at hi; simp [hi]⟩
    simp only [Den]
    rw [up_new]
    exact ⟨_, rfl, h4, h5, rfl, hn2, rfl, rfl, rfl⟩
  · -- nothing behind a frozen row
    rename_i σ rows
    cases h
    have h0 : c2.len = 0 := hv.1
    have hs' := hs
    obtain ⟨-, -, -, a1, cap1, rfl, q1, -⟩ := hs
    refine ⟨.slice a1 rows.length cap1, w, ρ, ?_, After.refl hM, hs', fun i hi => (by simp [AV.ids] at hi)⟩
    have hfc : (Builtin.firstCells ti.size 0 (.slice a 0 cap)).run P w = .ok #[] w := by
      cases a <;> simp [Builtin.firstCells, loadCells, loadCellsFrom]
    have hsc : ∀ ad : Addr, (storeCells ad []).run P w = .ok () w := by intro ad; simp [storeCells]
    rw [h0]
    cases a1 <;> simp [Builtin.append_, run_underlying hu, sizeOf, typeInfo, hi, Builtin.lenOf, q1, hfc, hsc]
  · cases h

end Go.Eng

/- The engine, part 9d: rows of zeros; a row that is cut; rows that are frozen. No conditions. -/
namespace Go.Eng
open Go Go.RowKit
set_option linter.unusedSectionVars false
variable [Glob]
variable {P : Program} {Γ : Tab}

theorem zero_row (H : TabOk P Γ) {e : TypeId} {z : Value} {len : Nat} (hp : (Γ.sg e).pure = true) (hpos : 0 < (Γ.sg e).n) (hzo : zeroOk (Γ.sg e) z = true) :
    ((Array.range (len * (Γ.sg e).n)).map fun x => z.cells[x % z.cells.size]!) = (cellsV (rep len (Γ.sg e).flat) (List.replicate (len * (Γ.sg e).n) 0)).toArray := by
  have hfl := Sg.flat_len _ hp
  have hrl := rep_len (Γ.sg e).flat len
  rw [hfl] at hrl
  have hzc := zero_cells hp hzo
  have hzl : z.cells.size = (Γ.sg e).n := by rw [hzc]; simp [cellsV_len _ _ (by simp [hfl] : (Γ.sg e).flat.length = (List.replicate (Γ.sg e).n (0:Int)).length)]
  apply Array.ext_getElem?
  intro j
  rw [Array.getElem?_map, Array.getElem?_range, List.getElem?_toArray]
  by_cases hj : j < len * (Γ.sg e).n
  · rw [if_pos hj]
    have hdiv : j / (Γ.sg e).n < len := by rw [Nat.div_lt_iff_lt_mul hpos]; exact hj
    have hmod := Nat.mod_lt j hpos
    have hsum : j / (Γ.sg e).n * (Γ.sg e).n + j % (Γ.sg e).n = j := by rw [Nat.mul_comm]; exact Nat.div_add_mod j (Γ.sg e).n
    have hr := rep_get (Γ.sg e).flat len (j / (Γ.sg e).n) (j % (Γ.sg e).n) hdiv (by omega)
    rw [hfl, hsum] at hr
    have hk : (Γ.sg e).flat[j % (Γ.sg e).n]? = some ((Γ.sg e).flat[j % (Γ.sg e).n]'(by omega)) := List.getElem?_eq_getElem _
    rw [hk] at hr
    rw [cellsV_get _ _ j 0 _ (by rw [List.getElem?_replicate, if_pos hj]) hr]
    have h2 := cellsV_get (Γ.sg e).flat (List.replicate (Γ.sg e).n 0) (j % (Γ.sg e).n) 0 _ (by rw [List.getElem?_replicate, if_pos hmod]) hk
    simp only [Option.map_some, hzl]
    rw [hzc, Array.getElem!_eq_getD, Array.getD_eq_getD_getElem?, List.getElem?_toArray, h2]
    rfl
  · rw [if_neg hj, List.getElem?_eq_none (by rw [cellsV_len _ _ (by simp [hrl])]; simp; omega)]
    rfl

/-- make. -/
def mkAV (Γ : Tab) (M : List Blk) (t : TypeId) (len cap : AV) : Option (AV × Blk × List Prop) :=
  match Γ.sl t, len, cap with
  | some e, .i _ n, .i _ c => fSg (Γ.sg e) fun σ => match σ with
    | .str => some (.ow M.length n.toNat .str e, .s (List.replicate n.toNat ByteArray.empty), [0 ≤ n ∧ c = n ∧ n ≤ 1073741824])
    | σ => if σ.pure = true ∧ σ ≠ .none then some (.ow M.length n.toNat σ e, .l σ (List.replicate n.toNat (List.replicate σ.n 0)), [0 ≤ n ∧ c = n ∧ n ≤ 1073741824]) else .none
  | _, _, _ => .none

theorem mkAV_sound (H : TabOk P Γ) {ρ : Rho} {M : List Blk} {w : World} (hM : MRel ρ M w) {t : TypeId} {x y r : AV} {u v : Value} {b : Blk} {vs : List Prop} (hx : Den ρ x u) (hy : Den ρ y v)
    (h : mkAV Γ M t x y = some (r, b, vs)) (hv : allP vs) :
    ∃ z w' ρ', (Instr.makeSlice t u v).run P w = .ok z w' ∧ After ρ M (M ++ [b]) w w' ρ' ∧ Den ρ' r z ∧ ∀ i ∈ r.ids, i < (M ++ [b]).length := by
  unfold mkAV at h
  split at h
  case h_2 => cases h
  rename_i e k n k' c hsl
  obtain ⟨rfl, hk⟩ := hx
  obtain ⟨rfl, hk'⟩ := hy
  rw [fSg_eq] at h
  have hu := H.sl t e hsl
  have run : ∀ (cells : Array Value), Γ.sg e ≠ .none → 0 ≤ n → c = n → n ≤ 1073741824 → (∀ ti z, P.info? e = some ti → ti.zero = some z → zeroOk (Γ.sg e) z = true → ((Array.range (n.toNat * (Γ.sg e).n)).map fun x => z.cells[x % z.cells.size]!) = cells) →
      (Instr.makeSlice t (.int k n) (.int k' c)).run P w = .ok (.slice (some ⟨w.heap.size, 0, none⟩) n.toNat n.toNat) { w with heap := w.heap.push (.cells cells e) } := by
    intro cells hne h0 hcn h30 hcells
    subst hcn
    obtain ⟨ti, z, hti, hsz, hz, hzo, hby⟩ := H.parts5 rfl hne
    have hcl := hcells ti z hti hz hzo
    have hwr : IntKind.i64.wrap c = c := wrap_of_rng (by simp only [rng, Eng.lo, Eng.hi]; omega)
    have hb2 : (ti.bytes : Int) * c ≤ 4096 * 1073741824 := Int.mul_le_mul (by omega) h30 h0 (by omega)
    have hlt1 : ¬ c < 0 := by omega
    have hlt2 : ¬ ((ti.bytes : Int) * c > 2 ^ 48) := by omega
    have hzv : (zeroValue e).run P w = .ok z w := by simp [zeroValue, run_ti hti, hz]
    have hcells' : (if c.toNat * (Γ.sg e).n = 0 then pure #[] else do pure (← zeroValue e).cells : Sem (Array Value)).run P w = .ok (if c.toNat * (Γ.sg e).n = 0 then #[] else z.cells) w := by
      split
      · rfl
      · simp [hzv]
    have hfin : ((Array.range (c.toNat * (Γ.sg e).n)).map fun x => (if c.toNat * (Γ.sg e).n = 0 then (#[] : Array Value) else z.cells)[x % (if c.toNat * (Γ.sg e).n = 0 then (#[] : Array Value) else z.cells).size]!) = cells := by
      by_cases h0' : c.toNat * (Γ.sg e).n = 0
      · rw [← hcl, h0']; simp
      · simp only [if_neg h0']; exact hcl
    have hz0 : (0 : Int) ≤ c := h0
    simp only [Instr.makeSlice, Sem.run_bind, run_underlying hu, Result.andThen_ok, asInt, asIntOf, Sem.run_pure, run_ti hti, hwr, run_so hti hsz]
    simp only [hlt1, hlt2, decide_false, Bool.or_false, Bool.false_eq_true, Int.lt_irrefl, gt_iff_lt, if_false, Sem.run_bind, Result.andThen_ok, hcells', hfin, or_self, false_or]
    simp [askRoom, newRow]
    simp only [run_so hti hsz, Result.andThen_ok]
    by_cases h0' : c.toNat * (Γ.sg e).n = 0
    · have hq : Array.map (fun _ => (default : Value)) (Array.range (c.toNat * (Γ.sg e).n)) = cells := by rw [← hcl, h0']; simp
      rw [if_pos h0', hq]
    · rw [if_neg h0', hzv, Result.andThen_ok, hcl]
  have s0 : Γ.sg e = .str → _ := fun hσ => run (List.replicate n.toNat (Value.string ByteArray.empty)).toArray (by rw [hσ]; simp)
  have s1 : (Γ.sg e).pure = true → Γ.sg e ≠ .none → _ := fun hp hne => run (cellsV (rep n.toNat (Γ.sg e).flat) (List.replicate (n.toNat * (Γ.sg e).n) 0)).toArray hne
  split at h
  · rename_i hσ
    cases h
    obtain ⟨⟨h0, hc, h30⟩, -⟩ := hv
    have hr := s0 hσ h0 hc h30 (fun ti z hi hz hzo => by
      rw [hσ] at hzo ⊢
      have hz2 : z = .string ByteArray.empty := by
        unfold zeroOk at hzo
        split at hzo <;> simp_all [Sg.pure, Sg.inf]
      subst hz2
      apply Array.ext_getElem?
      intro j
      simp only [Sg.n, Nat.mul_one, Array.getElem?_map, Array.getElem?_range, List.getElem?_toArray, List.getElem?_replicate]
      split
      · simp [Value.cells, Nat.mod_one]
      · rfl)
    let lc : Loc := { blk := w.heap.size, size := n.toNat * 1, room := n.toNat * 1, σ := .str, ty := e }
    refine ⟨_, _, up ρ M.length lc, hr, After.alloc (l := lc) hM rfl ?_ (fun vs e => by cases e), ?_, fun i hi => by simp [AV.ids] at hi; simp [hi]⟩
    · refine ⟨_, rfl, by simp [lc], rfl, by simp [lc], Nat.le_refl _, fun j x hj => ?_⟩
      rw [List.getElem?_replicate] at hj
      split at hj
      · rename_i hjl
        cases hj
        exact ⟨by rw [List.getElem?_toArray, List.getElem?_replicate, if_pos hjl], by simp [maxLen]⟩
      · cases hj
    · simp only [Den]
      rw [up_new]
      exact ⟨n.toNat, rfl, Nat.le_refl _, by simp only [maxLen]; omega, rfl, Nat.one_pos, rfl, rfl, rfl⟩
  · split at h
    case isFalse => cases h
    rename_i hc0
    cases h
    obtain ⟨⟨h0, hc, h30⟩, -⟩ := hv
    obtain ⟨hp, hne⟩ := hc0
    have hpos := sg_pos hne
    have hr := s1 hp hne h0 hc h30 (fun ti z hi hz hzo => zero_row H hp hpos hzo)
    have hfl := Sg.flat_len _ hp
    have hrl := rep_len (Γ.sg e).flat n.toNat
    rw [hfl] at hrl
    let lc : Loc := { blk := w.heap.size, size := n.toNat * (Γ.sg e).n, room := n.toNat * (Γ.sg e).n, σ := Γ.sg e, ty := e }
    have hzl : (cellsV (rep n.toNat (Γ.sg e).flat) (List.replicate (n.toNat * (Γ.sg e).n) 0)).length = n.toNat * (Γ.sg e).n := by
      rw [cellsV_len _ _ (by simp [hrl])]; simp
    refine ⟨_, _, up ρ M.length lc, hr, After.alloc (l := lc) hM rfl ?_ (fun vs e => by cases e), ?_, fun i hi => by simp [AV.ids] at hi; simp [hi]⟩
    · refine ⟨_, rfl, by simp [lc, hzl], rfl, hp, hpos, by simp [lc], Nat.le_refl _, fun i row hi => ?_⟩
      rw [List.getElem?_replicate] at hi
      split at hi
      · rename_i hil
        cases hi
        refine ⟨by simp, fun j y hj => ?_⟩
        rw [List.getElem?_replicate] at hj
        split at hj
        · rename_i hjl
          cases hj
          have hr2 := rep_get (Γ.sg e).flat n.toNat i j hil (by omega)
          rw [hfl] at hr2
          have hk2 : (Γ.sg e).flat[j]? = some ((Γ.sg e).flat.getD j .bool) := getD_some (by omega) _
          rw [hk2] at hr2
          have hlt : i * (Γ.sg e).n + j < n.toNat * (Γ.sg e).n := by
            have : (i + 1) * (Γ.sg e).n ≤ n.toNat * (Γ.sg e).n := Nat.mul_le_mul_right _ hil
            rw [Nat.succ_mul] at this; omega
          refine ⟨?_, ?_⟩
          · rw [Nat.zero_add, List.getElem?_toArray]
            exact cellsV_get _ _ _ 0 _ (by rw [List.getElem?_replicate, if_pos hlt]) hr2
          · cases (Γ.sg e).flat.getD j .bool with
            | int k => cases k <;> simp [CK.ok, rng, lo, Eng.hi]
            | bool => exact .inl rfl
        · cases hj
      · cases hi
    · simp only [Den]
      rw [up_new]
      exact ⟨n.toNat, rfl, Nat.le_refl _, (by simp only [maxLen]; omega), rfl, hpos, rfl, rfl, rfl⟩

/-- A row of one's own, cut short: the id is another. -/
def cutAV (Γ : Tab) (M : List Blk) (t : TypeId) (x : AV) (lo hi mx : Option Int) : Option (AV × List Blk × List Prop) :=
  match x, lo, hi, mx with
  | .ow id n σ e, .none, some h, .none => (match Γ.sl t with
    | some e' => if Γ.sg e' = σ ∧ σ ≠ .none then (match M[id]? with
      | some (.l σ' rows) => some (.ow M.length h.toNat σ e, M.set id .dead ++ [.l σ' (rows.take h.toNat)], [0 ≤ h ∧ h ≤ (n : Int)])
      | some (.s l) => some (.ow M.length h.toNat σ e, M.set id .dead ++ [.s (l.take h.toNat)], [0 ≤ h ∧ h ≤ (n : Int)])
      | _ => .none) else .none
    | .none => .none)
  | _, _, _, _ => .none

theorem cutAV_sound (H : TabOk P Γ) {ρ : Rho} {M M' : List Blk} {w : World} (hM : MRel ρ M w) {t : TypeId} {x r : AV} {v : Value} {lo hi mx : Option Int} {low high max : Option Value} {vs : List Prop}
    (h : cutAV Γ M t x lo hi mx = some (r, M', vs)) (hv : allP vs) (hd : Den ρ x v) (hl : BV lo low) (hh : BV hi high) (hm : BV mx max) :
    ∃ z ρ', (Instr.sliceAt t v low high max).run P w = .ok z w ∧ After ρ M M' w w ρ' ∧ Den ρ' r z ∧ ∀ i ∈ r.ids, i < M'.length := by
  unfold cutAV at h
  split at h
  case h_2 => cases h
  rename_i id n σ e hn
  split at h
  case h_2 => cases h
  rename_i e' hsl
  split at h
  case isFalse => cases h
  rename_i hc
  cases low with
  | some _ => cases hl
  | none =>
  cases max with
  | some _ => cases hm
  | none =>
  have hu := H.sl t e' hsl
  obtain ⟨ti, z, hinf, hsz, -, -⟩ := H.parts hc.1 hc.2
  obtain ⟨cap, rfl, q1, q2, q3, q4, q5, q6, q7⟩ := hd
  have fin : ∀ (b b' : Blk) (nb : Nat), M[id]? = some b → b.live = true → b'.live = true → (∀ vs, b' ≠ .r vs) → 0 ≤ hn → hn ≤ (n : Int) →
      (∀ l : Loc, l.blk = (ρ id).blk → l.size = hn.toNat * σ.n → l.room = (ρ id).room → l.σ = σ → l.ty = (ρ id).ty → BRel ρ l w.heap[(ρ id).blk]? b') →
      r = .ow M.length hn.toNat σ e → M' = M.set id .dead ++ [b'] →
      ∃ z ρ', (Instr.sliceAt t (.slice (some ⟨(ρ id).blk, 0, none⟩) n cap) none high none).run P w = .ok z w ∧ After ρ M M' w w ρ' ∧ Den ρ' r z ∧ ∀ i ∈ r.ids, i < M'.length := by
    intro b b' nb hb hbl hbl' hnr h0 h1 hrel hr hM'
    subst hr
    subst hM'
    obtain ⟨b1, b2, b3⟩ := sliceBounds_run (P := P) (w := w) (b := true) hl hh q1 (show allP (subP n .none (some hn)) from ⟨⟨h0, h1⟩, trivial⟩)
    have hlive : liveAt M id := ⟨b, hb, hbl⟩
    obtain ⟨o, ho⟩ : ∃ o, w.heap[(ρ id).blk]? = some o := ⟨_, Array.getElem?_eq_getElem (hM.blk_lt hlive)⟩
    let l : Loc := { blk := (ρ id).blk, size := hn.toNat * σ.n, room := (ρ id).room, σ := σ, ty := (ρ id).ty }
    have hlt := hlive.lt
    have hA : After ρ M (M.set id .dead ++ [b']) w w (up ρ M.length l) := by
      refine After.grown (row := some (ρ id).blk) (o := o) hM ⟨rfl, rfl, rfl, Nat.le_refl _, fun _ _ _ => rfl⟩ (.inr rfl) ho (by rw [← ho]; exact hrel l rfl rfl rfl rfl rfl) hbl' (fun vs e => absurd e (hnr vs)) (by simp) ?_ (fun k h => by cases h; exact ⟨id, hlive, rfl⟩) ?_
      · intro i d hd
        rw [List.getElem?_set] at hd
        split at hd
        · cases hd; exact .inl rfl
        · exact .inr hd
      · rintro i ⟨d, hd, hdl⟩ he
        rw [List.getElem?_set] at hd
        split at hd
        · cases hd; cases hdl
        · rename_i hne'
          exact hne' (hM.inj i id ⟨d, hd, hdl⟩ hlive (by simpa using he)).symm
    refine ⟨.slice (some ⟨(ρ id).blk, 0, none⟩) hn.toNat cap, up ρ M.length l, ?_, hA, ?_, fun i hi => by simp [AV.ids] at hi; simp [hi]⟩
    · have : (if cap = loN .none then (some (⟨(ρ id).blk, 0, none⟩ : Addr)) else (some (⟨(ρ id).blk, 0, none⟩ : Addr)).map (·.add (loN .none * σ.n))) = some ⟨(ρ id).blk, 0, none⟩ := by
        split <;> simp [loN, add_addr]
      simp only [Instr.sliceAt, Instr.slice, Sem.run_bind, run_underlying hu, Result.andThen_ok, b1, run_so hinf hsz, Sem.run_pure, this]
      simp only [hiN, loN, Nat.sub_zero]
    · simp only [Den]
      rw [up_new]
      exact ⟨cap, rfl, by omega, q2, rfl, q4, rfl, q6, q7⟩
  split at h
  · rename_i σ' rows hmm
    cases h
    obtain ⟨⟨h0, h1⟩, -⟩ := hv
    obtain ⟨C, c1, c2, c3, c4, c5, c6, c7, c8⟩ := hM.blk id _ hmm
    have hσ : σ' = σ := by rw [← c3, q3]
    subst hσ
    have hlen : rows.length = n := Nat.eq_of_mul_eq_mul_right c5 (by rw [c6, q5])
    refine fin _ _ 0 hmm rfl rfl (fun vs e => by cases e) h0 h1 (fun l l1 l2 l3 l4 l5 => ?_) rfl rfl
    refine ⟨C, by rw [c1, l5], by rw [c2, l3], l4, c4, c5, ?_, ?_, fun i row hi => ?_⟩
    · rw [l2, List.length_take, hlen, Nat.min_eq_left (by omega)]
    · rw [l2, l3, q6]; exact Nat.mul_le_mul_right _ (by omega)
    · rw [List.getElem?_take] at hi
      split at hi
      · exact c8 i row hi
      · cases hi
  · rename_i ss hmm
    cases h
    obtain ⟨⟨h0, h1⟩, -⟩ := hv
    obtain ⟨C, c1, c2, c3, c6, c7, c8⟩ := hM.blk id _ hmm
    have hσ : σ = .str := by rw [← q3, c3]
    subst hσ
    have hlen : ss.length = n := by rw [c6, q5]; simp [Sg.n]
    refine fin _ _ 0 hmm rfl rfl (fun vs e => by cases e) h0 h1 (fun l l1 l2 l3 l4 l5 => ?_) rfl rfl
    refine ⟨C, by rw [c1, l5], by rw [c2, l3], l4, ?_, ?_, fun i row hi => ?_⟩
    · rw [l2, List.length_take, hlen, Nat.min_eq_left (by omega)]; simp [Sg.n]
    · rw [l2, l3, q6]; exact Nat.mul_le_mul_right _ (by omega)
    · rw [List.getElem?_take] at hi
      split at hi
      · exact c8 i row hi
      · cases hi
  · cases h

/-- May it be frozen? Where the world keeps frozen rows whole: if its type is that of all rows of its shape. -/
def frzOk (σ : Sg) (e : TypeId) : Bool := !Glob.whole || !σ.pure || e == Glob.tyOf σ
theorem frzOk_h {σ : Sg} {e : TypeId} (h : frzOk σ e = true) : Glob.whole = true → σ.pure = true → e = Glob.tyOf σ := by
  intro h1 h2
  unfold frzOk at h
  rw [h1, h2] at h
  simpa using h
/-- What a row is once it is frozen. -/
def frozenAV (n : Nat) : Blk → Option AV
  | .l σ rows => some (.fs σ rows)
  | .s l => some (.fstr l)
  | .rf τ l => some (.fz τ l)
  | _ => .none

/-- A row is frozen: from here on nobody writes there. -/
theorem After.freeze {ρ : Rho} {M : List Blk} {w : World} (hM : MRel ρ M w) {id n : Nat} {σ : Sg} {e : TypeId} {c : Cn} {v : Value} (hm : M[id]? = some c.blk) (hd : Den ρ (.ow id n σ e) v) (hty : Glob.whole = true → σ.pure = true → e = Glob.tyOf σ) :
    ∃ ρ' : Rho, After ρ M (M.set id .dead) w w ρ' ∧ (∀ i, ρ' i = ρ i) ∧ Den ρ' (match c with | .l σ rows => .fs σ rows | .s l => .fstr l | .f τ l => .fz τ l) v := by
  have hlive : liveAt M id := ⟨_, hm, cn_live c⟩
  obtain ⟨C, b1, b2, b3, b4, b5, b6, b7, b8⟩ := (cn_brel c).1 (hM.blk id _ hm)
  obtain ⟨cap, rfl, q1, q2, q3, q4, q5, q6, q7⟩ := hd
  have hs : c.sg = σ := by rw [← b3, q3]
  have hn : c.len = n := Nat.eq_of_mul_eq_mul_right q4 (by rw [← hs, b6, hs, q5])
  have hle0 : ∀ k o, ρ.F k = some o → (fun k => if k = (ρ id).blk then some (.cells C (ρ id).ty (0, 0)) else ρ.F k) k = some o := fun k o hk => by
    show (if k = (ρ id).blk then _ else ρ.F k) = some o
    rw [if_neg (fun e => (hM.env k o hk).2 id hlive e.symm)]; exact hk
  let ρ' : Rho := ⟨ρ.loc, fun k => if k = (ρ id).blk then some (.cells C (ρ id).ty (0, 0)) else ρ.F k, Glob.mono hle0 ρ.ok⟩
  have hle : ρ.le ρ' := hle0
  have hF : ρ'.F (ρ id).blk = some (.cells C (ρ id).ty (0, 0)) := by
    show (if (ρ id).blk = (ρ id).blk then _ else _) = _
    rw [if_pos rfl]
  have l1 : ∀ i, liveAt (M.set id .dead) i → liveAt M i ∧ i ≠ id := by
    rintro i ⟨d, hd, hdl⟩
    rw [List.getElem?_set] at hd
    split at hd
    · split at hd
      · cases hd; cases hdl
      · cases hd
    · rename_i hne; exact ⟨⟨d, hd, hdl⟩, fun e => hne e.symm⟩
  refine ⟨ρ', ⟨fun _ _ => rfl, ⟨fun i d hd => ?_, fun i j hi hj he => hM.inj i j (l1 i hi).1 (l1 j hj).1 he, fun i vs hd x hx j hj => ?_, fun k o hk => ?_⟩, by simp, fun i _ hi => (l1 i hi).1, fun i hi hl => ?_, fun _ _ _ => rfl, rfl, rfl, rfl, Nat.le_refl _, hle, fun k o hk => ?_⟩, fun _ => rfl, ?_⟩
  · rw [List.getElem?_set] at hd
    split at hd
    · split at hd
      · cases hd; trivial
      · cases hd
    · exact (hM.blk i d hd).congr hle (fun _ _ _ _ _ _ => rfl)
  · rw [List.length_set]
    rw [List.getElem?_set] at hd
    split at hd
    · split at hd <;> cases hd
    · exact hM.cl i vs hd x hx j hj
  · change (if k = (ρ id).blk then _ else ρ.F k) = some o at hk
    split at hk
    · rename_i e
      cases hk
      subst e
      exact ⟨b1, fun i hi he => (l1 i hi).2 (hM.inj i id (l1 i hi).1 hlive he)⟩
    · exact ⟨(hM.env k o hk).1, fun i hi => (hM.env k o hk).2 i (l1 i hi).1⟩
  · have := (l1 i hl).1.lt; omega
  · change (if k = (ρ id).blk then _ else ρ.F k) = some o at hk
    split at hk
    · rename_i e; exact .inr (.inr ⟨id, hlive, e.symm⟩)
    · exact .inl hk
  · cases c with
    | l σ' rows =>
      exact ⟨b4, b5, by rw [show rows.length = n from hn]; omega, _, cap, by rw [show rows.length = n from hn], by rw [show rows.length = n from hn]; exact q1, .inr ⟨_, 0, C, _, _, rfl, hF, b8, fun hw => ⟨rfl, by rw [b2, q6, show σ' = σ from hs], rfl, q2, by rw [q7, hty hw (hs ▸ b4), show σ' = σ from hs]⟩⟩⟩
    | s l =>
      exact ⟨by rw [show l.length = n from hn]; omega, _, cap, by rw [show l.length = n from hn], by rw [show l.length = n from hn]; exact q1, .inr ⟨_, 0, C, _, _, rfl, hF, b8⟩⟩
    | f τ l =>
      exact ⟨by rw [show l.length = n from hn]; omega, _, cap, by rw [show l.length = n from hn], by rw [show l.length = n from hn]; exact q1, .inr ⟨_, 0, C, _, _, rfl, hF, fun _ => rfl, fun j rows hj => (b8 j rows hj).imp fun y hy => ⟨hy.1, hy.2.mono hle⟩⟩⟩

end Go.Eng

/- The engine, part 9e: rows that are handed on are frozen. No conditions. -/
namespace Go.Eng
open Go Go.RowKit
set_option linter.unusedSectionVars false
variable [Glob]
variable {P : Program} {Γ : Tab}

def frz : Cn → AV
  | .l σ rows => .fs σ rows
  | .s l => .fstr l
  | .f τ l => .fz τ l

theorem frz_ids (c : Cn) : (frz c).ids = [] := by cases c <;> rfl

/-- Rows that are handed back are frozen. -/
def frzL : List AV → List Blk → Option (List AV × List Blk)
  | [], M => some ([], M)
  | .ow id n σ e :: l, M => match srcOf M (.ow id n σ e) with
    | some c => match frzOk σ e with
      | true => match frzL l (M.set id .dead) with
        | some (rs, M') => some (frz c :: rs, M')
        | .none => .none
      | false => .none
    | .none => .none
  | x :: l, M => match frzL l M with
    | some (rs, M') => some (x :: rs, M')
    | .none => .none

theorem frzL_sound : ∀ {l rs : List AV} {ρ : Rho} {M M' : List Blk} {w : World} {vs : List Value}, MRel ρ M w → Dens ρ l vs → (∀ r ∈ l, ∀ i ∈ r.ids, i < M.length) → frzL l M = some (rs, M') →
    ∃ ρ', After ρ M M' w w ρ' ∧ Dens ρ' rs vs ∧ (∀ r ∈ rs, ∀ i ∈ r.ids, i < M'.length) ∧ M'.length = M.length ∧ ∀ i, ρ' i = ρ i
  | [], rs, ρ, M, M', w, vs, hM, hd, hi, h => by
    cases h
    cases vs with
    | nil => exact ⟨ρ, After.refl hM, trivial, (fun r hr => by cases hr), rfl, fun _ => rfl⟩
    | cons _ _ => exact hd.elim
  | x :: l, rs, ρ, M, M', w, [], hM, hd, hi, h => hd.elim
  | x :: l, rs, ρ, M, M', w, v :: vs, hM, hd, hi, h => by
    have plain : (match frzL l M with
        | some (rs, M') => some (x :: rs, M')
        | .none => .none) = some (rs, M') → ∃ ρ', After ρ M M' w w ρ' ∧ Dens ρ' rs (v :: vs) ∧ (∀ r ∈ rs, ∀ i ∈ r.ids, i < M'.length) ∧ M'.length = M.length ∧ ∀ i, ρ' i = ρ i := by
      intro h
      split at h
      · rename_i rs' M2 hl
        cases h
        obtain ⟨ρ', h1, h2, h3, h4, h5⟩ := frzL_sound hM hd.2 (fun r hr => hi r (List.mem_cons_of_mem _ hr)) hl
        refine ⟨ρ', h1, ⟨hd.1.congr h1.fmono (fun id _ => h5 id), h2⟩, fun r hr i hri => ?_, h4, h5⟩
        rcases List.mem_cons.1 hr with rfl | hr
        · rw [h4]; exact hi r List.mem_cons_self i hri
        · exact h3 r hr i hri
      · cases h
    unfold frzL at h
    split at h
    · rename_i e; cases e
    · rename_i id n σ e l' he
      cases he
      split at h
      · rename_i c hc
        split at h
        case h_2 => cases h
        rename_i hty
        split at h
        · rename_i rs' M2 hl
          cases h
          have hm := own_src hM hc
          obtain ⟨ρ1, h1, h2, h3⟩ := After.freeze hM hm hd.1 (frzOk_h hty)
          have hd2 := dens_congr (ρ' := ρ1) h1.fmono (fun y _ i _ => h2 i) hd.2
          obtain ⟨ρ2, k1, k2, k3, k4, k5⟩ := frzL_sound h1.rel hd2 (fun r hr i hri => by simpa using hi r (List.mem_cons_of_mem _ hr) i hri) hl
          have h3' : Den ρ1 (frz c) v := by cases c <;> exact h3
          refine ⟨ρ2, h1.trans k1, ⟨h3'.congr k1.fmono (fun id _ => k5 id), k2⟩, fun r hr i hri => ?_, by rw [k4]; simp, fun i => (k5 i).trans (h2 i)⟩
          rcases List.mem_cons.1 hr with rfl | hr
          · rw [frz_ids] at hri; cases hri
          · exact k3 r hr i hri
        · cases h
      · cases h
    · rename_i he
      cases he
      exact plain h


end Go.Eng

/- The engine, part 9f: maps from cells. No conditions. -/
namespace Go.Eng
open Go Go.RowKit
set_option linter.unusedSectionVars false
variable [Glob]
variable {P : Program} {Γ : Tab}

/-- What stands at a key; 0 where there is none. -/
def lkM : List (List Int × Int) → List Int → Int
  | [], _ => 0
  | e :: es, q => if q = e.1 then e.2 else lkM es q
/-- A key is taken out. -/
def delM : List (List Int × Int) → List Int → List (List Int × Int)
  | [], _ => []
  | e :: es, q => if q = e.1 then es else e :: delM es q
/-- A key is set. -/
def upM : List (List Int × Int) → List Int → Int → List (List Int × Int)
  | [], q, v => [(q, v)]
  | e :: es, q, v => if q = e.1 then (q, v) :: es else e :: upM es q v
theorem lkM_upM (es : List (List Int × Int)) (q r : List Int) (v : Int) : lkM (upM es q v) r = if r = q then v else lkM es r := by
  induction es with
  | nil => simp only [upM, lkM]
  | cons e es ih =>
    unfold upM
    split
    · rename_i h
      subst h
      simp only [lkM]
      split <;> rfl
    · rename_i h
      simp only [lkM]
      rw [ih]
      by_cases hr : r = e.1
      · rw [if_pos hr, if_neg (fun e' => h (by rw [← e', hr])), if_pos hr]
      · rw [if_neg hr, if_neg hr]

def keyV (σ : Sg) (q : List Int) : Value := .agg (cellsV σ.flat q).toArray

theorem checkKey_spot (H : TabOk P Γ) {kt : TypeId} (hk : Γ.sg kt = .spot) {q : List Int} (hl : q.length = 2) (b : Bool) (n : Nat) (w : World) : (Instr.checkKey b (n + 1 + 1) kt (keyV .spot q)).run P w = .ok () w := by
  obtain ⟨gs, hu, hf, -, -⟩ := H.st (fs := [.i8, .i8]) hk (by decide) rfl
  have hsz : gs.toList.length = 2 := by
    have h0 := hf
    unfold fldsOk at h0
    simp only [Bool.and_eq_true, beq_iff_eq] at h0
    simpa using h0.1
  obtain ⟨f0, f1, hgs⟩ : ∃ f0 f1, gs.toList = [f0, f1] := by
    match gs.toList, hsz with
    | [a, b], _ => exact ⟨a, b, rfl⟩
  obtain ⟨g0, hg0, ho0, hty0, hn0⟩ := fldsOk_at hf (fldAt_get [.i8, .i8] 0 .i8 rfl)
  obtain ⟨g1, hg1, ho1, hty1, hn1⟩ := fldsOk_at hf (fldAt_get [.i8, .i8] 1 .i8 rfl)
  rw [← Array.getElem?_toList, hgs] at hg0 hg1
  simp only [List.getElem?_cons_zero, List.getElem?_cons_succ, Option.some.injEq] at hg0 hg1
  subst hg0
  subst hg1
  have hn8 : (Sg.i8).n = 1 := rfl
  have k0 : ∀ j, j < (Sg.i8).n → Sg.spot.flat[f0.offset + j]? = (Sg.i8).flat[j]? := fun j hj => by
    obtain rfl : j = 0 := by omega
    rw [ho0]; rfl
  have k1 : ∀ j, j < (Sg.i8).n → Sg.spot.flat[f1.offset + j]? = (Sg.i8).flat[j]? := fun j hj => by
    obtain rfl : j = 0 := by omega
    rw [ho1]; rfl
  have p0 := part_run H hty0 (by decide) rfl (ks := Sg.spot.flat) (xs := q) (o := f0.offset) (by rw [ho0]; show 0 + 1 ≤ _; omega) k0 w
  have p1 := part_run H hty1 (by decide) rfl (ks := Sg.spot.flat) (xs := q) (o := f1.offset) (by rw [ho1]; show 1 + 1 ≤ _; omega) k1 w
  have hu0 := H.cell hty0 (k := .int .i8) rfl
  have hu1 := H.cell hty1 (k := .int .i8) rfl
  obtain ⟨a, c, rfl⟩ : ∃ a c, q = [a, c] := by
    match q, hl with
    | [a, c], _ => exact ⟨a, c, rfl⟩
  have c0 : ∀ v : List Int, (Instr.checkKey b (n + 1) f0.type (valOf .i8 v)).run P w = .ok () w := fun v => by
    unfold Instr.checkKey valOf
    simp [run_underlying hu0, Sg.inf]
  have c1 : ∀ v : List Int, (Instr.checkKey b (n + 1) f1.type (valOf .i8 v)).run P w = .ok () w := fun v => by
    unfold Instr.checkKey valOf
    simp [run_underlying hu1, Sg.inf]
  unfold Instr.checkKey keyV
  simp only [Sem.run_bind, run_underlying hu, Result.andThen_ok]
  rw [← Array.forIn_toList, hgs]
  simp only [List.forIn_cons, List.forIn_nil, Sem.run_bind, hn0, hn1, ne_eq, not_false_eq_true, if_true, Result.andThen_ok, p0, p1, c0, c1, Sem.run_pure]

/-- The shapes of keys. -/
def keyS (σ : Sg) : Prop := σ = .spot ∨ σ = .sp2
theorem checkKey_sp2 (H : TabOk P Γ) {kt : TypeId} (hk : Γ.sg kt = .sp2) {q : List Int} (hl : q.length = 4) (b : Bool) (n : Nat) (w : World) : (Instr.checkKey b (n + 1 + 1 + 1) kt (keyV .sp2 q)).run P w = .ok () w := by
  obtain ⟨t', hu, he, -⟩ := H.arr (e := .spot) (n := 2) hk rfl
  obtain ⟨i, z, hi', hsz, -, -⟩ := H.parts he (by decide)
  have hso : (sizeOf t').run P w = .ok 2 w := by
    have : i.size = 2 := hsz
    simp [Go.sizeOf, run_ti hi', this]
  have hs2 : (Sg.spot).n = 2 := rfl
  have h4 : Sg.sp2.flat = [.int .i8, .int .i8, .int .i8, .int .i8] := rfl
  have p0 := part_run H he (by decide) rfl (ks := Sg.sp2.flat) (xs := q) (o := 0 * 2) (by rw [hl]; decide) (fun j hj => by
    rw [hs2] at hj
    match j, hj with
    | 0, _ => rfl
    | 1, _ => rfl) w
  have p1 := part_run H he (by decide) rfl (ks := Sg.sp2.flat) (xs := q) (o := 1 * 2) (by rw [hl]; decide) (fun j hj => by
    rw [hs2] at hj
    match j, hj with
    | 0, _ => rfl
    | 1, _ => rfl) w
  have c0 : ∀ v : List Int, v.length = 2 → (Instr.checkKey b (n + 1 + 1) t' (valOf .spot v)).run P w = .ok () w := fun v hv => checkKey_spot H he hv b n w
  have d0 := c0 ((q.drop (0 * 2)).take Sg.spot.n) (by rw [List.length_take, List.length_drop, hl, hs2]; rfl)
  have d1 := c0 ((q.drop (1 * 2)).take Sg.spot.n) (by rw [List.length_take, List.length_drop, hl, hs2]; rfl)
  unfold Instr.checkKey keyV
  simp only [Sem.run_bind, run_underlying hu, Result.andThen_ok]
  unfold keyV at *
  simp only [Std.Legacy.Range.forIn_eq_forIn_range', Std.Legacy.Range.size, List.range'_succ, List.range'_zero, List.forIn_cons, List.forIn_nil, Sem.run_bind, hso, Result.andThen_ok, p0, p1, d0, d1, Sem.run_pure]
theorem checkKey_key (H : TabOk P Γ) {σ : Sg} (hσ : keyS σ) {kt : TypeId} (hk : Γ.sg kt = σ) {q : List Int} (hl : q.length = σ.n) (b : Bool) (n : Nat) (w : World) : (Instr.checkKey b (n + 1 + 1 + 1) kt (keyV σ q)).run P w = .ok () w := by
  rcases hσ with rfl | rfl
  · exact checkKey_spot H hk hl b (n + 1) w
  · exact checkKey_sp2 H hk hl b n w

theorem ask_spot (H : TabOk P Γ) {σ : Sg} (hσ : keyS σ) {kt : TypeId} (hk : Γ.sg kt = σ) {k : CK} {q : List Int} (hl : q.length = σ.n) (ho : cellsOk σ.flat q) (w : World) : ∀ (A : List MapEntry) (es : List (List Int × Int)) (i : Nat), RM σ k A es →
    ((Instr.findAsking kt (keyV σ q) A i).run P w = .ok none w ∧ lkM es q = 0 ∧ (∀ v, upM es q v = es ++ [(q, v)]) ∧ delM es q = es) ∨
    ∃ (j : Nat) (x : MapEntry), (Instr.findAsking kt (keyV σ q) A i).run P w = .ok (some (i + j, x.val)) w ∧ A[j]? = some x ∧ x.key = keyV σ q ∧ x.val = k.val (lkM es q) ∧ k.ok (lkM es q) ∧
      (∀ (v : Int), k.ok v → RM σ k (A.modify j fun e => { e with key := keyV σ q, val := k.val v }) (upM es q v)) ∧ RM σ k (A.eraseIdx j) (delM es q)
  | [], [], i, _ => .inl ⟨by simp [Instr.findAsking], rfl, fun _ => rfl, rfl⟩
  | [], _ :: _, _, h => h.elim
  | _ :: _, [], _, h => h.elim
  | x :: A, e :: es, i, ⟨⟨h1, h2, h3, h4, h5⟩, hA⟩ => by
    have heq : (Op.equal kt (keyV σ q) x.key).run P w = .ok (decide (q = e.1)) w := by
      rw [h1]
      rcases hσ with rfl | rfl
      · exact eq_sound H w 4 .spot kt 9996 q e.1 (by decide) hk (by decide) rfl hl h3 ho h4
      · exact eq_sound H w 4 .sp2 kt 9996 q e.1 (by decide) hk (by decide) rfl hl h3 ho h4
    by_cases hq : q = e.1
    · refine .inr ⟨0, x, ?_, rfl, ?_, ?_, ?_, fun v hv => ?_, ?_⟩
      · simp only [Instr.findAsking, Sem.run_bind, heq, Result.andThen_ok]
        rw [decide_eq_true hq]
        simp
      · rw [h1, ← hq]; rfl
      · unfold lkM; rw [if_pos hq]; exact h2
      · unfold lkM; rw [if_pos hq]; exact h5
      · unfold upM
        rw [if_pos hq]
        exact ⟨⟨rfl, rfl, hl, ho, hv⟩, hA⟩
      · unfold delM
        rw [if_pos hq]
        exact hA
    · have hstep : ∀ j, (Instr.findAsking kt (keyV σ q) (x :: A) j).run P w = (Instr.findAsking kt (keyV σ q) A (j + 1)).run P w := fun j => by
        simp [Instr.findAsking, heq, hq]
      rw [hstep]
      rcases ask_spot H hσ hk (k := k) hl ho w A es (i + 1) hA with ⟨g1, g2, g3, g3'⟩ | ⟨j, y, g1, g2, g3, g4, g5, g6, g7⟩
      · refine .inl ⟨g1, ?_, fun v => ?_, ?_⟩
        · unfold lkM; rw [if_neg hq]; exact g2
        · unfold upM; rw [if_neg hq, g3 v]; rfl
        · unfold delM; rw [if_neg hq, g3']
      · refine .inr ⟨j + 1, y, by rw [g1]; congr 3; omega, g2, g3, ?_, ?_, fun v hv => ?_, ?_⟩
        · unfold lkM; rw [if_neg hq]; exact g4
        · unfold lkM; rw [if_neg hq]; exact g5
        · unfold upM
          rw [if_neg hq, List.modify_succ_cons]
          exact ⟨⟨h1, h2, h3, h4, h5⟩, g6 v hv⟩
        · unfold delM
          rw [if_neg hq, List.eraseIdx_cons_succ]
          exact ⟨⟨h1, h2, h3, h4, h5⟩, g7⟩

theorem RM_app {σ : Sg} {k : CK} {x : MapEntry} {e : List Int × Int} (h : x.key = .agg (cellsV σ.flat e.1).toArray ∧ x.val = k.val e.2 ∧ e.1.length = σ.n ∧ cellsOk σ.flat e.1 ∧ k.ok e.2) : ∀ (A : List MapEntry) (es : List (List Int × Int)), RM σ k A es → RM σ k (A ++ [x]) (es ++ [e])
  | [], [], _ => ⟨h, trivial⟩
  | [], _ :: _, g => g.elim
  | _ :: _, [], g => g.elim
  | _ :: A, _ :: es, ⟨g1, g2⟩ => ⟨g1, RM_app h A es g2⟩

theorem find_spot (H : TabOk P Γ) {σ : Sg} (hσ : keyS σ) {kt : TypeId} (hk : Γ.sg kt = σ) (q : List Int) (A : List MapEntry) (w : World) : (Instr.findKey kt (keyV σ q) A).run P w = (Instr.findAsking kt (keyV σ q) A).run P w := by
  rcases hσ with rfl | rfl
  · obtain ⟨gs, hu, -, -, -⟩ := H.st (fs := [.i8, .i8]) hk (by decide) rfl
    exact run_findKey_eq w (by rw [hu]) _ _
  · obtain ⟨t', hu, -, -⟩ := H.arr (e := .spot) (n := 2) hk rfl
    exact run_findKey_eq w (by rw [hu]) _ _

theorem stays_spot {σ : Sg} (hσ : keyS σ) {q : List Int} (hl : q.length = σ.n) (w : World) : (Instr.keyThatStays (keyV σ q) (keyV σ q)).run P w = .ok (keyV σ q) w := by
  rcases hσ with rfl | rfl
  · obtain ⟨a, c, rfl⟩ : ∃ a c, q = [a, c] := by
      match q, hl with
      | [a, c], _ => exact ⟨a, c, rfl⟩
    have : Instr.sameBits 10000 (keyV .spot [a, c]) (keyV .spot [a, c]) = true := by
      unfold keyV
      simp [Instr.sameBits, cellsV, Sg.flat, CK.val]
    simp [Instr.keyThatStays, this]
  · obtain ⟨a, b, c, d, rfl⟩ : ∃ a b c d, q = [a, b, c, d] := by
      match q, hl with
      | [a, b, c, d], _ => exact ⟨a, b, c, d, rfl⟩
    have : Instr.sameBits 10000 (keyV .sp2 [a, b, c, d]) (keyV .sp2 [a, b, c, d]) = true := by
      unfold keyV
      have e : Sg.sp2.flat = [.int .i8, .int .i8, .int .i8, .int .i8] := rfl
      rw [e]
      simp [Instr.sameBits, cellsV, CK.val]
    simp [Instr.keyThatStays, this]

theorem int_zero (k : IntKind) : (CK.int k).ok 0 := by cases k <;> simp [CK.ok, rng, lo, hi]
theorem zeroOk_cell {σ : Sg} {z : Value} {k : CK} (he : σ.inf = .cell k) (h : zeroOk σ z = true) : z = k.val 0 ∧ k.ok 0 := by
  unfold zeroOk at h
  split at h
  · rw [he] at h; simp at h
  · rw [he] at h
    cases k with
    | int ik =>
      simp only [Bool.and_eq_true, beq_iff_eq] at h
      obtain ⟨rfl, rfl⟩ := h
      exact ⟨rfl, int_zero _⟩
    | bool => simp at h
  · rw [he] at h
    cases k with
    | int ik => simp at h
    | bool =>
      simp only [Bool.and_eq_true, Bool.not_eq_true'] at h
      obtain ⟨-, rfl⟩ := h
      exact ⟨rfl, by simp [CK.ok]⟩
  · split at h
    · cases he
    · simp at h
  all_goals first
    | (rw [beq_iff_eq] at h; subst h; cases he)
    | cases h

theorem lookup_run (H : TabOk P Γ) {t kt et : TypeId} (ht : Γ.mp t = some (kt, et)) {σ : Sg} (hk : Γ.sg kt = σ) {k : CK} (he : (Γ.sg et).inf = .cell k) {ρ : Rho} {M : List Blk} {w : World} (hM : MRel ρ M w) {id : Nat} {es : List (List Int × Int)} (hid : M[id]? = some (.m σ k es))
    {q : List Int} (hl : q.length = σ.n) (ho : cellsOk σ.flat q) : (Instr.lookup t (.map (some (ρ id).blk)) (keyV σ q) false).run P w = .ok (k.val (lkM es q)) w ∧ k.ok (lkM es q) := by
  obtain ⟨hm, hσ⟩ := H.mp t kt et ht
  rw [hk] at hσ
  have hσ : keyS σ := hσ
  obtain ⟨A, clock, hb, hR⟩ := hM.blk id _ hid
  have hne : Γ.sg et ≠ .none := by intro e; rw [e] at he; cases he
  obtain ⟨i, z, hi, -, hz, hzo⟩ := H.parts rfl hne
  have hzr : (zeroValue et).run P w = .ok z w := by unfold zeroValue; simp [run_ti hi, hz]
  have hz0 := zeroOk_cell he hzo
  have hck := checkKey_key H hσ hk hl A.isEmpty 9997 w
  rcases ask_spot H hσ hk (k := k) hl ho w A.toList es 0 hR with ⟨g1, g2, -⟩ | ⟨j, x, g1, g2, g3, g4, g5, -⟩
  · rw [g2]
    refine ⟨?_, hz0.2⟩
    simp [Instr.lookup, run_underlying hm, MapKept.run_getObj_map hb, hck, find_spot H hσ hk, g1, hzr, hz0.1, Result.andThen]
  · refine ⟨?_, g5⟩
    simp [Instr.lookup, run_underlying hm, MapKept.run_getObj_map hb, hck, find_spot H hσ hk, g1, g4, Result.andThen]

theorem update_run (H : TabOk P Γ) {t kt et : TypeId} (ht : Γ.mp t = some (kt, et)) {σ : Sg} (hk : Γ.sg kt = σ) {k : CK} {ρ : Rho} {M : List Blk} {w : World} (hM : MRel ρ M w) {id : Nat} {es : List (List Int × Int)} (hid : M[id]? = some (.m σ k es))
    {q : List Int} (hl : q.length = σ.n) (ho : cellsOk σ.flat q) {n : Int} (hn : k.ok n) :
    ∃ w', (Instr.mapUpdate t (.map (some (ρ id).blk)) (keyV σ q) (k.val n)).run P w = .ok () w' ∧ After ρ M (M.set id (.m σ k (upM es q n))) w w' ρ := by
  obtain ⟨hm, hσ⟩ := H.mp t kt et ht
  rw [hk] at hσ
  have hσ : keyS σ := hσ
  obtain ⟨A, clock, hb, hR⟩ := hM.blk id _ hid
  have hck := checkKey_key H hσ hk hl false 9997 w
  have hbl : (ρ id).blk < w.heap.size := (Array.getElem?_eq_some_iff.1 hb).1
  have key : ∀ (A' : Array MapEntry) (c' : Nat), RM σ k A'.toList (upM es q n) → After ρ M (M.set id (.m σ k (upM es q n))) w { w with heap := w.heap.setIfInBounds (ρ id).blk (.map A' c') } ρ := fun A' c' hR' => by
    refine After.set hM hid rfl (o' := .map A' c') ⟨A', c', rfl, hR'⟩ rfl (fun vs e => by cases e) ?_ (fun j hj => ?_) (by simp) rfl rfl rfl
    · dsimp only
      rw [Array.getElem?_setIfInBounds, if_pos rfl, if_pos hbl]
    · dsimp only
      rw [Array.getElem?_setIfInBounds, if_neg (fun e => hj e.symm)]
  rcases ask_spot H hσ hk (k := k) hl ho w A.toList es 0 hR with ⟨g1, g2, g3, -⟩ | ⟨j, x, g1, g2, g3, g4, g5, g6, -⟩
  · refine ⟨_, ?_, key (A.push ⟨keyV σ q, k.val n, clock⟩) (clock + 1) ?_⟩
    · simp [Instr.mapUpdate, run_underlying hm, MapKept.run_getObj_map hb, hck, find_spot H hσ hk, g1, MapKept.run_setObj_map _ hb, Result.andThen]
    · rw [g3, Array.toList_push]
      exact RM_app ⟨rfl, rfl, hl, ho, hn⟩ _ _ hR
  · have hj : A[j]? = some x := by rw [← Array.getElem?_toList]; exact g2
    refine ⟨_, ?_, key (A.modify j fun e => { e with key := keyV σ q, val := k.val n }) clock ?_⟩
    · rw [Nat.zero_add] at g1
      simp [Instr.mapUpdate, run_underlying hm, MapKept.run_getObj_map hb, hck, find_spot H hσ hk, g1, hj, g3, stays_spot hσ hl, MapKept.run_setObj_map _ hb, Result.andThen]
    · rw [Array.toList_modify]
      exact g6 n hn

/-- delete of a key. -/
def delAV (Γ : Tab) (M : List Blk) (ts : Array TypeId) (x y : AV) : Option (List Blk) :=
  match ts.toList, x, y with
  | t :: _, .mp id, .ag τ q => (match Γ.mp t, M[id]? with
    | some (kt, _), some (.m σ k es) => if τ = σ ∧ Γ.sg kt = σ then some (M.set id (.m σ k (delM es q))) else .none
    | _, _ => .none)
  | _, _, _ => .none
theorem delAV_sound (H : TabOk P Γ) {ρ : Rho} {M M' : List Blk} {w : World} (hM : MRel ρ M w) {ts : Array TypeId} {x y : AV} {u v : Value} {ty : TypeId}
    (hx : Den ρ x u) (hy : Den ρ y v) (h : delAV Γ M ts x y = some M') :
    ∃ w', (Builtin.delete_ ts ty #[u, v]).run P w = .ok (.tuple #[]) w' ∧ After ρ M M' w w' ρ := by
  unfold delAV at h
  split at h
  case h_2 => cases h
  rename_i t r id τ q hts
  split at h
  case h_2 => cases h
  rename_i kt et σ k es hmp hid
  split at h
  case isFalse => cases h
  rename_i hσ1
  obtain ⟨rfl, hk⟩ := hσ1
  cases h
  obtain ⟨hq1, hl, ho, -⟩ := hy
  have hx : u = .map (some (ρ id).blk) := hx
  subst hx
  have hq1 : v = keyV τ q := hq1
  subst hq1
  have ht0 : ts[0]? = some t := by rw [← Array.getElem?_toList, hts]; rfl
  obtain ⟨hm, hσ⟩ := H.mp t kt et hmp
  rw [hk] at hσ
  have hσ : keyS τ := hσ
  obtain ⟨A, clock, hb, hR⟩ := hM.blk id _ hid
  have hck := checkKey_key H hσ hk hl A.isEmpty 9997 w
  have hbl : (ρ id).blk < w.heap.size := (Array.getElem?_eq_some_iff.1 hb).1
  have key : ∀ (A' : Array MapEntry) (c' : Nat), RM τ k A'.toList (delM es q) → After ρ M (M.set id (.m τ k (delM es q))) w { w with heap := w.heap.setIfInBounds (ρ id).blk (.map A' c') } ρ := fun A' c' hR' => by
    refine After.set hM hid rfl (o' := .map A' c') ⟨A', c', rfl, hR'⟩ rfl (fun vs e => by cases e) ?_ (fun j hj => ?_) (by simp) rfl rfl rfl
    · dsimp only
      rw [Array.getElem?_setIfInBounds, if_pos rfl, if_pos hbl]
    · dsimp only
      rw [Array.getElem?_setIfInBounds, if_neg (fun e => hj e.symm)]
  rcases ask_spot H hσ hk (k := k) hl ho w A.toList es 0 hR with ⟨g1, g2, -, g3⟩ | ⟨j, x, g1, g2, g3, g4, g5, -, g6⟩
  · refine ⟨_, ?_, key A clock ?_⟩
    · simp [Builtin.delete_, ht0, run_underlying hm, MapKept.run_getObj_map hb, hck, find_spot H hσ hk, g1, MapKept.run_setObj_map _ hb, Result.andThen]
    · rw [g3]; exact hR
  · have hj : j < A.size := by
      have := (List.getElem?_eq_some_iff.1 g2).1
      simpa using this
    refine ⟨_, ?_, key (A.eraseIdxIfInBounds j) clock ?_⟩
    · rw [Nat.zero_add] at g1
      simp [Builtin.delete_, ht0, run_underlying hm, MapKept.run_getObj_map hb, hck, find_spot H hσ hk, g1, MapKept.run_setObj_map _ hb, Result.andThen]
    · rw [Array.eraseIdxIfInBounds, dif_pos hj, Array.toList_eraseIdx]
      exact g6
end Go.Eng

/- The engine, part 9g: the tail of a row of one's own, cleared. No conditions. -/
namespace Go.Eng
open Go Go.RowKit
set_option linter.unusedSectionVars false
variable [Glob]
variable {P : Program} {Γ : Tab}

/-- The tail of a row of one's own. -/
def tailAV (Γ : Tab) (t : TypeId) (x : AV) (lo hi mx : Option Int) : Option (AV × List Prop) :=
  match x, lo, hi, mx with
  | .ow id n σ _, some l, .none, .none => (match Γ.sl t with
    | some e' => if Γ.sg e' = σ ∧ σ.pure = true ∧ σ ≠ .none then some (.sl id (l.toNat * σ.n) (n - l.toNat) σ, [0 ≤ l ∧ l < (n : Int)]) else .none
    | .none => .none)
  | _, _, _, _ => .none

theorem kind_mod {l : Loc} {σ : Sg} (h : l.σ = σ) (hp : σ.pure = true) (i j : Nat) (hj : j < σ.n) : l.kind (i * σ.n + j) = σ.flat.getD j .bool := by
  unfold Loc.kind
  rw [h, Nat.mul_comm, Nat.mul_add_mod, Nat.mod_eq_of_lt hj]

theorem tailAV_sound (H : TabOk P Γ) {ρ : Rho} {w : World} {t : TypeId} {x r : AV} {v : Value} {lo hi mx : Option Int} {low high max : Option Value} {vs : List Prop}
    (h : tailAV Γ t x lo hi mx = some (r, vs)) (hv : allP vs) (hd : Den ρ x v) (hl : BV lo low) (hh : BV hi high) (hm : BV mx max) :
    ∃ z, (Instr.sliceAt t v low high max).run P w = .ok z w ∧ Den ρ r z ∧ ∀ i ∈ r.ids, i ∈ x.ids := by
  unfold tailAV at h
  split at h
  case h_2 => cases h
  rename_i id n σ e l
  split at h
  case h_2 => cases h
  rename_i e' hsl
  split at h
  case isFalse => cases h
  rename_i hc
  cases h
  obtain ⟨⟨h0, h1⟩, -⟩ := hv
  cases high with
  | some _ => cases hh
  | none =>
  cases max with
  | some _ => cases hm
  | none =>
  have hu := H.sl t e' hsl
  obtain ⟨ti, z, hinf, hsz, -, -⟩ := H.parts hc.1 hc.2.2
  obtain ⟨cap, rfl, q1, q2, q3, q4, q5, q6, q7⟩ := hd
  obtain ⟨b1, b2, b3⟩ := sliceBounds_run (P := P) (w := w) (b := true) hl hh q1 (show allP (subP n (some l) .none) from ⟨⟨h0, by omega⟩, trivial⟩)
  have hl1 : l.toNat < n := by omega
  refine ⟨.slice (some ⟨(ρ id).blk, l.toNat * σ.n, none⟩) (n - l.toNat) (cap - l.toNat), ?_, ⟨cap - l.toNat, rfl, by omega, q4, ?_, ?_, ?_⟩, fun i hi => hi⟩
  · have : (if cap = loN (some l) then (some (⟨(ρ id).blk, 0, none⟩ : Addr)) else (some (⟨(ρ id).blk, 0, none⟩ : Addr)).map (·.add (loN (some l) * σ.n))) = some ⟨(ρ id).blk, l.toNat * σ.n, none⟩ := by
      rw [if_neg (by simp only [loN]; omega)]
      simp [loN, add_addr]
    simp only [Instr.sliceAt, Instr.slice, Sem.run_bind, run_underlying hu, Result.andThen_ok, b1, run_so hinf hsz, Sem.run_pure, this]
    simp only [hiN, loN]
  · intro i hi
    have e1 : l.toNat * σ.n + i * σ.n = (l.toNat + i) * σ.n := by rw [Nat.add_mul]
    have e2 : (l.toNat + i) * σ.n + σ.n ≤ n * σ.n := by rw [← Nat.succ_mul]; exact Nat.mul_le_mul_right _ (by omega)
    refine ⟨by rw [e1, q5]; exact e2, ?_⟩
    rw [if_pos hc.2.1]
    exact ⟨by rw [q3]; exact hc.2.1, fun j hj => by rw [e1]; exact kind_mod q3 hc.2.1 _ _ hj⟩
  · rw [q5, ← Nat.add_mul, show l.toNat + (n - l.toNat) = n from by omega]; exact Nat.le_refl _
  · rw [q6, ← Nat.add_mul]; exact Nat.mul_le_mul_right _ (by omega)

/-- clear of such a tail. -/
def clrAV (Γ : Tab) (M : List Blk) (ts : Array TypeId) (x : AV) : Option (List Blk × List Prop) :=
  match ts.toList, x with
  | [t], .sl id off len σ => (match Γ.sl t with
    | some e => fSg (Γ.sg e) fun τ => if τ = σ ∧ τ.pure = true ∧ τ ≠ .none then (match M[id]? with
      | some (.l σ' rows) => if σ' = τ then some (M.set id (.l τ (rows.take (off / τ.n) ++ List.replicate len (List.replicate τ.n 0))), [0 < len ∧ off / τ.n * τ.n = off ∧ off / τ.n + len = rows.length]) else .none
      | _ => .none) else .none
    | .none => .none)
  | _, _ => .none

theorem ok_zero (k : CK) : k.ok 0 := by
  cases k with
  | int k => exact int_zero k
  | bool => simp [CK.ok]

theorem clrAV_sound (H : TabOk P Γ) {ρ : Rho} {M M' : List Blk} {w : World} (hM : MRel ρ M w) {ts : Array TypeId} {x : AV} {v : Value} {vs : List Prop} {ty : TypeId}
    (hx : Den ρ x v) (h : clrAV Γ M ts x = some (M', vs)) (hv : allP vs) :
    ∃ w', (Builtin.clear_ ts ty #[v]).run P w = .ok (.tuple #[]) w' ∧ After ρ M M' w w' ρ := by
  unfold clrAV at h
  split at h
  case h_2 => cases h
  rename_i t id off len σ hts
  have hts' : ts = #[t] := by apply Array.toList_inj.1; exact hts
  subst hts'
  split at h
  case h_2 => cases h
  rename_i e hsl
  rw [fSg_eq] at h
  split at h
  case isFalse => cases h
  rename_i hc
  obtain ⟨rfl, hp, hne⟩ := hc
  split at h
  case h_2 => cases h
  rename_i σ' rows hid
  split at h
  case isFalse => cases h
  rename_i es
  subst es
  cases h
  obtain ⟨⟨v1, v2, v3⟩, -⟩ := hv
  generalize hk : off / (Γ.sg e).n = k at *
  obtain ⟨cap, rfl, d1, d2, d3, d4, d5⟩ := hx
  obtain ⟨C, c1, c2, c3, c4, c5, c6, c7, c8⟩ := hM.blk id _ hid
  obtain ⟨ti, z, hi, hsz, hz, hzo⟩ := H.parts rfl hne
  have hu := H.sl t e hsl
  have hzc := zero_cells hp hzo
  have hfl := Sg.flat_len _ hp
  have hrl := rep_len (Γ.sg e).flat len
  rw [hfl] at hrl
  have hzs : z.cells.size = (Γ.sg e).n := by rw [hzc]; simp [cellsV_len _ _ (by simp [hfl] : (Γ.sg e).flat.length = (List.replicate (Γ.sg e).n (0:Int)).length)]
  have hzr := zero_row H (e := e) (z := z) (len := len) hp d2 hzo
  have hzv : (zeroValue e).run P w = .ok z w := by simp [zeroValue, run_ti hi, hz]
  generalize hZ : cellsV (rep len (Γ.sg e).flat) (List.replicate (len * (Γ.sg e).n) 0) = Z at *
  have hZl : Z.length = len * (Γ.sg e).n := by rw [← hZ, cellsV_len _ _ (by rw [hrl, List.length_replicate]), List.length_replicate]
  have hZ1 : ∀ q ∈ Z, q.oneCell' = true := by rw [← hZ]; exact cellsV_one _ _
  have hrl2 : rows.length * (Γ.sg e).n = k * (Γ.sg e).n + len * (Γ.sg e).n := by rw [← v3, Nat.add_mul]
  have hCl : C.toList.length = C.size := Array.length_toList
  have hbd : off + Z.length ≤ C.toList.length := by rw [hZl, hCl, c2, ← v2]; omega
  have hst := run_storeCells_at P (ρ id).blk off (ρ id).ty Z 0 C w c1 (by rw [hCl] at hbd; omega) hZ1
  refine ⟨_, ?_, After.seg (C' := (C.toList.take off ++ Z ++ C.toList.drop (off + Z.length)).toArray) hM hid rfl rfl c1 ?_ (fun vs e => by cases e)⟩
  · obtain ⟨m, rfl⟩ : ∃ m, len = m + 1 := ⟨len - 1, by omega⟩
    have hq : Builtin.zeroCells z.cells (m + 1) = Z.toArray := by
      unfold Builtin.zeroCells
      rw [hzs, ← hzr, hzs]
    simp only [Nat.add_zero] at hst
    simp [Builtin.clear_, run_underlying hu, hzv, hq, hst, Result.andThen]
  · refine ⟨_, rfl, ?_, c3, c4, c5, ?_, c7, fun i row hi => ?_⟩
    · simp; omega
    · rw [List.length_append, List.length_take, List.length_replicate, Nat.min_eq_left (by omega), ← c6, v3]
    · by_cases hik : i < k
      · rw [List.getElem?_append_left (by rw [List.length_take]; omega), List.getElem?_take, if_pos hik] at hi
        obtain ⟨r1, r2⟩ := c8 i row hi
        refine ⟨r1, fun j y hj => ?_⟩
        have hjl := (List.getElem?_eq_some_iff.1 hj).1
        have e1 : i * (Γ.sg e).n + (Γ.sg e).n ≤ k * (Γ.sg e).n := by rw [← Nat.succ_mul]; exact Nat.mul_le_mul_right _ hik
        have := r2 j y hj
        rw [List.getElem?_toArray, seg_get _ _ _ _ hbd, if_neg (by omega), Array.getElem?_toList]
        exact this
      · rw [List.getElem?_append_right (by rw [List.length_take]; omega), List.length_take, Nat.min_eq_left (by omega), List.getElem?_replicate] at hi
        split at hi
        case isFalse => cases hi
        rename_i hil
        cases hi
        refine ⟨by rw [List.length_replicate], fun j y hj => ?_⟩
        rw [List.getElem?_replicate] at hj
        split at hj
        case isFalse => cases hj
        rename_i hjn
        cases hj
        have e1 : i * (Γ.sg e).n = k * (Γ.sg e).n + (i - k) * (Γ.sg e).n := by rw [← Nat.add_mul, show k + (i - k) = i from by omega]
        have e2 : (i - k) * (Γ.sg e).n + (Γ.sg e).n ≤ len * (Γ.sg e).n := by rw [← Nat.succ_mul]; exact Nat.mul_le_mul_right _ hil
        have hr := rep_get (Γ.sg e).flat len (i - k) j hil (by omega)
        rw [hfl] at hr
        have hkj : (Γ.sg e).flat[j]? = some ((Γ.sg e).flat.getD j .bool) := by
          rw [List.getD_eq_getElem?_getD, List.getElem?_eq_getElem (by omega)]; rfl
        rw [hkj] at hr
        refine ⟨?_, ok_zero _⟩
        rw [List.getElem?_toArray, seg_get _ _ _ _ hbd, if_pos (by omega), ← hZ, show 0 + i * (Γ.sg e).n + j - off = (i - k) * (Γ.sg e).n + j from by omega]
        exact cellsV_get _ _ _ _ _ (by rw [List.getElem?_replicate, if_pos (by omega)]) hr
end Go.Eng

/- The engine, part 9h: a text's bytes behind a row of bytes. No conditions. -/
namespace Go.Eng
open Go Go.RowKit Go.Lib
set_option linter.unusedSectionVars false
variable [Glob]
variable {P : Program} {Γ : Tab}

/-- A text's bytes, as rows. -/
def strRows (s : ByteArray) : List (List Int) := s.data.toList.map fun b => [(b.toNat : Int)]
theorem strRows_len (s : ByteArray) : (strRows s).length = s.size := by
  unfold strRows
  rw [List.length_map, Array.length_toList]
  rfl

def appS (Γ : Tab) (M : List Blk) (ts : Array TypeId) (s x : AV) : Option (AV × List Blk × List Prop) :=
  match ts.toList, x with
  | [t, u], .s str => if Γ.sg u = .str then (match Γ.sl t with
    | some e => if Γ.sg e = .u8 then (match s with
      | .ow id n σ e' => if e' = e ∧ σ = .u8 then (match M[id]? with
        | some (.l τ rows) => if τ = .u8 then some (.ow M.length (rows ++ strRows str).length .u8 e, M.set id .dead ++ [.l .u8 (rows ++ strRows str)], [(rows ++ strRows str).length ≤ 1073741824]) else .none
        | _ => .none) else .none
      | .nsl => some (.ow M.length (strRows str).length .u8 e, M ++ [.l .u8 (strRows str)], [0 < (strRows str).length ∧ (strRows str).length ≤ 1073741824])
      | _ => .none) else .none
    | .none => .none) else .none
  | _, _ => .none

theorem strCells_get (s : ByteArray) (i : Nat) (row : List Int) (h : (strRows s)[i]? = some row) : row.length = 1 ∧ ∀ (y : Int), row[0]? = some y → (strCells s)[i]? = some (.int .u8 y) ∧ rng .u8 y := by
  unfold strRows at h
  rw [List.getElem?_map, Option.map_eq_some_iff] at h
  obtain ⟨b, hb, rfl⟩ := h
  refine ⟨rfl, fun y hy => ?_⟩
  simp only [List.getElem?_cons_zero, Option.some.injEq] at hy
  subst hy
  refine ⟨?_, ?_⟩
  · simp only [strCells, List.getElem?_map, hb]; rfl
  · have := b.toNat_lt
    simp only [rng, Eng.lo, Eng.hi]; omega
theorem rowsAt_str {C : Array Value} {o : Nat} {s : ByteArray} (h : ∀ j, j < s.size → C[o + j]? = (strCells s)[j]?) : rowsAt C .u8 o (strRows s) := by
  intro i row hi
  have hil := (List.getElem?_eq_some_iff.1 hi).1
  rw [strRows_len] at hil
  obtain ⟨h1, h2⟩ := strCells_get s i row hi
  refine ⟨h1, fun j y hj => ?_⟩
  have hj0 : j = 0 := by have := (List.getElem?_eq_some_iff.1 hj).1; omega
  subst hj0
  obtain ⟨h3, h4⟩ := h2 y hj
  refine ⟨?_, h4⟩
  rw [show o + i * Sg.u8.n + 0 = o + i from by simp [Sg.n], h i hil, h3]
  rfl

theorem appS_sound (H : TabOk P Γ) {ρ : Rho} {M M' : List Blk} {w : World} (hM : MRel ρ M w) {ts : Array TypeId} {s x r : AV} {u v : Value} {vs : List Prop} {ty : TypeId}
    (hs : Den ρ s u) (hx : Den ρ x v) (h : appS Γ M ts s x = some (r, M', vs)) (hv : allP vs) :
    ∃ z w' ρ', (Builtin.append_ ts ty #[u, v]).run P w = .ok z w' ∧ After ρ M M' w w' ρ' ∧ Den ρ' r z ∧ ∀ i ∈ r.ids, i < M'.length := by
  unfold appS at h
  split at h
  case h_2 => cases h
  rename_i t t' str hts
  have hts' : ts = #[t, t'] := by apply Array.toList_inj.1; exact hts
  subst hts'
  split at h
  case isFalse => cases h
  rename_i hstr
  split at h
  case h_2 => cases h
  rename_i e hsl
  split at h
  case isFalse => cases h
  rename_i hu8
  have hu := H.sl t e hsl
  have hut := H.str hstr
  have hne : Γ.sg e ≠ .none := by rw [hu8]; decide
  obtain ⟨ti, z, hi, hsz, hz, hzo, hby⟩ := H.parts5 rfl hne
  rw [hu8] at hsz hzo
  have hs1 : ti.size = 1 := hsz
  have hzv : z = .int .u8 0 := by
    unfold zeroOk at hzo
    split at hzo <;> simp [Sg.inf, Sg.pure] at hzo <;> first | (obtain ⟨rfl, rfl⟩ := hzo; rfl) | (exact hzo.elim) | skip
  subst hzv
  obtain ⟨rfl, hmx⟩ := hx
  have hlen := strRows_len str
  split at h
  · rename_i id n σ e'
    split at h
    case isFalse => cases h
    rename_i hc
    obtain ⟨rfl, rfl⟩ := hc
    split at h
    case h_2 => cases h
    rename_i τ rows hid
    split at h
    case isFalse => cases h
    rename_i hτ
    subst hτ
    cases h
    have h30 : (rows ++ strRows str).length ≤ 1073741824 := hv.1
    obtain ⟨C1, b1, b2, b3, b4, b5, b6, b7, b8⟩ := hM.blk id _ hid
    obtain ⟨cap1, rfl, q1, q2, q3, q4, q5, q6, q7⟩ := hs
    have hn1 : rows.length = n := by simp only [Sg.n] at b6 q5; omega
    rw [List.length_append, hlen, hn1] at h30
    have hC1 : C1.size = cap1 := by rw [b2, q6]; simp [Sg.n]
    have hlive : liveAt M id := ⟨_, hid, rfl⟩
    have hlt : id < M.length := (List.getElem?_eq_some_iff.1 hid).1
    -- what is laid behind
    have key : ∀ (g cap' : Nat) (cur : Array Value) (w' : World), (Builtin.append_ #[t, t'] ty #[.slice (some ⟨(ρ id).blk, 0, none⟩) n cap1, .string str]).run P w = .ok (.slice (some ⟨g, 0, none⟩) (n + str.size) cap') w' →
        w.grownBy w' (some (ρ id).blk) → (g = w.heap.size ∨ some g = some (ρ id).blk) → w'.heap[g]? = some (.cells cur e' (0, 0)) → n + str.size ≤ cap' → cap' ≤ maxLen → cur.size = cap' →
        (∀ j, j < n + str.size → cur[j]? = (C1.toList.take n ++ strCells str)[j]?) →
        ∃ z w' ρ', (Builtin.append_ #[t, t'] ty #[.slice (some ⟨(ρ id).blk, 0, none⟩) n cap1, .string str]).run P w = .ok z w' ∧ After ρ M (M.set id .dead ++ [.l .u8 (rows ++ strRows str)]) w w' ρ' ∧ Den ρ' (.ow M.length (rows ++ strRows str).length .u8 e') z ∧ ∀ i ∈ (AV.ow M.length (rows ++ strRows str).length .u8 e').ids, i < (M.set id .dead ++ [Blk.l .u8 (rows ++ strRows str)]).length := by
      intro g cap' cur w' hr hgr hgb hg hcap hcapm hcs hcur
      let l : Loc := { blk := g, size := (rows ++ strRows str).length * Sg.u8.n, room := cap' * Sg.u8.n, σ := .u8, ty := e' }
      have hl1 : (C1.toList.take n).length = n := by rw [List.length_take, Array.length_toList, hC1]; omega
      have hat : rowsAt cur .u8 0 (rows ++ strRows str) := by
        intro i row hi
        rw [List.getElem?_append] at hi
        split at hi
        · rename_i hil
          obtain ⟨c1, c2⟩ := b8 i row hi
          refine ⟨c1, fun j y hj => ?_⟩
          obtain ⟨c3, c4⟩ := c2 j y hj
          refine ⟨?_, c4⟩
          have hj0 : j < 1 := by have := (List.getElem?_eq_some_iff.1 hj).1; simp only [Sg.n] at c1; omega
          have e1 : 0 + i * Sg.u8.n + j = i := by simp only [Sg.n]; omega
          rw [e1] at c3 ⊢
          rw [hcur i (by omega), List.getElem?_append_left (by omega), List.getElem?_take_of_lt (by omega), Array.getElem?_toList]
          exact c3
        · rename_i hil
          have := rowsAt_str (C := cur) (o := n) (s := str) (fun j hj => by
            rw [hcur _ (by omega), List.getElem?_append_right (by omega), hl1]; congr 1; omega) (i - rows.length) row hi
          rw [show n + (i - rows.length) * Sg.u8.n = 0 + i * Sg.u8.n from by simp only [Sg.n]; omega] at this
          exact this
      have hll : (rows ++ strRows str).length = n + str.size := by rw [List.length_append, hlen, hn1]
      have hA : After ρ M (M.set id .dead ++ [.l .u8 (rows ++ strRows str)]) w w' (up ρ M.length l) := by
        refine After.grown hM hgr hgb hg (b := .l .u8 (rows ++ strRows str)) ⟨cur, rfl, (by show cur.size = cap' * 1; omega), rfl, rfl, by decide, rfl, (by show _ * 1 ≤ cap' * 1; omega), hat⟩ rfl (fun vs e => by cases e) (by simp) ?_ (fun k h => by cases h; exact ⟨id, hlive, rfl⟩) ?_
        · intro i d hd
          rw [List.getElem?_set] at hd
          split at hd
          · cases hd; exact .inl rfl
          · exact .inr hd
        · rintro i ⟨d, hd, hdl⟩ he
          rw [List.getElem?_set] at hd
          split at hd
          · cases hd; cases hdl
          · rename_i hne'
            exact hne' (hM.inj id i hlive ⟨d, hd, hdl⟩ (by simpa using he.symm))
      refine ⟨_, _, up ρ M.length l, hr, hA, ?_, fun i hi => by simp [AV.ids] at hi; simp [hi]⟩
      simp only [Den]
      rw [up_new]
      exact ⟨cap', by rw [hll], by omega, hcapm, rfl, by decide, rfl, rfl, rfl⟩
    by_cases hroom : n + str.size ≤ cap1
    · have hr := run_append_room_string (P := P) w t t' ty e' ti hu hut hi hs1 (ρ id).blk n cap1 C1 (by rw [← q7]; exact b1) str hroom (by omega)
      refine key _ _ _ _ hr ⟨rfl, rfl, rfl, by simp, fun k _ hk => setRow_other w _ k _ (fun e => hk (by rw [e]))⟩ (.inr rfl) (setRow_heap w _ C1 _ e' _ (by rw [← q7]; exact b1)) hroom q2 ?_ fun j hj => ?_
      · simp only [List.size_toArray, List.length_append, List.length_take, List.length_drop, Array.length_toList, strCells_length]; omega
      · rw [List.getElem?_toArray, List.getElem?_append_left (by simp only [List.length_append, List.length_take, Array.length_toList, strCells_length]; omega)]
    · have holds : ∀ j u, (C1.toList.take n)[j]? = some u → w.cell? ((⟨(ρ id).blk, 0, none⟩ : Addr).add j) = some u := by
        intro j u hj
        rw [add_addr, cell_of_row w _ _ C1 _ _ b1, Nat.zero_add]
        rw [List.getElem?_take] at hj
        split at hj
        · rwa [Array.getElem?_toList] at hj
        · cases hj
      have hbytes : (n + str.size) * ti.bytes ≤ 1073741824 * 4096 := Nat.mul_le_mul h30 hby
      have hr := run_append_grow_string (P := P) w t t' ty e' ti (.int .u8 0) hu hut hi hz ⟨(ρ id).blk, 0, none⟩ n cap1 (C1.toList.take n) (by rw [hs1, List.length_take, Array.length_toList]; omega) holds str (by omega) (by omega) (growslice_fits (by omega) (by omega))
      have hge := grownCap_ge w (n + str.size) cap1 e'
      have hle := grownCap_le_maxLen w (n + str.size) cap1 e' (by simp only [maxLen]; omega)
      have hz1 : (Value.int IntKind.u8 0).cells.size = 1 := rfl
      refine key _ _ _ _ hr ⟨rfl, rfl, rfl, by simp, fun k hk _ => heap_alloc_old w.drew _ hk⟩ (.inl rfl) (heap_alloc_new w.drew _) hge hle ?_ fun j hj => ?_
      · simp only [Array.size_append, List.size_toArray, size_zeroCells, hz1, List.length_take, Array.length_toList, strCells_length]; omega
      · have e2 : (List.toArray (C1.toList.take n) ++ (strCells str).toArray) = (C1.toList.take n ++ strCells str).toArray := by simp
        rw [e2, Array.getElem?_append_left (by simp only [List.size_toArray, List.length_append, List.length_take, Array.length_toList, strCells_length]; omega), List.getElem?_toArray]
  · cases h
    simp only [Den] at hs
    subst hs
    have h0 : 0 < str.size := by have := hv.1.1; omega
    have h30 : str.size ≤ 1073741824 := by have := hv.1.2; omega
    have hbytes : str.size * ti.bytes ≤ 1073741824 * 4096 := Nat.mul_le_mul h30 hby
    have hr := run_append_nil_string (P := P) w t t' ty e ti (.int .u8 0) hu hut hi hz str h0 (by omega) (by omega)
    have e1 : (str.data.map fun b => Value.int .u8 b.toNat) = (strCells str).toArray := by
      apply Array.ext'
      simp [strCells]
    rw [e1] at hr
    have hge := grownCap_ge w str.size 0 e
    have hle := grownCap_le_maxLen w str.size 0 e (by simp only [maxLen]; omega)
    have hz1 : (Value.int IntKind.u8 0).cells.size = 1 := rfl
    let l : Loc := { blk := w.heap.size, size := (strRows str).length * Sg.u8.n, room := (grownCap w str.size 0 e) * Sg.u8.n, σ := .u8, ty := e }
    have hgb : w.grownBy (w.drew.alloc (.cells ((strCells str).toArray ++ Builtin.zeroCells (Value.int .u8 0).cells (grownCap w str.size 0 e - str.size)) e)) none := ⟨rfl, rfl, rfl, by simp, fun k hk _ => heap_alloc_old w.drew _ hk⟩
    have hA := After.grown (M1 := M) hM hgb (l := l) (b := .l .u8 (strRows str)) (.inl rfl) (heap_alloc_new w.drew _) ⟨_, rfl, (by
        show _ = grownCap w str.size 0 e * 1
        simp only [Array.size_append, List.size_toArray, size_zeroCells, hz1, strCells_length]; omega), rfl, rfl, by decide, rfl, (by show _ * 1 ≤ _ * 1; omega), rowsAt_str fun j hj => by
          rw [Nat.zero_add, Array.getElem?_append_left (by simp only [List.size_toArray, strCells_length]; omega), List.getElem?_toArray]⟩ rfl (fun vs e => by cases e) rfl (fun i c h => .inr h) (fun k h => by cases h) (fun i _ => by simp)
    refine ⟨_, _, up ρ M.length l, hr, hA, ?_, fun i hi => by simp [AV.ids] at hi; simp [hi]⟩
    simp only [Den]
    rw [up_new]
    exact ⟨_, by rw [hlen], by omega, hle, rfl, by decide, rfl, rfl, rfl⟩
  · cases h

end Go.Eng

/- The engine, part 10: every operation of a region in the text's order. No conditions. -/
namespace Go.Eng
open Go Go.RowKit
set_option linter.unusedSectionVars false
variable [Glob]
variable {P : Program} {Γ : Tab}

def evCallee (E : Operand → AV) (c : Call) : Option (FuncId × List AV) :=
  match c.callee with
  | .value f => match E f with
    | .fn n caps => some (n, (c.args.toList).map E ++ caps.map fun p => .pw p.1 p.2)
    | .fb n σ xs => some (n, .ag σ xs :: (c.args.toList).map E)
    | _ => .none
  | _ => .none

/-- One operation: what it yields, memory behind it, what is owed. -/
def evO (Γ : Tab) (wr : Bool) (tb : FuncId → Option Fun) (M : List Blk) (E : Operand → AV) (op : Op) : Option (AV × List Blk × List Prop) :=
  match op with
  | .box t x => fSg (Γ.sg t) fun σ => if σ = .none then recBox Γ M t (E x) else (match boxBlk σ (E x) with
    | some b => some (.pw M.length σ, M ++ [b], [])
    | .none => .none)
  | .alloc t => fSg (Γ.sg t) fun σ => if σ = .none then (match Γ.rc t with
      | some zs => some (.rp M.length 0 zs.length t, M ++ [.r zs], [])
      | .none => .none) else some (.pw M.length σ, M ++ [zeroBlk σ], [])
  | .makeMap t r => match r, Γ.mp t with
    | .none, some (q, e) => (match (Γ.sg e).inf with
      | .cell k => fSg (Γ.sg q) fun σ => some (.mp M.length, M ++ [.m σ k []], [])
      | _ => .none)
    | _, _ => .none
  | .mapUpdate t m q x => match Γ.mp t, E m, E q with
    | some (kt, _), .mp id, .ag τ q => (match M[id]? with
      | some (.m σ k es) => if τ = σ ∧ Γ.sg kt = σ then (match toCell k (E x) with
        | some n => some (.any, M.set id (.m σ k (upM es q n)), [])
        | .none => .none) else .none
      | _ => .none)
    | _, _, _ => .none
  | .lookup t m q ok => match ok, Γ.mp t, E m, E q with
    | false, some (kt, e), .mp id, .ag τ q => (match M[id]?, (Γ.sg e).inf with
      | some (.m σ k es), .cell k' => if k = k' ∧ τ = σ ∧ Γ.sg kt = σ then some (cellAV k (lkM es q), M, []) else .none
      | _, _ => .none)
    | _, _, _, _ => .none
  | .store t x y => match E x with
    | .p id off σ => if Γ.sg t = σ ∧ σ ≠ .none then (match storeAV M id off σ (E y) with
      | some M' => some (.any, M', [])
      | .none => .none) else .none
    | .pw id σ => if Γ.sg t = σ ∧ σ ≠ .none then (match storeW M id σ (E y) with
      | some M' => some (.any, M', [])
      | .none => .none) else .none
    | .lp id i o σ τ => if Γ.sg t = τ ∧ τ ≠ .none then (match lpStore M id i o σ τ (E y) with
      | some M' => some (.any, M', [])
      | .none => .none) else .none
    | .rp id off n t' => match recStore Γ M t (.rp id off n t') (E y) with
      | some M' => some (.any, M', [])
      | .none => match recPut Γ M t (.rp id off n t') (E y) with
        | some M' => some (.any, M', [])
        | .none => .none
    | _ => .none
  | .call c => match evCallee E c with
    | some (n, args) => match tb n with
      | some S => fL args fun args => match callAV S M args with
        | some (r, M', vs) => some (r, M', vs)
        | .none => match frzL args M with
          | some (args', M1) => fM M1 fun M1 => callAV S M1 args'
          | .none => .none
      | .none => match Γ.ne n, args with
        | true, [x] => some (x, M, [])
        | _, _ => .none
    | .none => match evS Γ wr M E (.call c) with
      | some (r, v) => some (r, M, v)
      | .none => match c.callee, c.args.toList with
        | .builtin .append, [x, y] => (match appAV Γ M c.argTypes (E x) (E y) with
          | some r => some r
          | .none => appS Γ M c.argTypes (E x) (E y))
        | .builtin .clear, [x] => (match clrAV Γ M c.argTypes (E x) with
          | some (M', v) => some (.any, M', v)
          | .none => .none)
        | .builtin .delete, [x, y] => (match delAV Γ M c.argTypes (E x) (E y) with
          | some M' => some (.any, M', [])
          | .none => .none)
        | _, _ => .none
  | .buildSlice t len ps => match newSl Γ M E t len ps with
    | some (r, b) => some (r, M ++ [b], [])
    | .none => .none
  | .makeSlice t len cap => match mkAV Γ M t (E len) (E cap) with
    | some (r, b, v) => some (r, M ++ [b], v)
    | .none => .none
  | .slice t x l h m => match evS Γ wr M E (.slice t x l h m) with
    | some (r, v) => some (r, M, v)
    | .none => match bndAV E l, bndAV E h, bndAV E m with
      | some l, some h, some m => (match tailAV Γ t (E x) l h m with
        | some (r, v) => some (r, M, v)
        | .none => cutAV Γ M t (E x) l h m)
      | _, _, _ => .none
  | op => match evS Γ wr M E op with
    | some (r, v) => some (r, M, v)
    | .none => .none

structure TbOk (P : Program) (tb : FuncId → Option Fun) : Prop where
  sound : ∀ n S, tb n = some S → Sound P n S
  enter : ∀ n S, tb n = some S → ∀ args w, (callFunc n args).run P w = .ok (.enter n args) w

theorem enter_ok {n : FuncId} {fn : Func} (h : P.funcs[n]? = some fn) (hb : fn.body.isNone = false) (hn : (fn.name == "runtime.NumGoroutine") = false) (args : Array Value) (w : World) : (callFunc n args).run P w = .ok (.enter n args) w := by
  simp only [callFunc, Sem.run_bind, run_program, Result.andThen_ok, h, hn, hb, Bool.false_eq_true, if_false, Sem.run_pure]

theorem dens_map {ρ : Rho} {E : Operand → AV} {a : Act} (hE : ∀ x, Den ρ (E x) (a.eval x)) : ∀ (l : List Operand), Dens ρ (l.map E) (l.map a.eval)
  | [] => trivial
  | x :: l => ⟨hE x, dens_map hE l⟩

theorem dens_app {ρ : Rho} : ∀ {l : List AV} {r : List Value} {l' : List AV} {r' : List Value}, Dens ρ l r → Dens ρ l' r' → Dens ρ (l ++ l') (r ++ r')
  | [], [], _, _, _, h => h
  | [], _ :: _, _, _, h, _ => h.elim
  | _ :: _, [], _, _, h, _ => h.elim
  | _ :: _, _ :: _, _, _, h, h' => ⟨h.1, dens_app h.2 h'⟩

theorem dens_caps {ρ : Rho} : ∀ (caps : List (Nat × Sg)), (∀ c ∈ caps, PtrOk (ρ c.1) 0 c.2 ∧ (ρ c.1).size = c.2.n) →
    Dens ρ (caps.map fun p => .pw p.1 p.2) (caps.map fun c => Value.pointer (some ⟨(ρ c.1).blk, 0, .none⟩))
  | [], _ => trivial
  | c :: l, h => ⟨⟨rfl, h c List.mem_cons_self⟩, dens_caps l fun c hc => h c (List.mem_cons_of_mem _ hc)⟩

theorem evO_sound (H : TabOk P Γ) {tb : FuncId → Option Fun} (htb : TbOk P tb) {ρ : Rho} {wr : Bool} {M M' : List Blk} {E : Operand → AV} {a : Act} {w : World} {o : Oper} {r : AV} {vs : List Prop}
    (hE : ∀ x, Den ρ (E x) (a.eval x)) (hI : ∀ x, ∀ i ∈ (E x).ids, i < M.length) (hM : MRel ρ M w) (h : evO Γ wr tb M E o.op = some (r, M', vs)) (hv : allP vs)
    {next : Act → World → Prop} {Q : Exit → Act → World → Prop}
    (K : ∀ v w' ρ', After ρ M M' w w' ρ' → Den ρ' r v → (∀ i ∈ r.ids, i < M'.length) → next (a.put o.dst v) w') : o.wp P a w next Q := by
  have still : ∀ {r vs}, evS Γ wr M E o.op = some (r, vs) → allP vs → (∀ v w' ρ', After ρ M M w w' ρ' → Den ρ' r v → (∀ i ∈ r.ids, i < M.length) → next (a.put o.dst v) w') → o.wp P a w next Q := by
    intro r vs h hv K
    obtain ⟨z, h1, h2, h3⟩ := evS_sound H hE hI hM h hv
    unfold Oper.wp
    rw [h3]
    exact K z w ρ (After.refl hM) h1 h2
  unfold evO at h
  split at h
  · rename_i t x ho
    rw [fSg_eq] at h
    split at h
    · have hx := hE x
      have hxi := hI x
      unfold recBox at h
      split at h
      case h_2 => cases h
      rename_i y zs e hz
      split at h
      case h_2 => cases h
      rename_i l hl
      split at h
      case isFalse => cases h
      rename_i hc
      cases h
      rw [e] at hx hxi
      obtain ⟨cs, hcs, hd⟩ := hx
      obtain ⟨hLD, hli⟩ := untup_den hl hd (fun a ha => List.all_eq_true.1 hc.2 a ha)
      have hrun : (execOp a.eval o).run P w = .ok (.value (.pointer (some ⟨w.heap.size, 0, .none⟩))) { w with heap := w.heap.push (.cells (a.eval x).cells t) } := by
        simp [execOp, ho, Instr.box, newVar, newRow]
      unfold Oper.wp
      rw [hrun, hcs]
      obtain ⟨⟨h0, -⟩, -⟩ := H.rcP hz
      let l0 : Loc := { blk := w.heap.size, size := zs.length, room := zs.length, σ := .ref, ty := t }
      have hsz : cs.size = zs.length := by rw [hLD.1, hc.1]
      refine K _ _ (up ρ M.length l0) (After.alloc hM rfl (b := .r l) (o := .cells cs t) ⟨cs, rfl, hsz, rfl, hc.1, Nat.le_refl _, fun j x hj => hLD.2 j x hj⟩ (fun vs ee y hy i hi => ?_)) ?_ ?_
      · cases ee; exact hxi i (by simp only [AV.ids]; exact hli y hy i hi)
      · simp only [Den]
        rw [up_new]
        exact ⟨rfl, h0, rfl, rfl, rfl, rfl⟩
      · intro i hi; simp [AV.ids] at hi; simp [hi]
    · rename_i hn
      split at h
      · rename_i b hb
        cases h
        have hrun : (execOp a.eval o).run P w = .ok (.value (.pointer (some ⟨w.heap.size, 0, .none⟩))) { w with heap := w.heap.push (.cells (a.eval x).cells t) } := by
          simp [execOp, ho, Instr.box, newVar, newRow]
        unfold Oper.wp
        rw [hrun]
        let l : Loc := { blk := w.heap.size, size := (Γ.sg t).n, room := (Γ.sg t).n, σ := Γ.sg t, ty := t }
        obtain ⟨q1, q2⟩ := boxBlk_rel (ρ := ρ) (l := l) hn hb (hE x) rfl rfl rfl
        refine K _ _ (up ρ M.length l) (After.alloc hM rfl q1 (fun vs e y hy i hi => ?_)) ?_ ?_
        · rw [q2 vs e y hy] at hi; exact hI x i hi
        · simp only [Den]
          rw [up_new]
          exact ⟨rfl, ptr_self rfl rfl, rfl⟩
        · intro i hi; simp [AV.ids] at hi; simp [hi]
      · cases h
  · rename_i t ho
    rw [fSg_eq] at h
    split at h
    · split at h
      · rename_i zs hrc
        cases h
        let l : Loc := { blk := w.heap.size, size := zs.length, room := zs.length, σ := .ref, ty := t }
        obtain ⟨i, z, hi, hz, q1, q2, q3⟩ := recNew (ρ := ρ) (l := l) H hrc rfl rfl rfl
        have hzr : (zeroValue t).run P w = .ok z w := by unfold zeroValue; simp [run_ti hi, hz]
        have hrun : (execOp a.eval o).run P w = .ok (.value (.pointer (some ⟨w.heap.size, 0, .none⟩))) { w with heap := w.heap.push (.cells z.cells t) } := by
          simp [execOp, ho, Instr.alloc, newVar, newRow, hzr]
        unfold Oper.wp
        rw [hrun]
        refine K _ _ (up ρ M.length l) (After.alloc hM rfl q1 (fun vs e y hy i hi => ?_)) ?_ ?_
        · cases e; rw [q2 y hy] at hi; cases hi
        · simp only [Den]
          rw [up_new]
          exact ⟨rfl, q3, rfl, rfl, rfl, rfl⟩
        · intro i hi; simp [AV.ids] at hi; simp [hi]
      · cases h
    · rename_i hn
      cases h
      obtain ⟨i, z, hi, hsz, hz, hzo⟩ := H.parts rfl hn
      have hzr : (zeroValue t).run P w = .ok z w := by unfold zeroValue; simp [run_ti hi, hz]
      have hrun : (execOp a.eval o).run P w = .ok (.value (.pointer (some ⟨w.heap.size, 0, .none⟩))) { w with heap := w.heap.push (.cells z.cells t) } := by
        simp [execOp, ho, Instr.alloc, newVar, newRow, hzr]
      unfold Oper.wp
      rw [hrun]
      let l : Loc := { blk := w.heap.size, size := (Γ.sg t).n, room := (Γ.sg t).n, σ := Γ.sg t, ty := t }
      obtain ⟨q1, q2⟩ := zeroBlk_rel (ρ := ρ) (l := l) hn hzo rfl rfl rfl
      refine K _ _ (up ρ M.length l) (After.alloc hM rfl q1 (fun vs e y hy i hi => ?_)) ?_ ?_
      · rw [q2 vs e y hy] at hi; simp [AV.ids] at hi
      · simp only [Den]
        rw [up_new]
        exact ⟨rfl, ptr_self rfl rfl, rfl⟩
      · intro i hi; simp [AV.ids] at hi; simp [hi]
  · rename_i t r' ho
    split at h
    · rename_i _ _ _ e hmp
      split at h
      · rename_i k hk
        rw [fSg_eq] at h
        cases h
        have hrun : (execOp a.eval o).run P w = .ok (.value (.map (some w.heap.size))) { w with heap := w.heap.push (.map #[] 0) } := by
          simp [execOp, ho, Instr.makeMap, newObj]
          rfl
        unfold Oper.wp
        rw [hrun]
        let l : Loc := { blk := w.heap.size, size := 0, room := 0, σ := .none, ty := t }
        refine K _ _ (up ρ M.length l) (After.alloc hM rfl (o := .map #[] 0) ⟨#[], 0, rfl, trivial⟩ (fun vs e => by cases e)) ?_ ?_
        · simp only [Den]
          rw [up_new]
        · intro i hi; simp [AV.ids] at hi; simp [hi]
      · cases h
    · cases h
  · rename_i t m q x ho
    split at h
    · rename_i kt0 et0 id τ0 qs hmp em eq
      split at h
      · rename_i σk k es hid
        split at h
        case isFalse => cases h
        rename_i hσ
        obtain ⟨hσ1, hσ2⟩ := hσ
        subst hσ1
        split at h
        · rename_i n hn
          cases h
          have hm := hE m
          have hq := hE q
          rw [em] at hm
          rw [eq] at hq
          obtain ⟨hq1, hq2, hq3, -⟩ := hq
          obtain ⟨hx1, hx2⟩ := toCell_den hn (hE x)
          obtain ⟨w', hr, hA⟩ := update_run H hmp hσ2 hM hid hq2 hq3 hx2
          have hrun : (execOp a.eval o).run P w = .ok .skip w' := by
            simp only [Den] at hm
            have hr' := hr
            unfold keyV at hr'
            simp [execOp, ho, hm, hq1, hx1, hr']
          unfold Oper.wp
          rw [hrun]
          exact K _ _ ρ hA trivial (by simp [AV.ids])
        · cases h
      · cases h
    · cases h
  · rename_i t m q ok ho
    split at h
    · rename_i kt et id τ0 qs hmp em eq
      split at h
      · rename_i σk k es k' hid hk
        split at h
        · rename_i hkk
          obtain ⟨hkk, hσ1, hσ2⟩ := hkk
          subst hkk
          subst hσ1
          cases h
          have hm := hE m
          have hq := hE q
          rw [em] at hm
          rw [eq] at hq
          obtain ⟨hq1, hq2, hq3, -⟩ := hq
          obtain ⟨hr, hok⟩ := lookup_run H hmp hσ2 hk hM hid hq2 hq3
          have hrun : (execOp a.eval o).run P w = .ok (.value (k.val (lkM es qs))) w := by
            simp only [Den] at hm
            have hr' := hr
            unfold keyV at hr'
            simp [execOp, ho, hm, hq1, hr']
          unfold Oper.wp
          rw [hrun]
          exact K _ _ ρ (After.refl hM) (den_cell ρ hok) (by cases k <;> simp [cellAV, AV.ids])
        · cases h
      · cases h
    · cases h
  · rename_i t x y ho
    have hx := hE x
    split at h
    · rename_i id off σ e
      rw [e] at hx
      obtain ⟨hx, hp⟩ := hx
      split at h
      · rename_i hc
        split at h
        · rename_i M2 hs
          cases h
          obtain ⟨w', hr, hA⟩ := store_sound H hM hc.1 hc.2 hp (hE y) (hI y) hs
          have hrun : (execOp a.eval o).run P w = .ok .skip w' := by simp [execOp, ho, hx, Instr.storeAt, Instr.sureAddr, hr]
          unfold Oper.wp
          rw [hrun]
          exact K _ _ ρ hA trivial (by simp [AV.ids])
        · cases h
      · cases h
    · rename_i id σ e
      rw [e] at hx
      obtain ⟨hx, hp, hsz⟩ := hx
      split at h
      · rename_i hc
        split at h
        · rename_i M2 hs
          cases h
          obtain ⟨w', hr, hA⟩ := store_sound H hM hc.1 hc.2 hp (hE y) (hI y) (storeW_eq hM hsz hs)
          have hrun : (execOp a.eval o).run P w = .ok .skip w' := by simp [execOp, ho, hx, Instr.storeAt, Instr.sureAddr, hr]
          unfold Oper.wp
          rw [hrun]
          exact K _ _ ρ hA trivial (by simp [AV.ids])
        · cases h
      · cases h
    · rename_i id i o' σ τ e
      rw [e] at hx
      split at h
      · rename_i hc
        split at h
        · rename_i M2 hs
          cases h
          obtain ⟨w', ad, hu, hr, hA⟩ := lpStore_sound H hM hc.1 hx (hE y) hs
          have hrun : (execOp a.eval o).run P w = .ok .skip w' := by simp [execOp, ho, hu, Instr.storeAt, Instr.sureAddr, hr]
          unfold Oper.wp
          rw [hrun]
          exact K _ _ ρ hA trivial (by simp [AV.ids])
        · cases h
      · cases h
    · rename_i id off n t' e
      rw [e] at hx
      split at h
      · rename_i M2 hs
        cases h
        obtain ⟨w', ad, hu, hr, hA⟩ := recStore_sound H hM hx (hE y) (hI y) hs
        have hrun : (execOp a.eval o).run P w = .ok .skip w' := by simp [execOp, ho, hu, Instr.storeAt, Instr.sureAddr, hr]
        unfold Oper.wp
        rw [hrun]
        exact K _ _ ρ hA trivial (by simp [AV.ids])
      · split at h
        · rename_i M2 hs
          cases h
          obtain ⟨w', ad, hu, hr, hA⟩ := recPut_sound H hM hx (hE y) (hI y) hs
          have hrun : (execOp a.eval o).run P w = .ok .skip w' := by simp [execOp, ho, hu, Instr.storeAt, Instr.sureAddr, hr]
          unfold Oper.wp
          rw [hrun]
          exact K _ _ ρ hA trivial (by simp [AV.ids])
        · cases h
    · cases h
  · rename_i c ho
    split at h
    · rename_i n args hc
      have key : ∃ vals : List Value, Dens ρ args vals ∧ (∀ x ∈ args, ∀ i ∈ x.ids, i < M.length) ∧ (execOp a.eval o).run P w = (callFunc n vals.toArray).run P w := by
          unfold evCallee at hc
          split at hc
          case h_2 => cases hc
          rename_i f hcal
          have hf := hE f
          have hfi := hI f
          split at hc
          · rename_i n' caps e
            simp only [Option.some.injEq, Prod.mk.injEq] at hc
            obtain ⟨rfl, rfl⟩ := hc
            rw [e] at hf hfi
            obtain ⟨hf1, hf2⟩ := hf
            refine ⟨(c.args.toList).map a.eval ++ caps.map fun c => Value.pointer (some ⟨(ρ c.1).blk, 0, .none⟩), dens_app (dens_map hE _) (dens_caps caps hf2), ?_, ?_⟩
            · intro x hx i hi
              rw [List.mem_append, List.mem_map, List.mem_map] at hx
              rcases hx with ⟨y, -, rfl⟩ | ⟨p, hp, rfl⟩
              · exact hI y i hi
              · simp only [AV.ids, List.mem_singleton] at hi
                subst hi
                exact hfi p.1 (by simp only [AV.ids]; exact List.mem_map_of_mem hp)
            · simp only [execOp, ho, resolve, hcal, hf1, Deferred.ofValue, Sem.run_bind, Sem.run_pure, Result.andThen_ok, invoke]
              congr 2
              apply Array.toList_inj.1
              simp
          · rename_i n' σ xs e
            simp only [Option.some.injEq, Prod.mk.injEq] at hc
            obtain ⟨rfl, rfl⟩ := hc
            rw [e] at hf hfi
            obtain ⟨hf1, hf2, hf3, hf4⟩ := hf
            refine ⟨.agg (cellsV σ.flat xs).toArray :: (c.args.toList).map a.eval, ⟨⟨rfl, hf2, hf3, hf4⟩, dens_map hE _⟩, ?_, ?_⟩
            · intro x hx i hi
              rcases List.mem_cons.1 hx with rfl | hx
              · simp [AV.ids] at hi
              · obtain ⟨y, -, rfl⟩ := List.mem_map.1 hx
                exact hI y i hi
            · simp only [execOp, ho, resolve, hcal, hf1, Deferred.ofValue, Sem.run_bind, Sem.run_pure, Result.andThen_ok, invoke]
              congr 2
              apply Array.toList_inj.1
              simp
          · cases hc
      obtain ⟨vals, hargs, hids, hrun⟩ := key
      split at h
      · rename_i S hS
        rw [fL_eq] at h
        unfold Oper.wp
        rw [hrun, htb.enter n S hS]
        simp only [Oper.upon_enter]
        split at h
        · rename_i r' M2 vs2 hcall
          cases h
          refine (call_spec (htb.sound n S hS) hcall hv ρ _ w hargs hM hids).mono ?_
          rintro e' w' ⟨v, ρ', rfl, hd, hA, hi⟩
          exact K v w' ρ' hA hd hi
        · split at h
          · rename_i args' M1 hz
            rw [fM_eq] at h
            obtain ⟨ρ1, k1, k2, k3, k4, k5⟩ := frzL_sound hM hargs hids hz
            refine (call_spec (htb.sound n S hS) h hv ρ1 _ w k2 k1.rel k3).mono ?_
            rintro e' w' ⟨v, ρ', rfl, hd, hA, hi⟩
            exact K v w' ρ' (k1.trans hA) hd hi
          · cases h
      · split at h
        · rename_i x hne
          cases h
          match vals, hargs with
          | [v], hargs =>
            unfold Oper.wp
            rw [hrun, H.ne n hne]
            exact K v w ρ (After.refl hM) hargs.1 (hids r (by simp))
        · cases h
    · split at h
      · rename_i r' v' hs
        cases h
        exact still (by rw [ho]; exact hs) hv K
      · split at h
        · rename_i x y hcal hargs
          have both : ∃ z w' ρ', (Builtin.append_ c.argTypes o.type #[a.eval x, a.eval y]).run P w = .ok z w' ∧ After ρ M M' w w' ρ' ∧ Den ρ' r z ∧ ∀ i ∈ r.ids, i < M'.length := by
            split at h
            · rename_i r0 h0
              cases h
              exact appAV_sound (ty := o.type) H hM (hE x) (hE y) h0 hv
            · exact appS_sound (ty := o.type) H hM (hE x) (hE y) h hv
          obtain ⟨z, w', ρ', h1, h2, h3, h4⟩ := both
          unfold Oper.wp
          have e : c.args.map a.eval = #[a.eval x, a.eval y] := by
            apply Array.toList_inj.1; simp [hargs]
          have hrun : (execOp a.eval o).run P w = .ok (.value z) w' := by
            simp only [execOp, ho, resolve, hcal, invoke, builtin, e, Sem.run_bind, Sem.run_pure, Result.andThen_ok, h1]
          rw [hrun]
          exact K z w' ρ' h2 h3 h4
        · rename_i x hcal hargs
          split at h
          case h_2 => cases h
          rename_i M1 v1 hcl
          cases h
          obtain ⟨w', h1, h2⟩ := clrAV_sound (ty := o.type) H hM (hE x) hcl hv
          unfold Oper.wp
          have e : c.args.map a.eval = #[a.eval x] := by
            apply Array.toList_inj.1; simp [hargs]
          have hrun : (execOp a.eval o).run P w = .ok (.value (.tuple #[])) w' := by
            simp only [execOp, ho, resolve, hcal, invoke, builtin, e, Sem.run_bind, Sem.run_pure, Result.andThen_ok, h1]
          rw [hrun]
          exact K _ w' ρ h2 trivial (fun i hi => by cases hi)
        · rename_i x y hcal hargs
          split at h
          case h_2 => cases h
          rename_i M1 hcl
          cases h
          obtain ⟨w', h1, h2⟩ := delAV_sound (ty := o.type) H hM (hE x) (hE y) hcl
          unfold Oper.wp
          have e : c.args.map a.eval = #[a.eval x, a.eval y] := by
            apply Array.toList_inj.1; simp [hargs]
          have hrun : (execOp a.eval o).run P w = .ok (.value (.tuple #[])) w' := by
            simp only [execOp, ho, resolve, hcal, invoke, builtin, e, Sem.run_bind, Sem.run_pure, Result.andThen_ok, h1]
          rw [hrun]
          exact K _ w' ρ h2 trivial (fun i hi => by cases hi)
        · cases h
  · rename_i t len ps ho
    split at h
    · rename_i r' b hs
      cases h
      obtain ⟨v, w', ρ', h1, h2, h3, h4⟩ := newSl_sound (w := w) H hE hM hs
      unfold Oper.wp
      have hrun : (execOp a.eval o).run P w = .ok (.value v) w' := by simp [execOp, ho, h1]
      rw [hrun]
      exact K v w' ρ' h2 h3 h4
    · cases h
  · rename_i t len cap ho
    split at h
    · rename_i r' b v' hs
      cases h
      obtain ⟨z, w', ρ', h1, h2, h3, h4⟩ := mkAV_sound H hM (hE len) (hE cap) hs hv
      unfold Oper.wp
      have hrun : (execOp a.eval o).run P w = .ok (.value z) w' := by simp [execOp, ho, h1]
      rw [hrun]
      exact K z w' ρ' h2 h3 h4
    · cases h
  · rename_i t x lo' hi' mx' ho
    split at h
    · rename_i r' v' hs
      cases h
      exact still (by rw [ho]; exact hs) hv K
    · split at h
      · rename_i l' h' m' el eh em
        have bv : ∀ (o : Option Operand) (n : Option Int), bndAV E o = some n → BV n (o.map a.eval) := by
          intro o n ho
          cases o with
          | none => cases ho; trivial
          | some y =>
            simp only [bndAV] at ho
            split at ho
            · rename_i k n' e
              cases ho
              have := hE y
              rw [e] at this
              exact ⟨k, this⟩
            · cases ho
        split at h
        · rename_i r0 v0 ht
          cases h
          obtain ⟨z, h1, h2, h3⟩ := tailAV_sound (w := w) H ht hv (hE x) (bv _ _ el) (bv _ _ eh) (bv _ _ em)
          unfold Oper.wp
          have hrun : (execOp a.eval o).run P w = .ok (.value z) w := by simp [execOp, ho, h1]
          rw [hrun]
          exact K z w ρ (After.refl hM) h2 (fun i hi => hI x i (h3 i hi))
        · obtain ⟨z, ρ', h1, h2, h3, h4⟩ := cutAV_sound H hM h hv (hE x) (bv _ _ el) (bv _ _ eh) (bv _ _ em)
          unfold Oper.wp
          have hrun : (execOp a.eval o).run P w = .ok (.value z) w := by simp [execOp, ho, h1]
          rw [hrun]
          exact K z w ρ' h2 h3 h4
      · cases h
  · split at h
    · rename_i r' v' hs
      cases h
      exact still hs hv K
    · cases h

end Go.Eng

/- The engine, part 11: a region in the text's order. No conditions. -/
namespace Go.Eng
open Go Go.RowKit
set_option linter.unusedSectionVars false
variable [Glob]
variable {P : Program} {Γ : Tab}

def setO (fr : List AV) (d : Option Tmp) (r : AV) : List AV :=
  match d with
  | some d => fr.set d r
  | .none => fr

/-- A test is decided by the path. -/
def decide1 (fr : List AV) (t : Tmp) (π : List Bool) : Option (Bool × List AV × List Bool × List Prop) :=
  match fr.getD t .any with
  | .d true => some (true, fr, π, [])
  | .d false => some (false, fr, π, [])
  | .b p => match π with
    | true :: π => some (true, fr.set t (.d true), π, [p = true])
    | false :: π => some (false, fr.set t (.d false), π, [p = false])
    | [] => .none
  | _ => .none

theorem decide1_sound {ρ : Rho} {n : Nat} {fr fr' : List AV} {a : Act} {t : Tmp} {π π' : List Bool} {bit : Bool} {v : List Prop} (hF : FRel ρ n fr a) (h : decide1 fr t π = some (bit, fr', π', v)) (hv : allP v) :
    FRel ρ n fr' a ∧ a.tmps[t]? = some (.bool bit) ∧ fr'.length = fr.length := by
  have hd := hF.den t
  have key : ∀ q : AV, fr.getD t .any = q → q ≠ .any → Den ρ q (.bool bit) → a.tmps.getD t undef = .bool bit → a.tmps[t]? = some (.bool bit) := by
    intro q hq hne _ ha
    have hlt : t < fr.length := by
      rcases Nat.lt_or_ge t fr.length with h | h
      · exact h
      · exfalso; apply hne; rw [← hq, List.getD_eq_getElem?_getD, List.getElem?_eq_none h]; rfl
    have hlt' : t < a.tmps.size := by rw [hF.size]; exact hlt
    rw [Array.getElem?_eq_getElem hlt']
    rw [Array.getD_eq_getD_getElem?, Array.getElem?_eq_getElem hlt'] at ha
    exact congrArg some ha
  have set : ∀ p : Bool, fr.getD t .any = .b p → p = bit → FRel ρ n (fr.set t (.d bit)) a := by
    intro p hp hb
    have e : ∀ s, (fr.set t (.d bit)).getD s .any = if t = s ∧ s < fr.length then .d bit else fr.getD s .any := by
      intro s
      rw [List.getD_eq_getElem?_getD, List.getD_eq_getElem?_getD, List.getElem?_set]
      by_cases hs : t = s
      · subst hs
        by_cases hl : t < fr.length
        · simp [hl]
        · simp [hl]
      · simp [hs]
    refine ⟨by rw [List.length_set]; exact hF.size, fun s => ?_, fun s => ?_⟩
    · rw [e]
      split
      · rename_i hs
        rw [← hs.1]
        rw [hp] at hd
        simp only [Den] at hd ⊢
        rw [hd, hb]
      · exact hF.den s
    · rw [e]
      split
      · simp [AV.ids]
      · exact hF.ids s
  unfold decide1 at h
  split at h
  · rename_i e; cases h; rw [e] at hd; exact ⟨hF, key _ e (by simp) rfl hd, rfl⟩
  · rename_i e; cases h; rw [e] at hd; exact ⟨hF, key _ e (by simp) rfl hd, rfl⟩
  · rename_i p e
    rw [e] at hd
    simp only [Den] at hd
    split at h
    · cases h
      have hp : p = true := hv.1
      exact ⟨set p e hp, key _ e (by simp) (by simp only [Den]; rw [hp]) (by rw [hd, hp]), List.length_set⟩
    · cases h
      have hp : p = false := hv.1
      exact ⟨set p e hp, key _ e (by simp) (by simp only [Den]; rw [hp]) (by rw [hd, hp]), List.length_set⟩
    · cases h
  · cases h

/-- Is it wanted? What was passed by yields nothing. -/
def guard1 (fr : List AV) (t : Tmp) (want : Bool) (π : List Bool) : Option (Bool × List AV × List Bool × List Prop) :=
  match fr.getD t .any with
  | .un => some (false, fr, π, [])
  | _ => match decide1 fr t π with
    | some (bit, fr, π, v) => some (bit == want, fr, π, v)
    | .none => .none

/-- Decide what an operation picks by. -/
def decideP (fr : List AV) (π : List Bool) : Op → Option (List AV × List Bool × List Prop)
  | .pick (.tmp t) _ _ => match decide1 fr t π with
    | some (_, fr, π, v) => some (fr, π, v)
    | .none => .none
  | _ => some (fr, π, [])

def evOps (Γ : Tab) (wr : Bool) (tb : FuncId → Option Fun) (all : Array Oper) : List Oper → List AV → List Blk → List Bool → Option (List AV × List Blk × List Bool × List Prop)
  | [], fr, M, π => some (fr, M, π, [])
  | o :: rest, fr, M, π =>
    match (match o.guard with
      | .none => some (true, fr, π, [])
      | some (j, want) => match (all[j]?).bind (·.dst) with
        | some t => guard1 fr t want π
        | .none => .none) with
    | some (true, fr, π, v1) => match decideP fr π o.op with
      | some (fr, π, v2) => match evO Γ wr tb M (evA fr) o.op with
        | some (r, M, v3) => fAV r fun r => fM M fun M => fL (setO fr o.dst r) fun fr => fP (v1 ++ v2 ++ v3) fun v => match evOps Γ wr tb all rest fr M π with
          | some (fr, M, π, v') => some (fr, M, π, v ++ v')
          | .none => .none
        | .none => .none
      | .none => .none
    | some (false, fr, π, v1) => fL (setO fr o.dst AV.un) fun fr => match evOps Γ wr tb all rest fr M π with
      | some (fr, M, π, v') => some (fr, M, π, v1 ++ v')
      | .none => .none
    | .none => .none

theorem putO {ρ : Rho} {n : Nat} {fr : List AV} {a : Act} (h : FRel ρ n fr a) {r : AV} {v : Value} (hd : Den ρ r v) (hi : ∀ i ∈ r.ids, i < n) (d : Option Tmp) : FRel ρ n (setO fr d r) (a.put d v) := by
  have := h.put hd hi d
  cases d <;> exact this

theorem put_defers (a : Act) (d : Option Tmp) (v : Value) : (a.put d v).defers = a.defers := by cases d <;> rfl

theorem evOps_sound (H : TabOk P Γ) {tb : FuncId → Option Fun} (htb : TbOk P tb) {wr : Bool} {all : Array Oper} {Q : Exit → Act → World → Prop} :
    ∀ (l : List Oper) (ρ : Rho) (fr : List AV) (M : List Blk) (π : List Bool) (a : Act) (w : World) (fr' : List AV) (M' : List Blk) (π' : List Bool) (vs : List Prop),
      FRel ρ M.length fr a → MRel ρ M w → evOps Γ wr tb all l fr M π = some (fr', M', π', vs) → allP vs →
      (∀ a' w' ρ', After ρ M M' w w' ρ' → FRel ρ' M'.length fr' a' → a'.defers = a.defers → Q .normal a' w') → wpList P all Q l a w := by
  intro l
  induction l with
  | nil =>
    intro ρ fr M π a w fr' M' π' vs hF hM h hv K
    cases h
    exact K a w ρ (After.refl hM) hF rfl
  | cons o rest ih =>
    intro ρ fr M π a w fr' M' π' vs hF hM h hv K
    simp only [evOps] at h
    -- the guard
    have guard : ∀ (b : Bool) (fr1 : List AV) (π1 : List Bool) (v1 : List Prop),
        (match o.guard with
          | .none => some (true, fr, π, [])
          | some (j, want) => match (all[j]?).bind (·.dst) with
            | some t => guard1 fr t want π
            | .none => .none) = some (b, fr1, π1, v1) → allP v1 → Region.wanted o (yielded all a.tmps) = b ∧ FRel ρ M.length fr1 a := by
      intro b fr1 π1 v1 hg hv1
      unfold Region.wanted
      split at hg
      · cases hg; rename_i e; rw [e]; exact ⟨rfl, hF⟩
      · rename_i j want e
        rw [e]
        dsimp only
        split at hg
        · rename_i t ht
          unfold guard1 at hg
          split at hg
          · rename_i hun
            cases hg
            refine ⟨?_, hF⟩
            have hdt := hF.den t
            rw [hun] at hdt
            unfold yielded
            rw [ht]
            simp only [Option.bind_some]
            rw [Array.getD_eq_getD_getElem?] at hdt
            cases hq : a.tmps[t]? with
            | none => rfl
            | some q =>
              rw [hq] at hdt
              simp only [Den, Option.getD_some] at hdt
              subst hdt
              rfl
          split at hg
          · rename_i bit fr2 π2 v2 hd
            cases hg
            obtain ⟨q1, q2, -⟩ := decide1_sound hF hd hv1
            refine ⟨?_, q1⟩
            unfold yielded
            rw [ht]
            simp only [Option.bind_some, q2]
            cases bit <;> cases want <;> rfl
          · cases hg
        · cases hg
    split at h
    · rename_i fr1 π1 v1 hg
      split at h
      · rename_i fr2 π2 v2 hd
        split at h
        · rename_i r M1 v3 ho
          simp only [fAV_eq, fM_eq, fL_eq, fP_eq] at h
          split at h
          · rename_i fr3 M3 π3 v4 hrest
            cases h
            rw [allP_app, allP_app, allP_app] at hv
            obtain ⟨⟨⟨hv1, hv2⟩, hv3⟩, hv4⟩ := hv
            obtain ⟨hw, hF1⟩ := guard true fr1 π1 v1 hg hv1
            have hF2 : FRel ρ M.length fr2 a := by
              unfold decideP at hd
              split at hd
              · split at hd
                · rename_i hd1
                  cases hd
                  exact (decide1_sound hF1 hd1 hv2).1
                · cases hd
              · cases hd; exact hF1
            unfold wpList
            rw [hw]
            simp only [if_true]
            refine .inl (evO_sound H htb (den_op hF2) (ids_op hF2) hM ho hv3 ?_)
            intro v w' ρ' hA hden hids
            have hF3 : FRel ρ' M1.length (setO fr2 o.dst r) (a.put o.dst v) := putO (FRel.ext hA.fmono hF2 hA.ext hA.len) hden hids o.dst
            refine ih ρ' _ M1 π2 _ w' _ _ _ _ hF3 hA.rel hrest hv4 ?_
            intro a' w2 ρ2 hA2 hF4 hdef
            exact K a' w2 ρ2 (hA.trans hA2) hF4 (by rw [hdef, put_defers])
          · cases h
        · cases h
      · cases h
    · rename_i fr1 π1 v1 hg
      simp only [fL_eq] at h
      split at h
      · rename_i fr3 M3 π3 v4 hrest
        cases h
        rw [allP_app] at hv
        obtain ⟨hv1, hv4⟩ := hv
        obtain ⟨hw, hF1⟩ := guard false fr1 π1 v1 hg hv1
        unfold wpList
        rw [hw]
        simp only [Bool.false_eq_true, if_false]
        refine ih ρ _ M π1 _ w _ _ _ _ (putO hF1 (r := .un) (v := undef) rfl (by simp [AV.ids]) o.dst) hM hrest hv4 ?_
        intro a' w2 ρ2 hA2 hF4 hdef
        exact K a' w2 ρ2 hA2 hF4 (by rw [hdef, put_defers])
      · cases h
    · cases h

end Go.Eng
