/- The engine, part 9b: new rows of elements. No conditions. -/
import Derived.Test.YtfelemoefhbphaaEng9
import Derived.Maps.AppendAt
namespace Go.Eng
open Go Go.RowKit
variable {P : Program} {Γ : Tab}

/-- One element as a row of cells. -/
def rowOf (σ : Sg) (r : AV) : Option (List Int) :=
  match σ.inf with
  | .cell k => match toCell k r with
    | some n => some [n]
    | .none => .none
  | .arr _ _ => match r with
    | .ag σ' ys => if σ' = σ then some ys else .none
    | _ => .none
  | .st _ => match r with
    | .ag σ' ys => if σ' = σ then some ys else .none
    | _ => .none
  | _ => .none

def fillRows (σ : Sg) : List (List Int) → List (Nat × AV) → Option (List (List Int))
  | rows, [] => some rows
  | rows, (i, r) :: l => match rowOf σ r with
    | some row => if i < rows.length then fillRows σ (rows.set i row) l else .none
    | .none => .none

theorem rowOf_len {ρ : Rho} {σ : Sg} {r : AV} {row : List Int} {v : Value} (h : rowOf σ r = some row) (hd : Den ρ r v) : row.length = σ.n := by
  unfold rowOf at h
  split at h
  · rename_i k hk
    split at h
    · cases h; exact (Sg.cell_flat σ k hk).2.1.symm ▸ rfl
    · cases h
  · split at h
    · split at h
      · rename_i e; cases h; subst e; exact hd.2.1
      · cases h
    · cases h
  · split at h
    · split at h
      · rename_i e; cases h; subst e; exact hd.2.1
      · cases h
    · cases h
  · cases h

theorem fillRows_fill {ρ : Rho} {σ : Sg} (hp : σ.pure = true) (hn : 0 < σ.n) : ∀ (l : List (Nat × AV)) (rows rows' : List (List Int)), (∀ r ∈ rows, r.length = σ.n) → (∀ (j i : Nat) (r : AV), l[j]? = some (i, r) → ∃ v, Den ρ r v) →
    fillRows σ rows l = some rows' → fillAV (slotAt σ rows.length) rows.flatten l = some rows'.flatten ∧ (∀ r ∈ rows', r.length = σ.n) ∧ rows'.length = rows.length
  | [], rows, rows', hl, _, h => by cases h; exact ⟨rfl, hl, rfl⟩
  | (i, r) :: l, rows, rows', hl, hd, h => by
    simp only [fillRows] at h
    split at h
    · rename_i row hr
      split at h
      · rename_i hi
        obtain ⟨v, hv⟩ := hd 0 i r rfl
        have hrl := rowOf_len hr hv
        have hl2 : ∀ x ∈ rows.set i row, x.length = σ.n := fun x hx => by
          rcases List.mem_or_eq_of_mem_set hx with h1 | h1
          · exact hl x h1
          · rw [h1, hrl]
        obtain ⟨h1, h2, h3⟩ := fillRows_fill hp hn l (rows.set i row) rows' hl2 (fun j i' r' hj => hd (j + 1) i' r' (by simpa using hj)) h
        rw [List.length_set] at h1 h3
        refine ⟨?_, h2, h3⟩
        have hget : (rows.getD i []).length = σ.n := by rw [List.getD_eq_getElem?_getD, List.getElem?_eq_getElem hi]; exact hl _ (List.getElem_mem hi)
        have hfs := flatten_set (σn := σ.n) hl hrl i 0 σ.n row hi (by omega) hrl (by rw [Nat.zero_add, List.take_zero, List.drop_eq_nil_of_le (by omega)]; simp)
        rw [Nat.add_zero] at hfs
        simp only [fillAV, slotAt, if_pos hi]
        unfold rowOf at hr
        split at hr
        · rename_i k hk
          split at hr
          · rename_i n hc
            cases hr
            have h1n : σ.n = 1 := (Sg.cell_flat σ k hk).2.1
            simp only [hk, hc]
            rw [set_seg _ _ _ (by rw [flatten_len hl, h1n]; omega)]
            rw [h1n] at hfs
            rw [h1n, ← hfs]; exact h1
          · cases hr
        · rename_i n e0 hinf
          split at hr
          · split at hr
            · rename_i e
              cases hr
              subst e
              simp only [hinf, if_true]
              unfold putSeg
              rw [← hfs]; exact h1
            · cases hr
          · cases hr
        · rename_i fs hinf
          split at hr
          · split at hr
            · rename_i e
              cases hr
              subst e
              simp only [hinf, if_true]
              unfold putSeg
              rw [← hfs]; exact h1
            · cases hr
          · cases hr
        · cases hr
      · cases h
    · cases h

/-- All places, in order. -/
def inOrder : Nat → List (Nat × AV) → Bool
  | _, [] => true
  | k, (i, _) :: l => Nat.beq i k && inOrder (k + 1) l

def allStr : List (Nat × AV) → Option (List ByteArray)
  | [] => some []
  | (_, .s x) :: l => match allStr l with
    | some xs => some (x :: xs)
    | .none => .none
  | _ => .none

def allFs (σ : Sg) : List (Nat × AV) → Option (List (List (List Int)))
  | [] => some []
  | (_, .fs τ rows) :: l => if τ = σ then (match allFs σ l with
    | some xs => some (rows :: xs)
    | .none => .none) else .none
  | _ => .none

theorem fill_one : ∀ (l : List (Nat × AV)) (vs : List (Nat × Value)) (k : Nat) (cs : List Value), inOrder k l = true → l.length = vs.length → (∀ (j i : Nat) (r : AV), l[j]? = some (i, r) → ∃ v, vs[j]? = some (i, v) ∧ v.cells = #[v]) →
    cs.length = k + l.length → Instr.fill (fun i => some (i * 1, 1)) cs.toArray vs = some (cs.take k ++ vs.map (·.2)).toArray
  | [], [], k, cs, _, _, _, hc => by simp [Instr.fill]; exact (List.take_of_length_le (by simpa using Nat.le_of_eq hc)).symm
  | [], _ :: _, _, _, _, h, _, _ => by simp at h
  | _ :: _, [], _, _, _, h, _, _ => by simp at h
  | (i, r) :: l, (i', v) :: vs, k, cs, ho, hl, hd, hc => by
    obtain ⟨v', e, hv⟩ := hd 0 i r rfl
    simp only [List.getElem?_cons_zero, Option.some.injEq, Prod.mk.injEq] at e
    obtain ⟨rfl, rfl⟩ := e
    simp only [inOrder, Bool.and_eq_true] at ho
    have hik := Nat.eq_of_beq_eq_true ho.1
    subst hik
    simp only [List.length_cons] at hc
    have ih := fill_one l vs (i' + 1) (cs.set i' v) ho.2 (by simpa using hl) (fun j i r hj => by simpa using hd (j + 1) i r (by simpa using hj)) (by simp; omega)
    simp only [Nat.mul_one] at ih ⊢
    simp only [Instr.fill, hv]
    rw [if_neg (by simp; omega)]
    have e : ((#[v] : Array Value).zipIdx.foldl (fun cs (p : Value × Nat) => cs.setIfInBounds (i' + p.2) p.1) cs.toArray) = (cs.set i' v).toArray := by
      simp
    have e2 : (cs.set i' v).take (i' + 1) = cs.take i' ++ [v] := by
      rw [List.take_set, List.take_succ_eq_append_getElem (by omega), List.set_append_right _ _ (by simp; omega)]
      simp [List.length_take, Nat.min_eq_left (by omega : i' ≤ cs.length)]
    rw [e, ih, e2]
    simp

/-- A row of one-cell elements, built whole. -/
theorem run_buildOne (H : TabOk P Γ) {w : World} {t e : TypeId} {l : List (Nat × AV)} {parts : Array (Nat × Value)} (hs : Γ.sl t = some e) (hn : Γ.sg e = .str ∨ Γ.sg e = .ref) (hb : l.length ≤ 16777216)
    (hl : l.length = parts.size) (ho : inOrder 0 l = true) (hd : ∀ (j i : Nat) (r : AV), l[j]? = some (i, r) → ∃ v, parts.toList[j]? = some (i, v) ∧ v.cells = #[v]) :
    (Instr.buildSlice t l.length parts).run P w = .ok (.slice (some ⟨w.heap.size, 0, none⟩) l.length l.length) { w with heap := w.heap.push (.cells (parts.toList.map (·.2)).toArray e) } := by
  have hu := H.sl t e hs
  have hne : Γ.sg e ≠ .none := by rcases hn with h | h <;> rw [h] <;> simp
  obtain ⟨ti, z, hi, hsz, hz, hzo⟩ := H.parts rfl hne
  have h1 : (Γ.sg e).n = 1 := by rcases hn with h | h <;> rw [h] <;> rfl
  rw [h1] at hsz
  have hlt : ¬ l.length * 1 > 2 ^ 24 := by omega
  have hf : ∀ cs : Array Value, cs.size = l.length → Instr.fill (fun i => some (i * 1, 1)) cs parts.toList = some (parts.toList.map (·.2)).toArray := by
    intro cs hcs
    have := fill_one l parts.toList 0 cs.toList ho (by simpa using hl) hd (by simpa using hcs)
    simpa using this
  simp only [Instr.buildSlice, Sem.run_bind, run_underlying hu, Result.andThen_ok, run_so hi hsz, if_neg hlt]
  by_cases h0 : l.length * 1 = 0
  · rw [if_pos h0, pure_bind, hf _ (by simp)]
    simp [newRow]
  · rw [if_neg h0, Sem.run_bind]
    have hzv : (zeroValue e).run P w = .ok z w := by simp [zeroValue, run_ti hi, hz]
    rw [hzv, Result.andThen_ok, pure_bind, hf _ (by simp)]
    simp [newRow]

/-- A new row of elements. -/
def newSl (Γ : Tab) (M : List Blk) (E : Operand → AV) (t : TypeId) (len : Nat) (ps : Array (Nat × Operand)) : Option (AV × Blk) :=
  match Γ.sl t with
  | some e => fSg (Γ.sg e) fun σ => match σ with
    | .str => (match allStr (ps.toList.map fun p => (p.1, E p.2)) with
      | some l => if inOrder 0 (ps.toList.map fun p => (p.1, E p.2)) = true ∧ ps.size = len ∧ len ≤ 16777216 then some (.ow M.length len .str e, .s l) else .none
      | .none => .none)
    | .ref => (match Γ.sl e with
      | some e2 => fSg (Γ.sg e2) fun τ => (match allFs τ (ps.toList.map fun p => (p.1, E p.2)) with
        | some l => if inOrder 0 (ps.toList.map fun p => (p.1, E p.2)) = true ∧ ps.size = len ∧ len ≤ 16777216 then some (.ow M.length len .ref e, .rf τ l) else .none
        | .none => .none)
      | .none => .none)
    | σ => if σ.pure = true ∧ σ ≠ .none ∧ len * σ.n ≤ 16777216 then
      (match fillRows σ (List.replicate len (List.replicate σ.n 0)) (ps.toList.map fun p => (p.1, E p.2)) with
      | some rows => some (.ow M.length len σ e, .l σ rows)
      | .none => .none) else .none
  | .none => .none

theorem allStr_len : ∀ {l : List (Nat × AV)} {xs : List ByteArray}, allStr l = some xs → xs.length = l.length ∧ ∀ (j : Nat) x, xs[j]? = some x → ∃ i, l[j]? = some (i, .s x)
  | [], xs, h => by cases h; exact ⟨rfl, fun j x h => by simp at h⟩
  | (i, r) :: l, xs, h => by
    cases r <;> simp only [allStr, reduceCtorEq] at h
    rename_i s
    split at h
    · rename_i ys hy
      cases h
      obtain ⟨h1, h2⟩ := allStr_len hy
      refine ⟨by simp [h1], fun j x hj => ?_⟩
      cases j with
      | zero => simp only [List.getElem?_cons_zero, Option.some.injEq] at hj; subst hj; exact ⟨i, rfl⟩
      | succ j => simpa using h2 j x (by simpa using hj)
    · cases h

theorem allFs_len {τ : Sg} : ∀ {l : List (Nat × AV)} {xs : List (List (List Int))}, allFs τ l = some xs → xs.length = l.length ∧ ∀ (j : Nat) x, xs[j]? = some x → ∃ i, l[j]? = some (i, .fs τ x)
  | [], xs, h => by cases h; exact ⟨rfl, fun j x h => by simp at h⟩
  | (i, r) :: l, xs, h => by
    cases r <;> simp only [allFs, reduceCtorEq] at h
    rename_i σ s
    split at h
    · rename_i e
      subst e
      split at h
      · rename_i ys hy
        cases h
        obtain ⟨h1, h2⟩ := allFs_len hy
        refine ⟨by simp [h1], fun j x hj => ?_⟩
        cases j with
        | zero => simp only [List.getElem?_cons_zero, Option.some.injEq] at hj; subst hj; exact ⟨i, rfl⟩
        | succ j => simpa using h2 j x (by simpa using hj)
      · cases h
    · cases h

theorem newSl_sound (H : TabOk P Γ) {ρ : Rho} {M : List Blk} {E : Operand → AV} {ev : Operand → Value} {w : World} {t : TypeId} {len : Nat} {ps : Array (Nat × Operand)} {r : AV} {b : Blk}
    (hE : ∀ x, Den ρ (E x) (ev x)) (hM : MRel ρ M w) (h : newSl Γ M E t len ps = some (r, b)) :
    ∃ v w' ρ', (Instr.buildSlice t len (ps.map fun p => (p.1, ev p.2))).run P w = .ok v w' ∧ After ρ M (M ++ [b]) w w' ρ' ∧ Den ρ' r v ∧ ∀ i ∈ r.ids, i < (M ++ [b]).length := by
  have parts : ∀ (j i : Nat) (r : AV), (ps.toList.map fun p => (p.1, E p.2))[j]? = some (i, r) → ∃ v, (ps.map fun p => (p.1, ev p.2)).toList[j]? = some (i, v) ∧ Den ρ r v := fun j i r hj => by
    rw [List.getElem?_map] at hj
    rw [Array.toList_map, List.getElem?_map]
    cases hq : ps.toList[j]? with
    | none => rw [hq] at hj; cases hj
    | some q =>
      rw [hq] at hj
      simp only [Option.map_some, Option.some.injEq, Prod.mk.injEq] at hj
      obtain ⟨rfl, rfl⟩ := hj
      exact ⟨_, rfl, hE _⟩
  generalize hl : (ps.toList.map fun p => (p.1, E p.2)) = l at parts h
  have hll : l.length = (ps.map fun p => (p.1, ev p.2)).size := by rw [← hl]; simp
  have hll2 : l.length = ps.size := by rw [← hl]; simp
  unfold newSl at h
  rw [hl] at h
  split at h
  case h_2 => cases h
  rename_i e hs
  rw [fSg_eq] at h
  have pure1 : ∀ σ, Γ.sg e = σ → (if σ.pure = true ∧ σ ≠ .none ∧ len * σ.n ≤ 16777216 then
      (match fillRows σ (List.replicate len (List.replicate σ.n 0)) l with
      | some rows => some (AV.ow M.length len σ e, Blk.l σ rows)
      | .none => .none) else .none) = some (r, b) →
      ∃ v w' ρ', (Instr.buildSlice t len (ps.map fun p => (p.1, ev p.2))).run P w = .ok v w' ∧ After ρ M (M ++ [b]) w w' ρ' ∧ Den ρ' r v ∧ ∀ i ∈ r.ids, i < (M ++ [b]).length := by
    intro σ hσ h
    split at h
    case isFalse => cases h
    rename_i hc
    obtain ⟨hp, hn, hb⟩ := hc
    split at h
    case h_2 => cases h
    rename_i rows hf
    cases h
    have hpos := sg_pos hn
    subst hσ
    obtain ⟨f1, f2, f3⟩ := fillRows_fill (ρ := ρ) hp hpos l _ rows (by simp) (fun j i r hj => (parts j i r hj).imp fun v hv => hv.2) hf
    have hfl := Sg.flat_len _ hp
    have hrl := rep_len (Γ.sg e).flat len
    rw [hfl] at hrl
    rw [List.length_replicate] at f1 f3
    have hz : (List.replicate len (List.replicate (Γ.sg e).n (0 : Int))).flatten = List.replicate (len * (Γ.sg e).n) 0 := by simp [List.flatten_replicate_replicate]
    rw [hz] at f1
    obtain ⟨h1, h2, h3⟩ := run_buildSlice (w := w) (ρ := ρ) (parts := ps.map fun p => (p.1, ev p.2)) H hs hp hn hb hll parts f1
    let lc : Loc := { blk := w.heap.size, size := len * (Γ.sg e).n, room := len * (Γ.sg e).n, σ := Γ.sg e, ty := e }
    have q1 : BRel ρ lc (some (.cells (cellsV (rep len (Γ.sg e).flat) rows.flatten).toArray e (0, 0))) (.c (Γ.sg e) rows.flatten) := by
      refine ⟨_, rfl, ?_, rfl, hp, hpos, h2, Nat.le_refl _, fun j x hx => ?_⟩
      · simp [cellsV_len _ _ (by omega : (rep len (Γ.sg e).flat).length = rows.flatten.length), h2, lc]
      · have hj : j < len * (Γ.sg e).n := by have := (List.getElem?_eq_some_iff.1 hx).1; omega
        have hdiv : j / (Γ.sg e).n < len := by rw [Nat.div_lt_iff_lt_mul hpos]; exact hj
        have hmod := Nat.mod_lt j hpos
        have hsum : j / (Γ.sg e).n * (Γ.sg e).n + j % (Γ.sg e).n = j := by rw [Nat.mul_comm]; exact Nat.div_add_mod j (Γ.sg e).n
        have hr := rep_get (Γ.sg e).flat len (j / (Γ.sg e).n) (j % (Γ.sg e).n) hdiv (by omega)
        rw [hfl, hsum] at hr
        have hk : (Γ.sg e).flat[j % (Γ.sg e).n]? = some (lc.kind j) := by
          unfold Loc.kind
          show _ = some ((Γ.sg e).flat.getD (j % (Γ.sg e).n) .bool)
          rw [List.getD_eq_getElem?_getD, List.getElem?_eq_getElem (by omega)]; rfl
        rw [hk] at hr
        exact ⟨by rw [List.getElem?_toArray]; exact cellsV_get _ _ j x _ hx hr, cellsOk_get _ _ j x _ h3 hx hr⟩
    refine ⟨_, _, up ρ M.length lc, h1, After.alloc hM rfl (brel_cl f2 q1) (fun vs e => by cases e), ?_, fun i hi => by simp [AV.ids] at hi; simp [hi]⟩
    simp only [Den]
    rw [up_new]
    exact ⟨len, rfl, Nat.le_refl _, (by have : len * 1 ≤ len * (Γ.sg e).n := Nat.mul_le_mul_left _ hpos; simp only [maxLen]; omega), rfl, hpos, rfl, rfl, rfl⟩
  split at h
  · rename_i hσ
    split at h
    case h_2 => cases h
    rename_i xs hx
    split at h
    case isFalse => cases h
    rename_i hc
    obtain ⟨ho, hln, hb⟩ := hc
    cases h
    obtain ⟨x1, x2⟩ := allStr_len hx
    have hrun := run_buildOne (w := w) (l := l) (parts := ps.map fun p => (p.1, ev p.2)) H hs (.inl hσ) (by omega) hll ho (fun j i r hj => by
      obtain ⟨v, hv, hdv⟩ := parts j i r hj
      have hjl := (List.getElem?_eq_some_iff.1 hj).1
      obtain ⟨i', hi'⟩ := x2 j (xs[j]'(by omega)) (List.getElem?_eq_getElem (by omega))
      rw [hj] at hi'
      cases hi'
      obtain ⟨rfl, -⟩ := hdv
      exact ⟨_, hv, rfl⟩)
    rw [show l.length = len from by omega] at hrun
    let lc : Loc := { blk := w.heap.size, size := len * 1, room := len * 1, σ := .str, ty := e }
    refine ⟨_, _, up ρ M.length lc, hrun, After.alloc (l := lc) (b := .s xs) hM rfl ?_ (fun vs e => by cases e), ?_, fun i hi => by simp [AV.ids] at hi; simp [hi]⟩
    · refine ⟨_, rfl, by simp [lc, ← hll, hln, hll2], rfl, by simp [lc, x1, hll2, hln], Nat.le_refl _, fun j x hj => ?_⟩
      obtain ⟨i, hi⟩ := x2 j x hj
      obtain ⟨v, hv, hdv⟩ := parts j i _ hi
      obtain ⟨rfl, hsz⟩ := hdv
      refine ⟨?_, hsz⟩
      rw [List.getElem?_toArray, List.getElem?_map, hv]; rfl
    · simp only [Den]
      rw [up_new]
      exact ⟨len, rfl, Nat.le_refl _, by simp only [maxLen]; omega, rfl, Nat.one_pos, rfl, rfl, rfl⟩
  · rename_i hσ
    split at h
    case h_2 => cases h
    rename_i e2 hs2
    rw [fSg_eq] at h
    split at h
    case h_2 => cases h
    rename_i xs hx
    split at h
    case isFalse => cases h
    rename_i hc
    obtain ⟨ho, hln, hb⟩ := hc
    cases h
    obtain ⟨x1, x2⟩ := allFs_len hx
    have hrun := run_buildOne (w := w) (l := l) (parts := ps.map fun p => (p.1, ev p.2)) H hs (.inr hσ) (by omega) hll ho (fun j i r hj => by
      obtain ⟨v, hv, hdv⟩ := parts j i r hj
      have hjl := (List.getElem?_eq_some_iff.1 hj).1
      obtain ⟨i', hi'⟩ := x2 j (xs[j]'(by omega)) (List.getElem?_eq_getElem (by omega))
      rw [hj] at hi'
      cases hi'
      obtain ⟨-, -, -, a, cap, rfl, -⟩ := hdv
      exact ⟨_, hv, rfl⟩)
    rw [show l.length = len from by omega] at hrun
    let lc : Loc := { blk := w.heap.size, size := len * 1, room := len * 1, σ := .ref, ty := e }
    refine ⟨_, _, up ρ M.length lc, hrun, After.alloc (l := lc) (b := .rf (Γ.sg e2) xs) hM rfl ?_ (fun vs e => by cases e), ?_, fun i hi => by simp [AV.ids] at hi; simp [hi]⟩
    · refine ⟨_, rfl, by simp [lc, ← hll, hln, hll2], rfl, by simp [lc, x1, hll2, hln], Nat.le_refl _, fun j x hj => ?_⟩
      obtain ⟨i, hi⟩ := x2 j x hj
      obtain ⟨v, hv, hdv⟩ := parts j i _ hi
      refine ⟨v, ?_, hdv⟩
      rw [List.getElem?_toArray, List.getElem?_map, hv]; rfl
    · simp only [Den]
      rw [up_new]
      exact ⟨len, rfl, Nat.le_refl _, by simp only [maxLen]; omega, rfl, Nat.one_pos, rfl, rfl, rfl⟩
  · exact pure1 _ rfl h

end Go.Eng
