/- The engine, texts 24. No conditions. -/
import Derived.Test.YtplnfdgokpgbcaaDoorEngF
import Derived.Shelf.GgSortFunc.InsertionK
/- The engine, part 24: a row of one's own is sorted by the library, by the kit's contract. No conditions. -/
namespace Go.Eng
open Go Go.RowKit Go.Sort Go.Proofs
set_option linter.unusedSectionVars false
variable [Glob]
variable {P : Program} {Γ : Tab}

/-- A block is written, and others are made. -/
theorem After.setG {ρ : Rho} {M : List Blk} {w w' : World} (h : MRel ρ M w) {id : Nat} {b b' : Blk} {o' : Obj} (hid : M[id]? = some b) (hlv : b.live = true)
    (hb : BRel ρ (ρ id) (some o') b') (hlv' : b'.live = true) (hcl : ∀ vs, b' = .r vs → ∀ x ∈ vs, ∀ i ∈ x.ids, i < M.length) (hlt0 : ∀ id b, M[id]? = some b → b.live = true → (ρ id).blk < w.heap.size)
    (hw : w'.heap[(ρ id).blk]? = some o') (ho : ∀ k, k < w.heap.size → k ≠ (ρ id).blk → w'.heap[k]? = w.heap[k]?) (hs : w.heap.size ≤ w'.heap.size)
    (e1 : w'.os = w.os) (e2 : w'.tape = w.tape) (e3 : w'.output = w.output) : After ρ M (M.set id b') w w' ρ := by
  have hlt : id < M.length := (List.getElem?_eq_some_iff.1 hid).1
  have hlive : ∀ i, liveAt (M.set id b') i → liveAt M i := by
    rintro i ⟨c, hc, hv⟩
    rw [List.getElem?_set] at hc
    split at hc
    · rename_i e; subst e; exact ⟨b, hid, hlv⟩
    · exact ⟨c, hc, hv⟩
  refine ⟨fun _ _ => rfl, ⟨?_, fun i j hi hj he => h.inj i j (hlive i hi) (hlive j hj) he, ?_, ?_⟩, by simp, fun i _ hl => hlive i hl, fun i hi hl => by have := (hlive i hl).lt; omega, ?_, e1, e2, e3, by omega, ρ.le_refl, fun _ _ h => .inl h⟩
  · intro i c hc
    rw [List.getElem?_set] at hc
    split at hc
    · rename_i e
      subst e
      cases hc
      rw [hw]
      exact hb
    · rename_i hne
      have hold := h.blk i c hc
      by_cases hdead : c.live = true
      · rw [ho _ (hlt0 i c hc hdead) (fun e => hne (h.inj i id ⟨c, hc, hdead⟩ ⟨b, hid, hlv⟩ e).symm)]
        exact hold
      · cases c <;> first | trivial | (exact absurd rfl hdead)
  · intro i vs hc x hx j hj
    rw [List.length_set]
    rw [List.getElem?_set] at hc
    split at hc
    · cases hc
      exact hcl vs rfl x hx j hj
    · exact h.cl i vs hc x hx j hj
  · intro k o hk
    obtain ⟨g1, g2⟩ := h.env k o hk
    exact ⟨by rw [ho k (by have := (Array.getElem?_eq_some_iff.1 g1).1; omega) (fun e => g2 id ⟨b, hid, hlv⟩ e.symm)]; exact g1, fun i hi => g2 i (hlive i hi)⟩
  · intro k hk1 hk
    exact ho k hk1 (fun e => hk id ⟨b, hid, hlv⟩ e.symm)

/-- A row's cells. -/
abbrev RowT (σ : Sg) : Type := { r : List Int // r.length = σ.n ∧ cellsOk σ.flat r }
theorem zerosR_ok (ks : List CK) (n : Nat) : cellsOk ks (List.replicate n 0) := zeros_ok ks n
instance (σ : Sg) : Inhabited (RowT σ) := ⟨⟨List.replicate σ.n 0, List.length_replicate, zerosR_ok _ _⟩⟩
def encR (σ : Sg) (r : RowT σ) : List Value := cellsV σ.flat r.1
theorem encR_len {σ : Sg} (hp : σ.pure = true) (r : RowT σ) : (encR σ r).length = σ.n := by
  unfold encR
  rw [cellsV_len _ _ (by rw [Sg.flat_len σ hp]; exact r.2.1.symm)]
  exact r.2.1

/-- A row sorted. -/
def sortL (cf : List Int → List Int → Int) (rows : List (List Int)) : List (List Int) := rows.mergeSort fun x y => !decide (cf y x < 0)
def sortS (σ : Sg) (e : TypeId) (g : FuncId) (cf : List Int → List Int → Int) : Fun
  | [.ow 0 n σ' e', .fn g' []], [.l τ rows] => if σ' = σ ∧ τ = σ ∧ e' = e ∧ g' = g then some (.any, [.l σ (sortL cf rows)], [n = rows.length ∧ n ≤ 1000000000]) else .none
  | _, _ => .none

theorem mem_flat {C : Array Value} {σ : Sg} {rows : List (List Int)} (h : rowsAt C σ 0 rows) (hp : σ.pure = true) : ∀ r ∈ rows, r.length = σ.n ∧ cellsOk σ.flat r := by
  intro r hr
  obtain ⟨i, hi, rfl⟩ := List.mem_iff_getElem.1 hr
  obtain ⟨h1, h2⟩ := h i _ (List.getElem?_eq_getElem hi)
  refine ⟨h1, ?_⟩
  have key : ∀ (ks : List CK) (ys : List Int), (∀ (j : Nat) (y : Int) (k : CK), ys[j]? = some y → ks[j]? = some k → k.ok y) → cellsOk ks ys := by
    intro ks
    induction ks with
    | nil => intro ys _; cases ys <;> trivial
    | cons k ks ih =>
      intro ys hy
      cases ys with
      | nil => trivial
      | cons y ys => exact ⟨hy 0 y k rfl rfl, ih ys fun j y k h h' => hy (j + 1) y k h h'⟩
  refine key _ _ fun j y k hj hk => ?_
  have := (h2 j y hj).2
  rwa [List.getD_eq_getElem?_getD, hk] at this

theorem merge_val {α β : Type} (f : α → β) (le : β → β → Bool) (l : List α) : (l.mergeSort fun x y => le (f x) (f y)).map f = (l.map f).mergeSort le := by
  rw [List.map_mergeSort]
  intro a _ b _
  rfl

theorem flatK_get (σ : Sg) (hp : σ.pure = true) (d : Array (RowT σ)) (i j : Nat) (hi : i < d.size) (hj : j < σ.n) :
    (flatK (encR σ) σ.n d)[i * σ.n + j]! = (encR σ d[i]!)[j]! := by
  have h0 : 0 < σ.n := by omega
  have hlt : i * σ.n + j < d.size * σ.n := by
    have : i * σ.n + σ.n ≤ d.size * σ.n := by rw [← Nat.succ_mul]; exact Nat.mul_le_mul_right _ hi
    omega
  have e1 : (i * σ.n + j) / σ.n = i := by rw [Nat.mul_comm, Nat.mul_add_div h0, Nat.div_eq_of_lt hj, Nat.add_zero]
  have e2 : (i * σ.n + j) % σ.n = j := by rw [Nat.mul_comm, Nat.mul_add_mod, Nat.mod_eq_of_lt hj]
  rw [get_flatK _ _ _ _ hlt, e1, e2]

theorem sort_sound {f g : FuncId} {σ : Sg} {e : TypeId} {cf : List Int → List Int → Int} (hp : σ.pure = true) (hn : 0 < σ.n)
    (hC : ∀ (blk cap : Nat) (d : Array (RowT σ)) (w : World), HoldsK (encR σ) σ.n w blk 0 d → blk < w.heap.size → d.size < 4611686018427387904 →
      Calls P f #[.slice (some ⟨blk, 0, none⟩) d.size cap, .func (.func g) #[] #[]] w fun e w' => e = .returned (.tuple #[]) ∧ ∃ n os, w' = sortWorldK (encR σ) σ.n w blk 0 n (d.toList.mergeSort fun x y => !decide (cf y.1 x.1 < 0)).toArray os) :
    Sound P f (sortS σ e g cf) := by
  intro args M r M' vs h hvs
  unfold sortS at h
  split at h
  case h_2 => cases h
  rename_i n σ' e' g' τ rows
  split at h
  case isFalse => cases h
  rename_i hc
  obtain ⟨rfl, rfl, rfl, rfl⟩ := hc
  cases h
  obtain ⟨⟨rfl, hbd⟩, -⟩ := hvs
  intro ρ vals w hD hM hid
  match vals, hD with
  | [v, u], ⟨hv, hu, _⟩ =>
  obtain ⟨cap, rfl, q1, q2, q3, q4, q5, q6, q7⟩ := hv
  obtain ⟨rfl, -⟩ := hu
  obtain ⟨C, c1, c2, c3, c4, c5, c6, c7, c8⟩ := hM.blk 0 _ rfl
  have hok := mem_flat c8 hp
  have hfl := Sg.flat_len _ hp
  let d : Array (RowT τ) := (rows.attach.map fun r => (⟨r.1, hok r.1 r.2⟩ : RowT τ)).toArray
  have hds : d.size = rows.length := by simp [d]
  have hdl : d.toList.map (·.1) = rows := by simp [d, List.map_attach_eq_pmap]
  have hdg : ∀ i, i < rows.length → (d[i]!).1 = rows.getD i [] := by
    intro i hi
    rw [getElem!_pos d i (by omega)]
    have : (d.toList.map (·.1))[i]? = rows[i]? := by rw [hdl]
    rw [List.getElem?_map, Array.getElem?_toList, Array.getElem?_eq_getElem (by omega), Option.map_some] at this
    rw [List.getD_eq_getElem?_getD, ← this]; rfl
  have hblk : (ρ 0).blk < w.heap.size := (Array.getElem?_eq_some_iff.1 c1).1
  have enc_get : ∀ (x : RowT τ) (j : Nat), j < τ.n → (encR τ x)[j]! = (τ.flat.getD j .bool).val (x.1.getD j 0) := by
    intro x j hj
    have hl := encR_len hp x
    rw [getElem!_pos _ j (by omega)]
    have e1 : x.1[j]? = some (x.1.getD j 0) := by rw [List.getD_eq_getElem?_getD, List.getElem?_eq_getElem (by rw [x.2.1]; exact hj)]; rfl
    have e2 : τ.flat[j]? = some (τ.flat.getD j .bool) := by rw [List.getD_eq_getElem?_getD, List.getElem?_eq_getElem (by omega)]; rfl
    have := cellsV_get _ _ _ _ _ e1 e2
    exact (List.getElem?_eq_some_iff.1 this).2
  have hH : HoldsK (encR τ) τ.n w (ρ 0).blk 0 d := by
    intro t ht
    rw [size_flatK, hds] at ht
    obtain ⟨i, j, hi, hj, rfl⟩ : ∃ i j, i < rows.length ∧ j < τ.n ∧ t = i * τ.n + j := ⟨t / τ.n, t % τ.n, by rw [Nat.div_lt_iff_lt_mul hn]; exact ht, Nat.mod_lt _ hn, by rw [Nat.mul_comm]; exact (Nat.div_add_mod _ _).symm⟩
    rw [flatK_get τ hp d i j (by omega) hj, enc_get _ _ hj, hdg i hi]
    obtain ⟨r1, r2⟩ := c8 i _ (getD_some hi [])
    obtain ⟨s1, s2⟩ := r2 j ((rows.getD i []).getD j 0) (by rw [List.getD_eq_getElem?_getD (l := rows.getD i []), List.getElem?_eq_getElem (by omega)]; rfl)
    rw [Nat.zero_add] at s1
    rw [Nat.zero_add]
    exact ⟨by rw [cell_of_row w _ _ C _ _ c1]; exact s1, by simp [World.frozen?, c1]⟩
  have hcall := hC (ρ 0).blk cap d w hH hblk (by omega)
  rw [hds] at hcall
  refine hcall.mono ?_
  rintro ex w' ⟨rfl, m, os, rfl⟩
  refine ⟨_, ρ, rfl, trivial, ?_, fun i hi => (by simp [AV.ids] at hi)⟩
  let d' : Array (RowT τ) := (d.toList.mergeSort fun x y => !decide (cf y.1 x.1 < 0)).toArray
  have hd' : d'.toList.map (·.1) = sortL cf rows := by
    show (d.toList.mergeSort fun x y => !decide (cf y.1 x.1 < 0)).map (·.1) = _
    rw [merge_val (f := fun x : RowT τ => x.1) (le := fun x y => !decide (cf y x < 0)), hdl]; rfl
  have hd's : d'.size = rows.length := by
    have h1 := congrArg List.length hd'
    have h2 : (sortL cf rows).length = rows.length := List.length_mergeSort _
    rw [List.length_map, h2, Array.length_toList] at h1
    exact h1
  have hdg' : ∀ i, i < rows.length → (d'[i]!).1 = (sortL cf rows).getD i [] := by
    intro i hi
    rw [getElem!_pos d' i (by omega)]
    have : (d'.toList.map (·.1))[i]? = (sortL cf rows)[i]? := by rw [hd']
    rw [List.getElem?_map, Array.getElem?_toList, Array.getElem?_eq_getElem (by omega), Option.map_some] at this
    rw [List.getD_eq_getElem?_getD, ← this]; rfl
  have hslen : (sortL cf rows).length = rows.length := List.length_mergeSort _
  have hheap : ∀ k, k < w.heap.size → (sortWorldK (encR τ) τ.n w (ρ 0).blk 0 m d' os).heap[k]? = (w.heap.modify (ρ 0).blk (onCells (putCells id 0 (flatK (encR τ) τ.n d'))))[k]? := by
    intro k hk
    show ((w.heap.modify (ρ 0).blk _) ++ os)[k]? = _
    rw [Array.getElem?_append_left (by simpa using hk)]
  refine After.setG (id := 0) (o' := .cells (putCells id 0 (flatK (encR τ) τ.n d') C) (ρ 0).ty (0, 0)) (b := .l τ rows) (b' := .l τ (sortL cf rows)) hM rfl rfl ?_ rfl (fun vs e => by cases e) ?_ ?_ ?_ ?_ rfl rfl rfl
  · refine ⟨_, rfl, by simp [putCells, c2], c3, c4, c5, by rw [hslen]; exact c6, c7, fun i row hi => ?_⟩
    have hil : i < rows.length := by rw [← hslen]; exact (List.getElem?_eq_some_iff.1 hi).1
    have hrow : row = (d'[i]!).1 := by rw [hdg' i hil, List.getD_eq_getElem?_getD, hi]; rfl
    subst hrow
    refine ⟨(d'[i]!).2.1, fun j y hj => ?_⟩
    have hjl : j < τ.n := by rw [← (d'[i]!).2.1]; exact (List.getElem?_eq_some_iff.1 hj).1
    have hlt : i * τ.n + j < rows.length * τ.n := by
      have : i * τ.n + τ.n ≤ rows.length * τ.n := by rw [← Nat.succ_mul]; exact Nat.mul_le_mul_right _ hil
      omega
    have e2 : τ.flat[j]? = some (τ.flat.getD j .bool) := by rw [List.getD_eq_getElem?_getD, List.getElem?_eq_getElem (by omega)]; rfl
    refine ⟨?_, cellsOk_get _ _ _ _ _ (d'[i]!).2.2 hj e2⟩
    rw [Nat.zero_add]
    unfold putCells
    rw [Array.getElem?_mapIdx, Array.getElem?_eq_getElem (by rw [c2]; omega), Option.map_some, if_pos ⟨Nat.zero_le _, by rw [size_flatK, hd's]; omega⟩, Nat.sub_zero, flatK_get τ hp d' i j (by omega) hjl, enc_get _ _ hjl, List.getD_eq_getElem?_getD (l := (d'[i]!).1), hj]
    rfl
  · intro i b hb hl
    cases i with
    | zero => exact hblk
    | succ i => simp at hb
  · rw [hheap _ hblk, Array.getElem?_modify, if_pos rfl, c1]; rfl
  · intro k hk hne
    rw [hheap _ hk, Array.getElem?_modify, if_neg (fun e => hne e.symm)]
  · show w.heap.size ≤ ((w.heap.modify (ρ 0).blk _) ++ os).size
    simp

/-- A call that sees nothing of ours: memory below stays. -/
theorem After.quiet {ρ : Rho} {w w' : World} (hM : MRel ρ [] w) (h : Below w.heap.size w w') : After ρ [] [] w w' ρ where
  ext := fun _ _ => rfl
  rel := ⟨fun _ _ h => (by simp at h), fun _ _ h => by have := h.lt; simp at this, fun _ _ h => (by simp at h), fun k o hk => ⟨by
    have g := (hM.env k o hk).1
    rw [h.block k (Array.getElem?_eq_some_iff.1 g).1]; exact g, fun i hi => by have := hi.lt; simp at this⟩⟩
  len := Nat.le_refl _
  dead := fun _ h => by simp at h
  fresh := fun _ _ h => by have := h.lt; simp at this
  frame := fun b hb _ => h.block b hb
  os := h.os
  tape := h.tape
  output := h.output
  size := h.size
  fmono := ρ.le_refl
  fnew := fun _ _ h => .inl h
/-- A call that writes nowhere below: what is ours stays. -/
theorem After.quietM {ρ : Rho} {M : List Blk} {w w' : World} (hM : MRel ρ M w) (h : Below w.heap.size w w') : After ρ M M w w' ρ where
  ext := fun _ _ => rfl
  rel := ⟨fun id b hb => by
      by_cases hl : b.live = true
      · rw [h.block _ (hM.blk_lt ⟨b, hb, hl⟩)]; exact hM.blk id b hb
      · cases b <;> first | trivial | (exact absurd rfl hl), hM.inj, hM.cl, fun k o hk => ⟨by
      have g := (hM.env k o hk).1
      rw [h.block k (Array.getElem?_eq_some_iff.1 g).1]; exact g, (hM.env k o hk).2⟩⟩
  len := Nat.le_refl _
  dead := fun _ _ h => h
  fresh := fun id hid hl => by have := hl.lt; omega
  frame := fun b hb _ => h.block b hb
  os := h.os
  tape := h.tape
  output := h.output
  size := h.size
  fmono := ρ.le_refl
  fnew := fun _ _ h => .inl h
end Go.Eng
