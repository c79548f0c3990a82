/- The engine, part 6b: rows of elements, own and frozen: addresses, loads, stores. No conditions. -/
import Derived.Test.YtfelemoefhbphaaEng6
namespace Go.Eng
open Go Go.RowKit
variable {P : Program} {Γ : Tab}

theorem flatten_getD {σn : Nat} : ∀ {rows : List (List Int)} (h : ∀ r ∈ rows, r.length = σn) (i o : Nat), i < rows.length → o < σn → rows.flatten[i * σn + o]? = (rows.getD i [])[o]?
  | [], _, i, o, hi, _ => by simp at hi
  | r :: rows, h, 0, o, _, ho => by
    have := h r List.mem_cons_self
    simp only [List.flatten_cons, Nat.zero_mul, Nat.zero_add, List.getD_cons_zero]
    rw [List.getElem?_append_left (by omega)]
  | r :: rows, h, i + 1, o, hi, ho => by
    have hr := h r List.mem_cons_self
    simp only [List.flatten_cons, List.getD_cons_succ]
    rw [List.getElem?_append_right (by rw [Nat.succ_mul]; omega), show (i + 1) * σn + o - r.length = i * σn + o from by rw [Nat.succ_mul]; omega]
    exact flatten_getD (fun r hr => h r (List.mem_cons_of_mem _ hr)) i o (by simpa using hi) ho

theorem flatten_len {σn : Nat} : ∀ {rows : List (List Int)} (_ : ∀ r ∈ rows, r.length = σn), rows.flatten.length = rows.length * σn
  | [], _ => by simp
  | r :: rows, h => by
    have := h r List.mem_cons_self
    rw [List.flatten_cons, List.length_append, flatten_len (fun r hr => h r (List.mem_cons_of_mem _ hr)), this, List.length_cons, Nat.succ_mul]; omega

theorem rowsAt_len {C : Array Value} {σ : Sg} {o : Nat} {rows : List (List Int)} (h : rowsAt C σ o rows) : ∀ r ∈ rows, r.length = σ.n := by
  intro r hr
  obtain ⟨i, hi, e⟩ := List.getElem_of_mem hr
  exact (h i r (by rw [List.getElem?_eq_getElem hi, e])).1

theorem kind_mul {l : Loc} {σ : Sg} (hs : l.σ = σ) {i j : Nat} (hj : j < σ.n) : l.kind (i * σ.n + j) = σ.flat.getD j .bool := by
  unfold Loc.kind
  rw [hs, Nat.add_comm, Nat.add_mul_mod_self_right, Nat.mod_eq_of_lt hj]

/-- A block of rows is a block of cells, and the other way. -/
theorem brel_lc {ρ : Rho} {l : Loc} {h : Option Obj} {σ : Sg} {rows : List (List Int)} (hb : BRel ρ l h (.l σ rows)) : BRel ρ l h (.c σ rows.flatten) ∧ (∀ r ∈ rows, r.length = σ.n) := by
  obtain ⟨C, h1, h2, h3, h4, h5, h6, h7, h8⟩ := hb
  have hl := rowsAt_len h8
  refine ⟨⟨C, h1, h2, h3, h4, h5, by rw [flatten_len hl, h6], h7, fun j x hx => ?_⟩, hl⟩
  have hjl : j < rows.length * σ.n := by have := (List.getElem?_eq_some_iff.1 hx).1; rwa [flatten_len hl] at this
  have hdiv : j / σ.n < rows.length := by rw [Nat.div_lt_iff_lt_mul h5]; exact hjl
  have hmod := Nat.mod_lt j h5
  have hsum : j / σ.n * σ.n + j % σ.n = j := by rw [Nat.mul_comm]; exact Nat.div_add_mod j σ.n
  have hg := flatten_getD hl (j / σ.n) (j % σ.n) hdiv hmod
  rw [hsum, hx] at hg
  have hr := h8 (j / σ.n) (rows.getD (j / σ.n) []) (by rw [List.getD_eq_getElem?_getD, List.getElem?_eq_getElem hdiv]; rfl)
  have := hr.2 _ _ hg.symm
  rw [Nat.zero_add, hsum] at this
  have hk := kind_mul h3 (i := j / σ.n) hmod
  rw [hsum] at hk
  rw [hk]
  exact this

theorem brel_cl {ρ : Rho} {l : Loc} {h : Option Obj} {σ : Sg} {rows : List (List Int)} (hl : ∀ r ∈ rows, r.length = σ.n) (hb : BRel ρ l h (.c σ rows.flatten)) : BRel ρ l h (.l σ rows) := by
  obtain ⟨C, h1, h2, h3, h4, h5, h6, h7, h8⟩ := hb
  refine ⟨C, h1, h2, h3, h4, h5, by rw [← h6, flatten_len hl], h7, fun i row hr => ?_⟩
  have hi := (List.getElem?_eq_some_iff.1 hr).1
  have hrl := hl row (List.mem_of_getElem? hr)
  refine ⟨hrl, fun j y hy => ?_⟩
  have hj : j < σ.n := by have := (List.getElem?_eq_some_iff.1 hy).1; omega
  have hg := flatten_getD hl i j hi hj
  rw [List.getD_eq_getElem?_getD, hr] at hg
  have := h8 (i * σ.n + j) y (by rw [hg]; exact hy)
  rw [kind_mul h3 hj] at this
  rw [Nat.zero_add]
  exact this

/-- Another sight of one block. -/
theorem MRel.sight {ρ : Rho} {M : List Blk} {w : World} (hM : MRel ρ M w) {id : Nat} {b b' : Blk} (hid : M[id]? = some b) (hl : b.live = true) (hl' : b'.live = true) (hb : BRel ρ (ρ id) w.heap[(ρ id).blk]? b')
    (hcl : ∀ vs, b' = .r vs → ∀ x ∈ vs, ∀ i ∈ x.ids, i < M.length) : MRel ρ (M.set id b') w := by
  have hlive : ∀ i, liveAt (M.set id b') i → liveAt M i := by
    rintro i ⟨c, hc, hv⟩
    rw [List.getElem?_set] at hc
    split at hc
    · rename_i e; subst e; exact ⟨b, hid, hl⟩
    · exact ⟨c, hc, hv⟩
  refine ⟨fun i c hc => ?_, fun i j hi hj he => hM.inj i j (hlive i hi) (hlive j hj) he, fun i vs hc x hx j hj => ?_, fun k o hk => ⟨(hM.env k o hk).1, fun i hi => (hM.env k o hk).2 i (hlive i hi)⟩⟩
  · rw [List.getElem?_set] at hc
    split at hc
    · rename_i e
      subst e
      split at hc
      · cases hc; exact hb
      · cases hc
    · exact hM.blk i c hc
  · rw [List.length_set]
    rw [List.getElem?_set] at hc
    split at hc
    · split at hc
      · cases hc; exact hcl vs rfl x hx j hj
      · cases hc
    · exact hM.cl i vs hc x hx j hj

/-- What a run does, over another sight of one block at both ends. -/
theorem After.sight {ρ ρ' : Rho} {M : List Blk} {w w' : World} {id : Nat} {b c c' b' : Blk} (hM : MRel ρ M w) (hid : M[id]? = some b) (hl : b.live = true) (hcl : c.live = true) (hcl' : c'.live = true) (hl' : b'.live = true)
    (h : After ρ (M.set id c) ((M.set id c).set id c') w w' ρ') (hb' : BRel ρ' (ρ' id) w'.heap[(ρ' id).blk]? b') (hcl2 : ∀ vs, b' = .r vs → ∀ x ∈ vs, ∀ i ∈ x.ids, i < M.length) : After ρ M (M.set id b') w w' ρ' := by
  have hlt : id < M.length := (List.getElem?_eq_some_iff.1 hid).1
  have l1 : ∀ i, liveAt (M.set id c) i ↔ liveAt M i := by
    intro i
    constructor
    · rintro ⟨d, hd, hv⟩
      rw [List.getElem?_set] at hd
      split at hd
      · rename_i e; subst e; exact ⟨b, hid, hl⟩
      · exact ⟨d, hd, hv⟩
    · rintro ⟨d, hd, hv⟩
      by_cases e : id = i
      · subst e; exact ⟨c, by rw [List.getElem?_set]; simp [hlt], hcl⟩
      · exact ⟨d, by rw [List.getElem?_set, if_neg e]; exact hd, hv⟩
  have l2 : ∀ i, liveAt (M.set id b') i → liveAt ((M.set id c).set id c') i := by
    rintro i ⟨d, hd, hv⟩
    rw [List.set_set]
    by_cases e : id = i
    · subst e; exact ⟨c', by rw [List.getElem?_set]; simp [hlt], hcl'⟩
    · rw [List.getElem?_set, if_neg e] at hd
      exact ⟨d, by rw [List.getElem?_set, if_neg e]; exact hd, hv⟩
  have hg : (M.set id c).set id c' = M.set id c' := List.set_set ..
  have hr := h.rel
  rw [hg] at hr
  have hr' := hr.sight (b := c') (b' := b') (id := id) (by rw [List.getElem?_set]; simp [hlt]) hcl' hl' hb' (by simpa using hcl2)
  rw [List.set_set] at hr'
  refine ⟨fun i hi => h.ext i (by simpa using hi), hr', by simp, fun i hi hv => (l1 i).1 (h.dead i (by simpa using hi) (l2 i hv)), fun i hi hv => ?_, fun k hk hn => h.frame k hk (fun i hi => hn i ((l1 i).1 hi)), h.os, h.tape, h.output, h.size, h.fmono, fun k o hk => ?_⟩
  · have := hv.lt; simp at this; omega
  · exact (h.fnew k o hk).imp_right (Or.imp_right fun ⟨i, q1, q2⟩ => ⟨i, (l1 i).1 q1, q2⟩)

/-- A part of a row. -/
def partOf (σ τ : Sg) (o : Nat) (row : List Int) : Option AV :=
  match τ.inf with
  | .cell k => some (cellAV k (row.getD o 0))
  | .arr _ _ => if o = 0 ∧ τ = σ then some (.ag τ row) else some (.ag τ ((row.drop o).take τ.n))
  | .st _ => if o = 0 ∧ τ = σ then some (.ag τ row) else some (.ag τ ((row.drop o).take τ.n))
  | _ => .none

def lpLoad (M : List Blk) (id i o : Nat) (σ τ : Sg) : Option AV :=
  match M[id]? with
  | some (.l _ rows) => partOf σ τ o (rows.getD i [])
  | _ => .none

/-- A row with a part of it written over. -/
def partSet (σ τ : Sg) (o : Nat) (row : List Int) (r : AV) : Option (List Int) :=
  match τ.inf with
  | .cell k => match toCell k r with
    | some n => some (row.set o n)
    | .none => .none
  | .arr _ _ => match r with
    | .ag τ' ys => if τ' = τ then (if o = 0 ∧ τ = σ then some ys else some (putSeg row o τ.n ys)) else .none
    | _ => .none
  | .st _ => match r with
    | .ag τ' ys => if τ' = τ then (if o = 0 ∧ τ = σ then some ys else some (putSeg row o τ.n ys)) else .none
    | _ => .none
  | _ => .none

def lpStore (M : List Blk) (id i o : Nat) (σ τ : Sg) (r : AV) : Option (List Blk) :=
  match M[id]? with
  | some (.l σ' rows) => match partSet σ τ o (rows.getD i []) r with
    | some row => some (M.set id (.l σ' (rows.set i row)))
    | .none => .none
  | _ => .none

theorem flatten_seg {σn : Nat} {rows : List (List Int)} (h : ∀ r ∈ rows, r.length = σn) (i o n : Nat) (hi : i < rows.length) (ho : o + n ≤ σn) : (rows.flatten.drop (i * σn + o)).take n = ((rows.getD i []).drop o).take n := by
  have hrl : (rows.getD i []).length = σn := by rw [List.getD_eq_getElem?_getD, List.getElem?_eq_getElem hi]; exact h _ (List.getElem_mem hi)
  apply List.ext_getElem?
  intro j
  rw [List.getElem?_take, List.getElem?_take]
  split
  · rename_i hj
    rw [List.getElem?_drop, List.getElem?_drop, Nat.add_assoc]
    exact flatten_getD h i (o + j) hi (by omega)
  · rfl

theorem lpLoad_sound (H : TabOk P Γ) {ρ : Rho} {M : List Blk} {w : World} (hM : MRel ρ M w) {t : TypeId} {id i o : Nat} {σ τ : Sg} {r : AV} {v : Value} (ht : Γ.sg t = τ) (hd : Den ρ (.lp id i o σ τ) v) (h : lpLoad M id i o σ τ = some r) :
    ∃ z a, Den ρ r z ∧ r.ids = [] ∧ v = .pointer (some a) ∧ (loadVar t a).run P w = .ok z w := by
  obtain ⟨rfl, hs, hpσ, hpτ, hτ0, ho, hsz, hk⟩ := hd
  unfold lpLoad at h
  split at h
  case h_2 => cases h
  rename_i σ' rows hid
  have hB := hM.blk id _ hid
  obtain ⟨hBc, hl⟩ := brel_lc hB
  have hσ' : σ' = σ := by obtain ⟨C, -, -, h3, -⟩ := hB; rw [← h3, hs]
  subst hσ'
  have hlt : id < M.length := (List.getElem?_eq_some_iff.1 hid).1
  have hM' := hM.sight (b' := .c σ' rows.flatten) hid rfl rfl hBc (fun vs e => by cases e)
  have hlen : rows.length * σ'.n = (ρ id).size := by obtain ⟨C, -, -, -, -, -, h6, -⟩ := hB; exact h6
  have hi : i < rows.length := by
    rcases Nat.lt_or_ge i rows.length with h | h
    · exact h
    · have : rows.length * σ'.n ≤ i * σ'.n := Nat.mul_le_mul_right _ h
      omega
  have hp : PtrOk (ρ id) (i * σ'.n + o) τ := by
    refine ⟨by omega, ?_⟩
    rw [if_pos hpτ]
    exact ⟨by rw [hs]; exact hpσ, fun j hj => by rw [Nat.add_assoc, kind_mul hs (by omega)]; exact hk j hj⟩
  have hg : (M.set id (.c σ' rows.flatten))[id]? = some (.c σ' rows.flatten) := by rw [List.getElem?_set]; simp [hlt]
  have hne : τ ≠ .none := by rintro rfl; cases hpτ <;> simp [Sg.n] at hτ0
  have hcell : rows.flatten.getD (i * σ'.n + o) 0 = (rows.getD i []).getD o 0 := by
    rw [List.getD_eq_getElem?_getD, List.getD_eq_getElem?_getD (l := rows.getD i []), flatten_getD hl i o hi (by omega)]
  have hseg := flatten_seg hl i o τ.n hi ho
  have hrl : (rows.getD i []).length = σ'.n := by rw [List.getD_eq_getElem?_getD, List.getElem?_eq_getElem hi]; exact hl _ (List.getElem_mem hi)
  have hwhole : o = 0 ∧ τ = σ' → (rows.flatten.drop (i * σ'.n + o)).take τ.n = rows.getD i [] := by
    rintro ⟨rfl, rfl⟩
    rw [hseg, List.drop_zero, ← hrl, List.take_length]
  have fin : ∀ r', loadAV (M.set id (.c σ' rows.flatten)) id (i * σ'.n + o) τ = some r' → ∃ z, Den ρ r' z ∧ (loadVar t ⟨(ρ id).blk, i * σ'.n + o, none⟩).run P w = .ok z w := by
    intro r' hr'
    obtain ⟨z, h1, h2⟩ := load_sound H hM' ht hne hp hr'
    exact ⟨z, h1, h2⟩
  unfold partOf at h
  split at h
  · rename_i k hinf
    cases h
    obtain ⟨z, h1, h2⟩ := fin (cellAV k ((rows.getD i []).getD o 0)) (by unfold loadAV; rw [hg]; simp only [hinf]; rw [hcell])
    exact ⟨z, _, h1, by cases k <;> rfl, rfl, h2⟩
  · rename_i n e hinf
    split at h
    · rename_i hc
      cases h
      obtain ⟨z, h1, h2⟩ := fin (.ag τ (rows.getD i [])) (by unfold loadAV; rw [hg]; simp only [hinf]; rw [hwhole hc])
      exact ⟨z, _, h1, rfl, rfl, h2⟩
    · cases h
      obtain ⟨z, h1, h2⟩ := fin (.ag τ (((rows.getD i []).drop o).take τ.n)) (by unfold loadAV; rw [hg]; simp only [hinf]; rw [hseg])
      exact ⟨z, _, h1, rfl, rfl, h2⟩
  · rename_i fs hinf
    split at h
    · rename_i hc
      cases h
      obtain ⟨z, h1, h2⟩ := fin (.ag τ (rows.getD i [])) (by unfold loadAV; rw [hg]; simp only [hinf]; rw [hwhole hc])
      exact ⟨z, _, h1, rfl, rfl, h2⟩
    · cases h
      obtain ⟨z, h1, h2⟩ := fin (.ag τ (((rows.getD i []).drop o).take τ.n)) (by unfold loadAV; rw [hg]; simp only [hinf]; rw [hseg])
      exact ⟨z, _, h1, rfl, rfl, h2⟩
  · cases h

theorem flatten_set {σn : Nat} {rows : List (List Int)} (h : ∀ r ∈ rows, r.length = σn) {row : List Int} (hrow : row.length = σn) (i o n : Nat) (ys : List Int) (hi : i < rows.length) (ho : o + n ≤ σn) (hn : ys.length = n)
    (e : row = (rows.getD i []).take o ++ ys ++ (rows.getD i []).drop (o + n)) : (rows.set i row).flatten = rows.flatten.take (i * σn + o) ++ ys ++ rows.flatten.drop (i * σn + o + n) := by
  have hrl : (rows.getD i []).length = σn := by rw [List.getD_eq_getElem?_getD, List.getElem?_eq_getElem hi]; exact h _ (List.getElem_mem hi)
  have h' : ∀ r ∈ rows.set i row, r.length = σn := by
    intro r hr
    rcases List.mem_or_eq_of_mem_set hr with h1 | h1
    · exact h r h1
    · rw [h1, hrow]
  have hle : i * σn + σn ≤ rows.length * σn := by rw [← Nat.succ_mul]; exact Nat.mul_le_mul_right _ hi
  have hfl := flatten_len h
  have hfl' := flatten_len h'
  rw [List.length_set] at hfl'
  subst hn
  apply List.ext_getElem?
  intro j
  rw [seg_get _ _ _ _ (by omega)]
  by_cases hj : j < rows.length * σn
  · have hσ : 0 < σn := by
      rcases Nat.eq_zero_or_pos σn with h0 | h0
      · rw [h0] at hj; simp at hj
      · exact h0
    have hdiv : j / σn < rows.length := by rw [Nat.div_lt_iff_lt_mul hσ]; exact hj
    have hmod := Nat.mod_lt j hσ
    have hsum : j / σn * σn + j % σn = j := by rw [Nat.mul_comm]; exact Nat.div_add_mod j σn
    have g1 := flatten_getD h' (j / σn) (j % σn) (by rw [List.length_set]; exact hdiv) hmod
    have g2 := flatten_getD h (j / σn) (j % σn) hdiv hmod
    rw [hsum] at g1 g2
    rw [g1]
    by_cases hij : i = j / σn
    · have hget : (rows.set i row).getD (j / σn) [] = row := by
        rw [List.getD_eq_getElem?_getD, List.getElem?_set, if_pos hij, if_pos hi]; rfl
      rw [hget, e, seg_get _ _ _ _ (by omega)]
      by_cases hc : o ≤ j % σn ∧ j % σn < o + ys.length
      · rw [if_pos hc, if_pos (by rw [← hsum, ← hij]; omega)]
        congr 1
        conv => rhs; rw [← hsum, ← hij]
        omega
      · rw [if_neg hc, if_neg (by rw [← hsum, ← hij]; omega), hij]
        exact g2.symm
    · have hget : (rows.set i row).getD (j / σn) [] = rows.getD (j / σn) [] := by
        rw [List.getD_eq_getElem?_getD, List.getElem?_set, if_neg hij, ← List.getD_eq_getElem?_getD]
      rw [hget, ← g2, if_neg]
      rintro ⟨c1, c2⟩
      apply hij
      have h1 : i ≤ j / σn := by rw [Nat.le_div_iff_mul_le hσ]; omega
      have h2 : j / σn < i + 1 := by rw [Nat.div_lt_iff_lt_mul hσ, Nat.succ_mul]; omega
      omega
  · rw [List.getElem?_eq_none (by omega), if_neg (by omega), List.getElem?_eq_none (by omega)]

theorem lpStore_sound (H : TabOk P Γ) {ρ : Rho} {M M' : List Blk} {w : World} (hM : MRel ρ M w) {t : TypeId} {id i o : Nat} {σ τ : Sg} {r : AV} {u v : Value}
    (ht : Γ.sg t = τ) (hx : Den ρ (.lp id i o σ τ) u) (hd : Den ρ r v) (h : lpStore M id i o σ τ r = some M') :
    ∃ w' a, u = .pointer (some a) ∧ (storeVar t a v).run P w = .ok () w' ∧ After ρ M M' w w' ρ := by
  obtain ⟨rfl, hs, hpσ, hpτ, hτ0, ho, hsz, hk⟩ := hx
  unfold lpStore at h
  split at h
  case h_2 => cases h
  rename_i σ' rows hid
  split at h
  case h_2 => cases h
  rename_i row hrow
  cases h
  have hB := hM.blk id _ hid
  obtain ⟨hBc, hl⟩ := brel_lc hB
  have hσ' : σ' = σ := by obtain ⟨C, -, -, h3, -⟩ := hB; rw [← h3, hs]
  subst hσ'
  have hlt : id < M.length := (List.getElem?_eq_some_iff.1 hid).1
  have hM' := hM.sight (b' := .c σ' rows.flatten) hid rfl rfl hBc (fun vs e => by cases e)
  have hlen : rows.length * σ'.n = (ρ id).size := by obtain ⟨C, -, -, -, -, -, h6, -⟩ := hB; exact h6
  have hi : i < rows.length := by
    rcases Nat.lt_or_ge i rows.length with h | h
    · exact h
    · have : rows.length * σ'.n ≤ i * σ'.n := Nat.mul_le_mul_right _ h
      omega
  have hp : PtrOk (ρ id) (i * σ'.n + o) τ := by
    refine ⟨by omega, ?_⟩
    rw [if_pos hpτ]
    exact ⟨by rw [hs]; exact hpσ, fun j hj => by rw [Nat.add_assoc, kind_mul hs (by omega)]; exact hk j hj⟩
  have hg : (M.set id (.c σ' rows.flatten))[id]? = some (.c σ' rows.flatten) := by rw [List.getElem?_set]; simp [hlt]
  have hne : τ ≠ .none := by rintro rfl; cases hpτ <;> simp [Sg.n] at hτ0
  have hrl : (rows.getD i []).length = σ'.n := by rw [List.getD_eq_getElem?_getD, List.getElem?_eq_getElem hi]; exact hl _ (List.getElem_mem hi)
  -- the store over the cells' sight
  have key : ∀ (ys : List Int), ys.length = τ.n → row = (rows.getD i []).take o ++ ys ++ (rows.getD i []).drop (o + τ.n) →
      storeAV (M.set id (.c σ' rows.flatten)) id (i * σ'.n + o) τ r = some ((M.set id (.c σ' rows.flatten)).set id (.c σ' (rows.flatten.take (i * σ'.n + o) ++ ys ++ rows.flatten.drop (i * σ'.n + o + τ.n)))) → r.ids = [] →
      ∃ w' a, (.pointer (some ⟨(ρ id).blk, i * σ'.n + o, none⟩) : Value) = .pointer (some a) ∧ (storeVar t a v).run P w = .ok () w' ∧ After ρ M (M.set id (.l σ' (rows.set i row))) w w' ρ := by
    intro ys hys he hst hids
    obtain ⟨w', h1, h2⟩ := store_sound H hM' ht hne hp hd (by rw [hids]; simp) hst
    have hrowl : row.length = σ'.n := by rw [he]; simp only [List.length_append, List.length_take, List.length_drop, hrl, hys]; omega
    have hfs := flatten_set hl hrowl i o τ.n ys hi ho hys he
    refine ⟨w', _, rfl, h1, After.sight hM hid rfl rfl rfl rfl h2 ?_ (fun vs e => by cases e)⟩
    have hb2 := h2.rel.blk id _ (by rw [List.set_set, List.getElem?_set]; simp [hlt]; rfl)
    simp only [List.append_assoc] at hfs hb2
    rw [← hfs] at hb2
    refine brel_cl ?_ hb2
    intro r hr
    rcases List.mem_or_eq_of_mem_set hr with h1 | h1
    · exact hl r h1
    · rw [h1, hrowl]
  unfold partSet at hrow
  split at hrow
  · rename_i k hinf
    split at hrow
    · rename_i n hcell
      cases hrow
      obtain ⟨f1, f2, f3⟩ := Sg.cell_flat τ k hinf
      have hids : r.ids = [] := by
        unfold toCell at hcell
        split at hcell <;> first | rfl | cases hcell
      refine key [n] (by rw [f2]; rfl) (by rw [set_seg _ _ _ (by omega), f2]) ?_ hids
      have hfl := flatten_len hl
      unfold storeAV
      rw [hg]
      simp only [hinf, hcell]
      rw [set_seg rows.flatten _ _ (by omega), f2]
    · cases hrow
  · rename_i n e hinf
    split at hrow
    · rename_i τ' ys
      split at hrow
      · rename_i e'
        subst e'
        have hyl : ys.length = τ'.n := hd.2.1
        have hrow2 : row = (rows.getD i []).take o ++ ys ++ (rows.getD i []).drop (o + τ'.n) := by
          split at hrow
          · rename_i hc
            cases hrow
            obtain ⟨rfl, rfl⟩ := hc
            rw [Nat.zero_add, List.take_zero, List.drop_eq_nil_of_le (by omega)]; simp
          · cases hrow; rfl
        refine key ys hyl hrow2 ?_ rfl
        unfold storeAV
        rw [hg]
        simp only [hinf, if_true]
        rfl
      · cases hrow
    · cases hrow
  · rename_i fs hinf
    split at hrow
    · rename_i τ' ys
      split at hrow
      · rename_i e'
        subst e'
        have hyl : ys.length = τ'.n := hd.2.1
        have hrow2 : row = (rows.getD i []).take o ++ ys ++ (rows.getD i []).drop (o + τ'.n) := by
          split at hrow
          · rename_i hc
            cases hrow
            obtain ⟨rfl, rfl⟩ := hc
            rw [Nat.zero_add, List.take_zero, List.drop_eq_nil_of_le (by omega)]; simp
          · cases hrow; rfl
        refine key ys hyl hrow2 ?_ rfl
        unfold storeAV
        rw [hg]
        simp only [hinf, if_true]
        rfl
      · cases hrow
    · cases hrow
  · cases hrow

end Go.Eng
