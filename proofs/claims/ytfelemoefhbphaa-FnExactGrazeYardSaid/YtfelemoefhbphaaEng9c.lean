/- The engine, part 9c: append, and rows of a length that is told. No conditions. -/
import Derived.Test.YtfelemoefhbphaaEng9b
namespace Go.Eng
open Go Go.RowKit
variable {P : Program} {Γ : Tab}

/-- What a row of elements holds. -/
inductive Cn where
  | l (σ : Sg) (rows : List (List Int))
  | s (l : List ByteArray)
  | f (τ : Sg) (rowss : List (List (List Int)))

def Cn.blk : Cn → Blk
  | .l σ rows => .l σ rows
  | .s q => .s q
  | .f τ q => .rf τ q
def Cn.len : Cn → Nat
  | .l _ rows => rows.length
  | .s q => q.length
  | .f _ q => q.length
def Cn.sg : Cn → Sg
  | .l σ _ => σ
  | .s _ => .str
  | .f _ _ => .ref
def Cn.cat : Cn → Cn → Option Cn
  | .l σ xs, .l σ' ys => if σ' = σ then some (.l σ (xs ++ ys)) else .none
  | .s xs, .s ys => some (.s (xs ++ ys))
  | .f τ xs, .f τ' ys => if τ' = τ then some (.f τ (xs ++ ys)) else .none
  | _, _ => .none
def Cn.ok : Cn → Prop
  | .l σ _ => σ.pure = true
  | _ => True
/-- It lies there. -/
def Cn.at (F : Nat → Option Obj) (C : Array Value) (o : Nat) : Cn → Prop
  | .l σ rows => rowsAt C σ o rows
  | .s q => ∀ (j : Nat) (x : ByteArray), q[j]? = some x → C[o + j]? = some (Value.string x) ∧ x.size ≤ maxLen
  | .f τ q => ∀ (j : Nat) rows, q[j]? = some rows → ∃ y : Value, C[o + j]? = some y ∧ FS F τ rows y

theorem cn_brel {ρ : Rho} {l : Loc} {h : Option Obj} (c : Cn) : BRel ρ l h c.blk ↔ ∃ C : Array Value, h = some (.cells C l.ty (0, 0)) ∧ C.size = l.room ∧ l.σ = c.sg ∧ c.ok ∧ 0 < c.sg.n ∧ c.len * c.sg.n = l.size ∧ l.size ≤ l.room ∧ c.at ρ.F C 0 := by
  cases c with
  | l σ rows => exact Iff.rfl
  | s xs =>
    constructor
    · rintro ⟨C, h1, h2, h3, h4, h5, h6⟩
      exact ⟨C, h1, h2, h3, trivial, Nat.one_pos, by simpa [Cn.len, Cn.sg, Sg.n] using h4, h5, fun j x hj => by rw [Nat.zero_add]; exact h6 j x hj⟩
    · rintro ⟨C, h1, h2, h3, -, -, h4, h5, h6⟩
      exact ⟨C, h1, h2, h3, by simpa [Cn.len, Cn.sg, Sg.n] using h4, h5, fun j x hj => by have := h6 j x hj; rwa [Nat.zero_add] at this⟩
  | f τ xs =>
    constructor
    · rintro ⟨C, h1, h2, h3, h4, h5, h6⟩
      exact ⟨C, h1, h2, h3, trivial, Nat.one_pos, by simpa [Cn.len, Cn.sg, Sg.n] using h4, h5, fun j x hj => by rw [Nat.zero_add]; exact h6 j x hj⟩
    · rintro ⟨C, h1, h2, h3, -, -, h4, h5, h6⟩
      exact ⟨C, h1, h2, h3, by simpa [Cn.len, Cn.sg, Sg.n] using h4, h5, fun j x hj => by have := h6 j x hj; rwa [Nat.zero_add] at this⟩

theorem cn_live (c : Cn) : c.blk.live = true := by cases c <;> rfl

theorem cn_cells {F : Nat → Option Obj} {C : Array Value} {o : Nat} {c : Cn} (hn : 0 < c.sg.n) (h : c.at F C o) : ∀ j, j < c.len * c.sg.n → ∃ u, C[o + j]? = some u ∧ u.oneCell' = true := by
  cases c with
  | l σ rows =>
    intro j hj
    change j < rows.length * σ.n at hj
    change 0 < σ.n at hn
    have hdiv : j / σ.n < rows.length := by rw [Nat.div_lt_iff_lt_mul hn]; exact hj
    have hmod := Nat.mod_lt j hn
    have hsum : j / σ.n * σ.n + j % σ.n = j := by rw [Nat.mul_comm]; exact Nat.div_add_mod j σ.n
    obtain ⟨hl, hr⟩ := h (j / σ.n) _ (getD_some hdiv [])
    obtain ⟨h1, -⟩ := hr (j % σ.n) _ (getD_some (by omega) 0)
    rw [Nat.add_assoc, hsum] at h1
    exact ⟨_, h1, kind_val_one _ _⟩
  | s xs =>
    intro j hj
    have hj' : j < xs.length := by simpa [Cn.len, Cn.sg, Sg.n] using hj
    exact ⟨_, (h j _ (getD_some hj' ByteArray.empty)).1, rfl⟩
  | f τ xs =>
    intro j hj
    have hj' : j < xs.length := by simpa [Cn.len, Cn.sg, Sg.n] using hj
    obtain ⟨y, h1, -, -, -, a, cap, rfl, -⟩ := h j _ (getD_some hj' [])
    exact ⟨_, h1, rfl⟩

theorem cn_move {F : Nat → Option Obj} {C C' : Array Value} {o o' : Nat} {c : Cn} (hn : 0 < c.sg.n) (h : c.at F C o) (he : ∀ j, j < c.len * c.sg.n → C'[o' + j]? = C[o + j]?) : c.at F C' o' := by
  cases c with
  | l σ rows =>
    intro i row hi
    change 0 < σ.n at hn
    obtain ⟨hl, hr⟩ := h i row hi
    have hil := (List.getElem?_eq_some_iff.1 hi).1
    refine ⟨hl, fun j y hj => ?_⟩
    have hjl := (List.getElem?_eq_some_iff.1 hj).1
    obtain ⟨h1, h2⟩ := hr j y hj
    have hlt : i * σ.n + j < rows.length * σ.n := by
      have : (i + 1) * σ.n ≤ rows.length * σ.n := Nat.mul_le_mul_right _ hil
      rw [Nat.succ_mul] at this; omega
    have := he (i * σ.n + j) hlt
    rw [← Nat.add_assoc, ← Nat.add_assoc] at this
    exact ⟨by rw [this]; exact h1, h2⟩
  | s xs =>
    intro j x hj
    have hjl := (List.getElem?_eq_some_iff.1 hj).1
    obtain ⟨h1, h2⟩ := h j x hj
    exact ⟨by rw [he j (by simpa [Cn.len, Cn.sg, Sg.n] using hjl)]; exact h1, h2⟩
  | f τ xs =>
    intro j x hj
    have hjl := (List.getElem?_eq_some_iff.1 hj).1
    obtain ⟨y, h1, h2⟩ := h j x hj
    exact ⟨y, by rw [he j (by simpa [Cn.len, Cn.sg, Sg.n] using hjl)]; exact h1, h2⟩

theorem cn_cat_at {F : Nat → Option Obj} {C : Array Value} {c1 c2 c : Cn} (hc : Cn.cat c1 c2 = some c) (h1 : c1.at F C 0) (h2 : c2.at F C (c1.len * c1.sg.n)) : c.at F C 0 ∧ c.len = c1.len + c2.len ∧ c.sg = c1.sg ∧ c2.sg = c1.sg ∧ (c1.ok → c.ok) := by
  unfold Cn.cat at hc
  split at hc
  · split at hc
    · rename_i σ xs σ' ys e
      subst e
      cases hc
      refine ⟨fun i row hi => ?_, by simp [Cn.len], rfl, rfl, id⟩
      rw [Nat.zero_add]
      rw [List.getElem?_append] at hi
      split at hi
      · have := h1 i row hi; rwa [Nat.zero_add] at this
      · rename_i hlt
        have := h2 _ row hi
        change rowAt C σ' (xs.length * σ'.n + (i - xs.length) * σ'.n) row at this
        rwa [← Nat.add_mul, show xs.length + (i - xs.length) = i from by omega] at this
    · cases hc
  · cases hc
    rename_i xs ys
    refine ⟨fun i row hi => ?_, by simp [Cn.len], rfl, rfl, id⟩
    rw [Nat.zero_add]
    rw [List.getElem?_append] at hi
    split at hi
    · have := h1 i row hi; rwa [Nat.zero_add] at this
    · rename_i hlt
      have := h2 _ row hi
      change C[xs.length * 1 + (i - xs.length)]? = _ ∧ _ at this
      rwa [Nat.mul_one, show xs.length + (i - xs.length) = i from by omega] at this
  · split at hc
    · rename_i σ xs σ' ys e
      subst e
      cases hc
      refine ⟨fun i row hi => ?_, by simp [Cn.len], rfl, rfl, id⟩
      rw [Nat.zero_add]
      rw [List.getElem?_append] at hi
      split at hi
      · have := h1 i row hi; rwa [Nat.zero_add] at this
      · rename_i hlt
        have := h2 _ row hi
        change ∃ y : Value, C[xs.length * 1 + (i - xs.length)]? = _ ∧ _ at this
        rwa [Nat.mul_one, show xs.length + (i - xs.length) = i from by omega] at this
    · cases hc
  · cases hc

/-- What a slice holds. -/
def srcOf (M : List Blk) : AV → Option Cn
  | .ow id _ _ _ => match M[id]? with
    | some (.l σ rows) => some (.l σ rows)
    | some (.s l) => some (.s l)
    | some (.rf τ l) => some (.f τ l)
    | _ => .none
  | .fs σ rows => some (.l σ rows)
  | .fstr l => some (.s l)
  | .fz τ l => some (.f τ l)
  | _ => .none

theorem own_src {ρ : Rho} {M : List Blk} {w : World} (hM : MRel ρ M w) {id n : Nat} {σ : Sg} {e : TypeId} {c : Cn} (h : srcOf M (.ow id n σ e) = some c) : M[id]? = some c.blk := by
  simp only [srcOf] at h
  split at h <;> first | (rename_i hm; cases h; exact hm) | cases h

theorem src_sound {ρ : Rho} {M : List Blk} {w : World} (hM : MRel ρ M w) {x : AV} {v : Value} {c : Cn} (h : srcOf M x = some c) (hd : Den ρ x v) :
    ∃ a cap, v = .slice a c.len cap ∧ c.len ≤ maxLen ∧ c.ok ∧ 0 < c.sg.n ∧ (c.len = 0 ∨ ∃ k o C ty fz, a = some ⟨k, o, none⟩ ∧ w.heap[k]? = some (.cells C ty fz) ∧ c.at ρ.F C o) := by
  cases x <;> simp only [srcOf, reduceCtorEq] at h
  case ow id n σ e =>
    have hm := own_src hM (n := n) (σ := σ) (e := e) h
    obtain ⟨C, h1, h2, h3, h4, h5, h6, h7, h8⟩ := (cn_brel c).1 (hM.blk id _ hm)
    obtain ⟨cap, rfl, q1, q2, q3, q4, q5, q6, q7⟩ := hd
    have hs : c.sg = σ := by rw [← h3, q3]
    have hn : c.len = n := Nat.eq_of_mul_eq_mul_right q4 (by rw [← hs, h6, hs, q5])
    rw [hn]
    exact ⟨_, cap, rfl, Nat.le_trans q1 q2, h4, h5, .inr ⟨_, 0, C, _, _, rfl, h1, h8⟩⟩
  case fs σ rows =>
    cases h
    obtain ⟨h1, h2, h3, a, cap, rfl, -, h5⟩ := hd
    refine ⟨a, cap, rfl, h3, h1, h2, h5.imp (fun h => by rw [h]; rfl) ?_⟩
    rintro ⟨k, o, C, ty, fz, rfl, g2, g3⟩
    exact ⟨k, o, C, ty, fz, rfl, (hM.env _ _ g2).1, g3⟩
  case fz σ rows =>
    cases h
    obtain ⟨h3, a, cap, rfl, -, h5⟩ := hd
    refine ⟨a, cap, rfl, h3, trivial, Nat.one_pos, h5.imp (fun h => by rw [h]; rfl) ?_⟩
    rintro ⟨k, o, C, ty, fz, rfl, g2, g3⟩
    exact ⟨k, o, C, ty, fz, rfl, (hM.env _ _ g2).1, g3⟩
  case fstr l =>
    cases h
    obtain ⟨h3, a, cap, rfl, -, h5⟩ := hd
    refine ⟨a, cap, rfl, h3, trivial, Nat.one_pos, h5.imp (fun h => by rw [h]; rfl) ?_⟩
    rintro ⟨k, o, C, ty, fz, rfl, g2, g3⟩
    exact ⟨k, o, C, ty, fz, rfl, (hM.env _ _ g2).1, g3⟩

/-- A row has grown: its old id is dead, the new one is the last. -/
theorem After.grown {ρ : Rho} {M M1 : List Blk} {w w' : World} (hM : MRel ρ M w) {row : Option Nat} {l : Loc} {b : Blk} {o : Obj} (hg : w.grownBy w' row) (hl : l.blk = w.heap.size ∨ some l.blk = row)
    (ho : w'.heap[l.blk]? = some o) (hb : BRel ρ l (some o) b) (hbl : b.live = true) (hcl : ∀ vs, b = .r vs → ∀ x ∈ vs, ∀ i ∈ x.ids, i < M.length)
    (hlen : M1.length = M.length) (hsub : ∀ (i : Nat) (c : Blk), M1[i]? = some c → c = .dead ∨ M[i]? = some c) (hrow : ∀ k, row = some k → ∃ id, liveAt M id ∧ (ρ id).blk = k) (hnr : ∀ i, liveAt M1 i → some (ρ i).blk ≠ row) :
    After ρ M (M1 ++ [b]) w w' (up ρ M.length l) := by
  have l1 : ∀ i, liveAt M1 i → liveAt M i := by
    rintro i ⟨c, hc, hv⟩
    rcases hsub i c hc with rfl | h
    · cases hv
    · exact ⟨c, h, hv⟩
  have lo : ∀ i, liveAt (M1 ++ [b]) i → i < M.length → liveAt M1 i := by
    rintro i ⟨c, hc, hv⟩ hi
    rw [List.getElem?_append_left (by omega)] at hc
    exact ⟨c, hc, hv⟩
  have ll : ∀ i, liveAt (M1 ++ [b]) i → i < M.length ∨ i = M.length := by
    intro i hi
    have := hi.lt
    simp at this; omega
  have hne : ∀ i, liveAt M1 i → (ρ i).blk ≠ l.blk := by
    intro i hi he
    rcases hl with h | h
    · have := hM.blk_lt (l1 i hi); omega
    · exact hnr i hi (by rw [he, h])
  refine ⟨fun id hid => up_old hid, ⟨?_, ?_, ?_, ?_⟩, by simp [hlen], fun id hid hlv => l1 id (lo id hlv hid), ?_, ?_, hg.os, hg.tape, hg.output, hg.size, up_le, fun _ _ h => .inl h⟩
  · intro id c hc
    by_cases hid : id < M.length
    · rw [List.getElem?_append_left (by omega)] at hc
      rw [up_old hid]
      rcases hsub id c hc with rfl | h
      · trivial
      · by_cases hdead : c.live = true
        · rw [hg.block _ (hM.blk_lt ⟨c, h, hdead⟩) (hnr id ⟨c, hc, hdead⟩)]
          exact (hM.blk id c h).congr up_le (by rintro vs rfl x hx i hi; exact up_old (hM.cl id vs h x hx i hi))
        · cases c <;> first | trivial | (exact absurd rfl hdead)
    · have hid' : id = M.length := by have := (List.getElem?_eq_some_iff.1 hc).1; simp at this; omega
      subst hid'
      rw [List.getElem?_append_right (by omega)] at hc
      simp only [hlen, Nat.sub_self, List.getElem?_cons_zero, Option.some.injEq] at hc
      subst hc
      rw [up_new, ho]
      exact hb.congr up_le (fun vs e x hx i hi => up_old (hcl vs e x hx i hi))
  · intro i j hi hj he
    rcases ll i hi with hi' | rfl
    · rcases ll j hj with hj' | rfl
      · rw [up_old hi', up_old hj'] at he
        exact hM.inj i j (l1 i (lo i hi hi')) (l1 j (lo j hj hj')) he
      · rw [up_old hi', up_new] at he
        exact absurd he (hne i (lo i hi hi'))
    · rcases ll j hj with hj' | rfl
      · rw [up_new, up_old hj'] at he
        exact absurd he.symm (hne j (lo j hj hj'))
      · rfl
  · intro id vs hb' x hx i hi
    simp only [List.length_append, List.length_cons, List.length_nil, hlen]
    by_cases hid : id < M.length
    · rw [List.getElem?_append_left (by omega)] at hb'
      rcases hsub id _ hb' with h | h
      · cases h
      · have := hM.cl id vs h x hx i hi; omega
    · have hid' : id = M.length := by have := (List.getElem?_eq_some_iff.1 hb').1; simp at this; omega
      subst hid'
      rw [List.getElem?_append_right (by omega)] at hb'
      simp only [hlen, Nat.sub_self, List.getElem?_cons_zero, Option.some.injEq] at hb'
      have := hcl vs hb' x hx i hi
      omega
  · intro k o' hk
    obtain ⟨e1, e2⟩ := hM.env k o' hk
    have hkl : k < w.heap.size := (Array.getElem?_eq_some_iff.1 e1).1
    have hkr : some k ≠ row := by
      intro e
      obtain ⟨id, h1, h2⟩ := hrow k e.symm
      exact e2 id h1 h2
    refine ⟨by rw [hg.block k hkl hkr]; exact e1, fun i hi he => ?_⟩
    rcases ll i hi with hi' | rfl
    · rw [up_old hi'] at he
      exact e2 i (l1 i (lo i hi hi')) he
    · rw [up_new] at he
      rcases hl with h | h
      · omega
      · rw [he] at h; exact hkr h
  · intro id hid hlv
    rcases ll id hlv with h | rfl
    · omega
    · rw [up_new]
      rcases hl with h | h
      · exact .inl (Nat.le_of_eq h.symm)
      · obtain ⟨i, h1, h2⟩ := hrow _ h.symm
        exact .inr ⟨i, h1.lt, h1, h2.symm⟩
  · intro k hk hn
    refine hg.block k hk (fun e => ?_)
    obtain ⟨i, h1, h2⟩ := hrow k e.symm
    exact hn i h1 h2

/-- append. -/
def appAV (Γ : Tab) (M : List Blk) (ts : Array TypeId) (s x : AV) : Option (AV × List Blk × List Prop) :=
  match ts.toList with
  | [t, t'] => if t' = t then (match Γ.sl t with
    | some e => (match srcOf M x with
      | some c2 => if c2.sg = Γ.sg e then (match s with
        | .ow id n σ e' => if e' = e then (match srcOf M (.ow id n σ e') with
          | some c1 => (match Cn.cat c1 c2 with
            | some c => fSg c2.sg fun σ => some (.ow M.length c.len σ e, M.set id .dead ++ [c.blk], [c.len ≤ 1073741824])
            | .none => .none)
          | .none => .none) else .none
        | .nsl => fSg c2.sg fun σ => some (.ow M.length c2.len σ e, M ++ [c2.blk], [0 < c2.len ∧ c2.len ≤ 1073741824])
        | .es => fSg c2.sg fun σ => some (.ow M.length c2.len σ e, M ++ [c2.blk], [0 < c2.len ∧ c2.len ≤ 1073741824])
        | _ => .none) else .none
      | .none => .none)
    | .none => .none) else .none
  | _ => .none

theorem appAV_sound (H : TabOk P Γ) {ρ : Rho} {M M' : List Blk} {w : World} (hM : MRel ρ M w) {ts : Array TypeId} {s x r : AV} {u v : Value} {vs : List Prop} {ty : TypeId}
    (hs : Den ρ s u) (hx : Den ρ x v) (h : appAV Γ M ts s x = some (r, M', vs)) (hv : allP vs) :
    ∃ z w' ρ', (Builtin.append_ ts ty #[u, v]).run P w = .ok z w' ∧ After ρ M M' w w' ρ' ∧ Den ρ' r z ∧ ∀ i ∈ r.ids, i < M'.length := by
  unfold appAV at h
  split at h
  case h_2 => cases h
  rename_i t t' hts
  split at h
  case isFalse => cases h
  rename_i ett
  subst ett
  have hts' : ts = #[t', t'] := by apply Array.toList_inj.1; exact hts
  subst hts'
  split at h
  case h_2 => cases h
  rename_i e hsl
  split at h
  case h_2 => cases h
  rename_i c2 hc2
  split at h
  case isFalse => cases h
  rename_i hsg
  have hu := H.sl t' e hsl
  obtain ⟨a, cap, rfl, hmx, hok2, hn2, hsrc⟩ := src_sound hM hc2 hx
  have hne : Γ.sg e ≠ .none := by intro e0; rw [hsg, e0] at hn2; simp [Sg.n] at hn2
  obtain ⟨ti, z, hi, hsz, hz, hzo, hby⟩ := H.parts5 rfl hne
  have hzs : z.cells.size = (Γ.sg e).n := by
    by_cases hp : (Γ.sg e).pure = true
    · rw [zero_cells hp hzo]; simp [cellsV_len _ _ (by simp [Sg.flat_len _ hp] : (Γ.sg e).flat.length = (List.replicate (Γ.sg e).n (0:Int)).length)]
    · revert hzo hp
      generalize Γ.sg e = σ
      intro hzo hp
      have h1 : σ.n = 1 := by cases σ <;> first | rfl | (exact absurd rfl hp)
      rw [h1]
      unfold zeroOk at hzo
      split at hzo <;> first | rfl | (simp [hp] at hzo) | cases hzo
  -- the cells that come behind
  have news : ∃ nl : List Value, nl.length = c2.len * (Γ.sg e).n ∧ (∀ q ∈ nl, q.oneCell' = true) ∧ (c2.len = 0 ∨ ∃ k o C ty fz, a = some ⟨k, o, none⟩ ∧ w.heap[k]? = some (.cells C ty fz) ∧ c2.at ρ.F C o ∧ ∀ j, j < c2.len * (Γ.sg e).n → nl[j]? = C[o + j]?) := by
    rcases hsrc with h0 | ⟨k, o, C, ty', fz, rfl, g1, g2⟩
    · exact ⟨[], by rw [h0]; simp, by simp, .inl h0⟩
    · have hcell := cn_cells hn2 g2
      rw [hsg] at hcell
      have hex : ∀ n, n ≤ c2.len * (Γ.sg e).n → ∃ nl : List Value, nl.length = n ∧ (∀ q ∈ nl, q.oneCell' = true) ∧ ∀ j, j < n → nl[j]? = C[o + j]? := by
        intro n
        induction n with
        | zero => intro _; exact ⟨[], rfl, by simp, fun j hj => by omega⟩
        | succ n ih =>
          intro hn
          obtain ⟨nl, q1, q2, q3⟩ := ih (by omega)
          obtain ⟨u, hu1, hu2⟩ := hcell n (by omega)
          refine ⟨nl ++ [u], by simp [q1], fun q hq => ?_, fun j hj => ?_⟩
          · rcases List.mem_append.1 hq with h | h
            · exact q2 q h
            · simp at h; subst h; exact hu2
          · by_cases hjn : j < n
            · rw [List.getElem?_append_left (by omega)]; exact q3 j hjn
            · have : j = n := by omega
              subst this
              rw [List.getElem?_append_right (by omega), q1, Nat.sub_self, hu1]; rfl
      obtain ⟨nl, q1, q2, q3⟩ := hex _ (Nat.le_refl _)
      exact ⟨nl, q1, q2, .inr ⟨k, o, C, ty', fz, rfl, g1, g2, q3⟩⟩
  obtain ⟨nl, nl1, nl2, nl3⟩ := news
  have hnews : c2.len ≠ 0 → ∃ ad, a = some ad ∧ ∀ j q, nl[j]? = some q → w.cell? (ad.add j) = some q := by
    intro h0
    rcases nl3 with h | ⟨k, o, C, ty', fz, rfl, g1, g2, g3⟩
    · exact absurd h h0
    · refine ⟨_, rfl, fun j q hj => ?_⟩
      have hjl := (List.getElem?_eq_some_iff.1 hj).1
      rw [add_addr]
      exact run_load_c g1 (by rw [← g3 j (by omega)]; exact hj)
  -- onto a nil slice, or one without room
  have fresh : ∀ a0, u = .slice a0 0 0 → 0 < c2.len → c2.len ≤ 1073741824 → ∃ z' w', (Builtin.append_ #[t', t'] ty #[u, .slice a c2.len cap]).run P w = .ok z' w' ∧ After ρ M (M ++ [c2.blk]) w w' (up ρ M.length { blk := w.heap.size, size := c2.len * c2.sg.n, room := (grownCap w c2.len 0 e) * c2.sg.n, σ := c2.sg, ty := e }) ∧
      z' = .slice (some ⟨w.heap.size, 0, none⟩) c2.len (grownCap w c2.len 0 e) ∧ c2.len ≤ grownCap w c2.len 0 e ∧ grownCap w c2.len 0 e ≤ maxLen := by
    rintro a0 rfl h0 h30
    obtain ⟨ad, rfl, hcells⟩ := hnews (by omega)
    have hbytes : c2.len * ti.bytes ≤ 1073741824 * 4096 := Nat.mul_le_mul h30 hby
    have hrun : (Builtin.append_ #[t', t'] ty #[.slice a0 0 0, .slice (some ad) c2.len cap]).run P w = .ok (.slice (some ⟨w.heap.size, 0, none⟩) c2.len (grownCap w c2.len 0 e)) (w.drew.alloc (.cells (nl.toArray ++ Builtin.zeroCells z.cells (grownCap w c2.len 0 e - c2.len)) e)) := by
      cases a0 with
      | none => exact run_append_nil w t' ty e ti z hu hi hz ad c2.len cap nl (by rw [nl1, hsz]) hcells h0 (by omega) (by omega)
      | some b0 =>
        have := run_append_grow w t' ty e ti z hu hi hz b0 0 0 [] (by simp) (by simp) ad c2.len cap nl (by rw [nl1, hsz]) hcells (by omega) (by omega) (growslice_fits (by omega) (by rw [Nat.zero_add]; omega))
        simpa using this
    have hge := grownCap_ge w c2.len 0 e
    have hle := grownCap_le_maxLen w c2.len 0 e (by simp only [maxLen]; omega)
    refine ⟨_, _, hrun, ?_, rfl, hge, hle⟩
    have hgb : w.grownBy (w.drew.alloc (.cells (nl.toArray ++ Builtin.zeroCells z.cells (grownCap w c2.len 0 e - c2.len)) e)) none := ⟨rfl, rfl, rfl, by simp, fun k hk _ => heap_alloc_old w.drew _ hk⟩
    refine After.grown hM hgb (.inl rfl) (heap_alloc_new w.drew _) ((cn_brel c2).2 ⟨_, rfl, ?_, rfl, hok2, hn2, rfl, Nat.mul_le_mul_right _ hge, ?_⟩) (cn_live c2) (fun vs e => by cases c2 <;> cases e) rfl (fun i c h => .inr h) (fun k h => by cases h) (fun i _ => by simp)
    · simp only [Array.size_append, List.size_toArray, size_zeroCells, hzs, nl1, ← Nat.add_mul, hsg]
      congr 1; omega
    · rcases nl3 with h | ⟨k, o, C, ty', fz, -, g1, g2, g3⟩
      · omega
      · refine cn_move hn2 g2 fun j hj => ?_
        rw [hsg] at hj
        rw [Nat.zero_add, Array.getElem?_append_left (by simp; omega), List.getElem?_toArray]
        exact g3 j hj
  split at h
  · -- onto a row of one's own
    rename_i id n σ e'
    split at h
    case isFalse => cases h
    rename_i ee
    subst ee
    split at h
    case h_2 => cases h
    rename_i c1 hc1
    split at h
    case h_2 => cases h
    rename_i c hc
    rw [fSg_eq] at h
    cases h
    have hm := own_src hM hc1
    obtain ⟨C1, b1, b2, b3, b4, b5, b6, b7, b8⟩ := (cn_brel c1).1 (hM.blk id _ hm)
    obtain ⟨cap1, rfl, q1, q2, q3, q4, q5, q6, q7⟩ := hs
    have hs1 : c1.sg = σ := by rw [← b3, q3]
    have hn1 : c1.len = n := Nat.eq_of_mul_eq_mul_right q4 (by rw [← hs1, b6, hs1, q5])
    have hcsg : c2.sg = c1.sg ∧ c.len = c1.len + c2.len := by
      have := hc
      unfold Cn.cat at this
      split at this
      · split at this
        · rename_i e0; cases this; exact ⟨e0, by simp [Cn.len]⟩
        · cases this
      · cases this; exact ⟨rfl, by simp [Cn.len]⟩
      · split at this
        · cases this; exact ⟨rfl, by simp [Cn.len]⟩
        · cases this
      · cases this
    have hσe : σ = Γ.sg e' := by rw [← hs1, ← hcsg.1, hsg]
    have h30 : c.len ≤ 1073741824 := hv.1
    rw [hcsg.2] at h30
    have hbytes : (c1.len + c2.len) * ti.bytes ≤ 1073741824 * 4096 := Nat.mul_le_mul h30 hby
    have hown : w.ownsRow 0 e' (Γ.sg e').n (.slice (some ⟨(ρ id).blk, 0, none⟩) n cap1) n (C1.toList.take (n * (Γ.sg e').n)) := by
      refine ⟨?_, .inr ⟨_, cap1, C1, rfl, Nat.zero_le _, by rw [← q7]; exact b1, q1, q2, by rw [b2, q6, hσe], rfl⟩⟩
      rw [List.length_take, Array.length_toList, b2, q6, hσe]
      exact Nat.min_eq_left (Nat.mul_le_mul_right _ q1)
    -- its run
    have hrun : ∃ v' w', (Builtin.append_ #[t', t'] ty #[.slice (some ⟨(ρ id).blk, 0, none⟩) n cap1, .slice a c2.len cap]).run P w = .ok v' w' ∧ w'.ownsRow 0 e' (Γ.sg e').n v' (n + c2.len) (C1.toList.take (n * (Γ.sg e').n) ++ nl) ∧
        w.grownBy w' (some (ρ id).blk) ∧ (v'.ownBlock = some (ρ id).blk ∨ v'.ownBlock = some w.heap.size) := by
      by_cases h0 : c2.len = 0
      · refine ⟨.slice (some ⟨(ρ id).blk, 0, none⟩) n cap1, w, ?_, ?_, ⟨rfl, rfl, rfl, Nat.le_refl _, fun _ _ _ => rfl⟩, .inl rfl⟩
        · have hfc : (Builtin.firstCells ti.size 0 (.slice a 0 cap)).run P w = .ok #[] w := by
            cases a <;> simp [Builtin.firstCells, loadCells, loadCellsFrom]
          have hsc : ∀ ad : Addr, (storeCells ad []).run P w = .ok () w := by intro ad; simp [storeCells]
          rw [h0]
          simp [Builtin.append_, run_underlying hu, sizeOf, typeInfo, hi, Builtin.lenOf, q1, hfc, hsc]
        · have hnl : nl = [] := List.eq_nil_of_length_eq_zero (by rw [nl1, h0, Nat.zero_mul])
          rw [h0, hnl, List.append_nil, Nat.add_zero]
          exact hown
      · obtain ⟨ad, rfl, hcells⟩ := hnews h0
        obtain ⟨v', w', r1, r2, r3, -, r5⟩ := run_append_own_at (P := P) w 0 t' ty e' ti z (Γ.sg e').n ti.bytes hu hi hz hsz rfl hzs (by rw [← hσe]; exact q4) _ n _ hown ad c2.len cap nl nl1 hcells nl2 (by simp only [maxLen]; omega) (by rw [← hn1]; omega) (Nat.zero_le _)
        exact ⟨v', w', r1, r2, r3, r5⟩
    obtain ⟨v', w', r1, r2, r3, r5⟩ := hrun
    obtain ⟨hlen, hrow⟩ := r2
    rcases hrow with ⟨rfl, -⟩ | ⟨g, cap', cur, rfl, -, hg, hcap, hcapm, hcs, htake⟩
    · rcases r5 with h | h <;> simp [Value.ownBlock] at h
    · have hgb : g = w.heap.size ∨ some g = some (ρ id).blk := by
        rcases r5 with h | h
        · right; simpa [Value.ownBlock] using h
        · left; simpa [Value.ownBlock] using h
      let l : Loc := { blk := g, size := c.len * σ.n, room := cap' * σ.n, σ := σ, ty := e' }
      have hcur : ∀ j, j < (n + c2.len) * σ.n → cur[j]? = (C1.toList.take (n * σ.n) ++ nl)[j]? := by
        intro j hj
        rw [← hσe] at htake
        rw [← htake, List.getElem?_take_of_lt hj, Array.getElem?_toList]
      have hl1 : (C1.toList.take (n * σ.n)).length = n * σ.n := by
        have := hown.1; rwa [← hσe] at this
      have hat1 : c1.at ρ.F cur 0 := by
        refine cn_move b5 b8 fun j hj => ?_
        rw [hn1, hs1] at hj
        rw [Nat.zero_add, hcur j (by rw [Nat.add_mul]; omega), List.getElem?_append_left (by omega), List.getElem?_take_of_lt hj, Array.getElem?_toList]
      have hat2 : c2.at ρ.F cur (c1.len * c1.sg.n) := by
        rw [hn1, hs1]
        rcases nl3 with h | ⟨k, o, C, ty', fz, -, g1, g2, g3⟩
        · revert h
          cases c2 with
          | l σ' rows => intro h i row hi; have := (List.getElem?_eq_some_iff.1 hi).1; simp [Cn.len] at h; subst h; simp at this
          | s l' => intro h i row hi; have := (List.getElem?_eq_some_iff.1 hi).1; simp [Cn.len] at h; subst h; simp at this
          | f τ l' => intro h i row hi; have := (List.getElem?_eq_some_iff.1 hi).1; simp [Cn.len] at h; subst h; simp at this
        · refine cn_move hn2 g2 fun j hj => ?_
          rw [hsg] at hj
          rw [hcur _ (by rw [Nat.add_mul, hσe]; omega), List.getElem?_append_right (by omega), hl1, ← g3 j hj]
          congr 1; omega
      obtain ⟨k1, k2, k3, k4, k5⟩ := cn_cat_at hc hat1 hat2
      have hlt : id < M.length := (List.getElem?_eq_some_iff.1 hm).1
      have hlive : liveAt M id := ⟨_, hm, cn_live c1⟩
      have hA : After ρ M (M.set id .dead ++ [c.blk]) w w' (up ρ M.length l) := by
        refine After.grown hM r3 hgb hg ((cn_brel c).2 ⟨cur, rfl, (by show cur.size = cap' * σ.n; rw [hcs, hσe]), (by show σ = _; rw [k3, hs1]), k5 b4, by rw [k3]; exact b5, (by show _ = c.len * σ.n; rw [k3, hs1]), ?_, k1⟩) (cn_live c) (fun vs e => by cases c <;> cases e) (by simp) ?_ (fun k h => by cases h; exact ⟨id, hlive, rfl⟩) ?_
        · show c.len * σ.n ≤ cap' * σ.n
          exact Nat.mul_le_mul_right _ (by rw [k2, hn1]; exact hcap)
        · intro i d hd
          rw [List.getElem?_set] at hd
          split at hd
          · cases hd; exact .inl rfl
          · exact .inr hd
        · rintro i ⟨d, hd, hdl⟩ he
          rw [List.getElem?_set] at hd
          split at hd
          · cases hd; cases hdl
          · rename_i hne'
            exact hne' (hM.inj id i hlive ⟨d, hd, hdl⟩ (by simpa using he.symm))
      refine ⟨_, _, up ρ M.length l, r1, hA, ?_, fun i hi => by simp [AV.ids] at hi; simp [hi]⟩
      simp only [Den]
      rw [up_new]
      refine ⟨cap', by rw [k2, hn1], by rw [k2, hn1]; exact hcap, hcapm, by rw [k4, hs1], by rw [k4, hs1]; exact q4, by rw [k4, hs1], by rw [k4, hs1], rfl⟩
  · rw [fSg_eq] at h
    cases h
    simp only [Den] at hs
    obtain ⟨z', w', h1, h2, rfl, h4, h5⟩ := fresh none hs hv.1.1 hv.1.2
    refine ⟨_, _, _, h1, h2, ?_, fun i hi => by simp [AV.ids] at hi; simp [hi]⟩
    simp only [Den]
    rw [up_new]
    exact ⟨_, rfl, h4, h5, rfl, hn2, rfl, rfl, rfl⟩
  · rw [fSg_eq] at h
    cases h
    obtain ⟨a0, hs⟩ := hs
    obtain ⟨z', w', h1, h2, rfl, h4, h5⟩ := fresh a0 hs hv.1.1 hv.1.2
    refine ⟨_, _, _, h1, h2, ?_, fun i hi => by simp [AV.ids] at hi; simp [hi]⟩
    simp only [Den]
    rw [up_new]
    exact ⟨_, rfl, h4, h5, rfl, hn2, rfl, rfl, rfl⟩
  · cases h

end Go.Eng
