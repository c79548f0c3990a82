/- The engine, part 13: the text's order of a region whose order is open, told for every order. No conditions. -/
import Derived.Test.YtfelemoefhbphaaEng12
namespace Go.Eng
open Go Go.RowKit
variable {P : Program} {Γ : Tab}

def wrt : List Oper → Nat → Tmp → Option Nat
  | [], _, _ => .none
  | o :: l, k, t => match o.dst with
    | some d => if d = t then some k else wrt l (k + 1) t
    | .none => wrt l (k + 1) t

def dget : List (Nat × Bool) → Nat → Option Bool
  | [], _ => .none
  | (i, b) :: l, j => if i = j then some b else dget l j

def big : Nat := 1000000

def lookD (all : List Oper) (bs : List Nat) (fr0 : List AV) (rs : List AV) (δ : List (Nat × Bool)) (i : Nat) (t : Tmp) : AV :=
  match wrt all 0 t with
  | .none => fr0.getD t .any
  | some j => if Nat.testBit (bs.getD i 0) j = true then (match dget δ j with
      | some b => .d b
      | .none => rs.getD j .any)
    else if Nat.testBit (bs.getD j 0) i = true then fr0.getD t .any else .any

def clip (n : Nat) (x : AV) : AV := if (x.ids.all fun i => decide (i < n)) = true then x else .any

def evE (all : List Oper) (bs : List Nat) (fr0 : List AV) (rs : List AV) (δ : List (Nat × Bool)) (i n : Nat) : Operand → AV
  | .tmp t => clip n (lookD all bs fr0 rs δ i t)
  | x => evA [] x

def decD (rs : List AV) (δ : List (Nat × Bool)) (j : Nat) (π : List Bool) : Option (Bool × List (Nat × Bool) × List Bool × List Prop) :=
  match dget δ j with
  | some b => some (b, δ, π, [])
  | .none => match rs.getD j .any with
    | .d b => some (b, δ, π, [])
    | .b p => match π with
      | true :: π => some (true, (j, true) :: δ, π, [p = true])
      | false :: π => some (false, (j, false) :: δ, π, [p = false])
      | [] => .none
    | _ => .none

/-- Is it wanted? What was passed by yields nothing. -/
def guardD (rs : List AV) (δ : List (Nat × Bool)) (j : Nat) (want : Bool) (π : List Bool) : Option (Bool × List (Nat × Bool) × List Bool × List Prop) :=
  match rs.getD j .any with
  | .un => some (false, δ, π, [])
  | _ => match decD rs δ j π with
    | some (b, δ, π, v) => some (b == want, δ, π, v)
    | .none => .none

def fBig {α : Type} (n : Nat) (K : Nat → α) : α :=
  match n with
  | 0 => K 0
  | n + 1 => K (n + 1)
theorem fBig_eq {α : Type} (n : Nat) (K : Nat → α) : fBig n K = K n := by cases n <;> rfl
def tbit (n j : Nat) : Bool := fBig j fun j => Nat.testBit n j
theorem tbit_eq (n j : Nat) : tbit n j = Nat.testBit n j := fBig_eq ..

def idOk (n0 : Nat) (births : List Nat) (bk k : Nat) (id : Nat) : Bool := decide (id < n0) || (decide (id - n0 < births.length) && fBig (births.getD (id - n0) big) fun b => (Nat.testBit bk b || b == k))

/-- A list is written out. -/
def fS {α β : Type} : List α → (List α → β) → β
  | [], K => K []
  | x :: l, K => fS l fun l => K (x :: l)
theorem fS_eq {α β : Type} (l : List α) (K : List α → β) : fS l K = K l := by
  induction l generalizing K with
  | nil => rfl
  | cons x l ih => simp only [fS, ih]

def evD (Γ : Tab) (wr : Bool) (tb : FuncId → Option Fun) (all : List Oper) (bs : List Nat) (fr0 : List AV) (n0 : Nat) :
    List Oper → Nat → List AV → List Blk → List Nat → List (Nat × Bool) → List Bool → Option (List AV × List Blk × List Nat × List (Nat × Bool) × List Bool × List Prop)
  | [], _, rs, M, births, δ, π => some (rs, M, births, δ, π, [])
  | o :: rest, k, rs, M, births, δ, π =>
    match (match o.guard with
      | .none => some (true, δ, π, [])
      | some (j, want) => if Nat.testBit (bs.getD k 0) j = true ∧ ((all[j]?).bind (·.dst)).isSome = true then guardD rs δ j want π else .none) with
    | some (true, δ, π, v1) =>
      match (match o.op with
        | .pick (.tmp t) _ _ => (match wrt all 0 t with
          | some j => (match decD rs δ j π with
            | some (_, δ, π, v) => some (δ, π, v)
            | .none => .none)
          | .none => some (δ, π, []))
        | _ => some (δ, π, [])) with
      | some (δ, π, v2) =>
        fM (maskF n0 births (fun j => tbit (bs.getD k 0) j) M 0) fun Mk =>
        match evQ Γ wr tb Mk (evE all bs fr0 rs δ k M.length) o.op with
        | some (r, news, v3) => fAV r fun r => fM news fun news => fP (v1 ++ v2 ++ v3) fun v =>
          if ((r.ids.all (idOk n0 (births ++ news.map fun _ => k) (bs.getD k 0) k)) && news.all fun b => match b with
            | .r vs => vs.all fun x => x.ids.all (idOk n0 (births ++ news.map fun _ => k) (bs.getD k 0) k)
            | _ => true) = true then
            fS (rs ++ [r]) fun rs1 => fS (M ++ news) fun M1 => fS (births ++ news.map fun _ => k) fun b1 => (match evD Γ wr tb all bs fr0 n0 rest (k + 1) rs1 M1 b1 δ π with
            | some (rs, M, births, δ, π, v') => some (rs, M, births, δ, π, v ++ v')
            | .none => .none)
          else .none
        | .none => .none
      | .none => .none
    | some (false, δ, π, v1) => fS (rs ++ [AV.un]) fun rs1 => (match evD Γ wr tb all bs fr0 n0 rest (k + 1) rs1 M births δ π with
      | some (rs, M, births, δ, π, v') => some (rs, M, births, δ, π, v1 ++ v')
      | .none => .none)
    | .none => .none

/-- What is known of a test: whatever stands there is b. -/
def DecAt (rs : List AV) (j : Nat) (b : Bool) : Prop := ∀ (ρ : Rho) (v : Value), Den ρ (rs.getD j .any) v → v = .bool b

structure OpFact (Γ : Tab) (wr : Bool) (tb : FuncId → Option Fun) (all : List Oper) (bs : List Nat) (fr0 : List AV) (n0 : Nat) (rsn : List AV) (Mn : List Blk) (bn : List Nat) (i : Nat) (o : Oper) : Prop where
  wanted : ∃ want : Bool, (match o.guard with
      | .none => want = true
      | some (j, s) => (Nat.testBit (bs.getD i 0) j = true ∧ ((all[j]?).bind (·.dst)).isSome = true) ∧ ((∃ b, DecAt rsn j b ∧ want = (b == s)) ∨ (want = false ∧ rsn.getD j .any = .un))) ∧
    (want = false → rsn.getD i .any = .un ∧ ∀ m, bn.getD m big ≠ i) ∧
    (want = true → ∃ (base : Nat) (news Mk : List Blk) (E : Operand → AV) (vs : List Prop), n0 ≤ base ∧ base + news.length ≤ Mn.length ∧ Mk.length = base ∧
      (∀ id, id < base → Mk[id]? = (Mn[id]?).map fun b => if id < n0 then b else if Nat.testBit (bs.getD i 0) (bn.getD (id - n0) big) = true then b else .dead) ∧
      (∀ m, m < news.length → Mn[base + m]? = news[m]?) ∧
      (∀ m, bn.getD m big = i ↔ base ≤ n0 + m ∧ n0 + m < base + news.length) ∧
      evQ Γ wr tb Mk E o.op = some (rsn.getD i .any, news, vs) ∧ allP vs ∧
      (∀ x, ∀ id ∈ (E x).ids, id < base) ∧
      (∀ x, (∀ t, x ≠ .tmp t) → E x = evA [] x) ∧
      (∀ t, E (.tmp t) = .any ∨ (E (.tmp t) = fr0.getD t .any ∧ (wrt all 0 t = .none ∨ ∃ j, wrt all 0 t = some j ∧ Nat.testBit (bs.getD j 0) i = true)) ∨
        (∃ j, wrt all 0 t = some j ∧ Nat.testBit (bs.getD i 0) j = true ∧ (E (.tmp t) = rsn.getD j .any ∨ ∃ b, DecAt rsn j b ∧ E (.tmp t) = .d b))) ∧
      (∀ id ∈ (rsn.getD i .any).ids, idOk n0 bn (bs.getD i 0) i id = true ∧ id < base + news.length) ∧
      (∀ m vs, m < news.length → Mn[base + m]? = some (.r vs) → ∀ x ∈ vs, ∀ id ∈ x.ids, idOk n0 bn (bs.getD i 0) i id = true ∧ id < base + news.length) ∧
      (∀ id vs, id < base → n0 ≤ id → Mn[id]? = some (.r vs) → ∀ x ∈ vs, ∀ i ∈ x.ids, i < base))

theorem getD_app {α : Type} {l r : List α} {i : Nat} {d : α} (h : i < l.length) : (l ++ r).getD i d = l.getD i d := by
  rw [List.getD_eq_getElem?_getD, List.getD_eq_getElem?_getD, List.getElem?_append_left h]
theorem getD_end {α : Type} {l r : List α} {x d : α} : (l ++ [x] ++ r).getD l.length d = x := by
  rw [List.getD_eq_getElem?_getD, List.append_assoc, List.getElem?_append_right (Nat.le_refl _)]; simp
theorem getD_out {α : Type} {l : List α} {i : Nat} {d : α} (h : l.length ≤ i) : l.getD i d = d := by
  rw [List.getD_eq_getElem?_getD, List.getElem?_eq_none h]; rfl

def DecOK (rs : List AV) (δ : List (Nat × Bool)) : Prop := ∀ j b, dget δ j = some b → j < rs.length ∧ DecAt rs j b

theorem DecAt.app {rs r : List AV} {j : Nat} {b : Bool} (hj : j < rs.length) (h : DecAt rs j b) : DecAt (rs ++ r) j b := by
  intro ρ v hv
  rw [getD_app hj] at hv
  exact h ρ v hv

theorem decD_sound {rs : List AV} {δ δ' : List (Nat × Bool)} {j : Nat} {π π' : List Bool} {b : Bool} {v : List Prop} (hδ : DecOK rs δ) (h : decD rs δ j π = some (b, δ', π', v)) (hv : allP v) :
    DecOK rs δ' ∧ j < rs.length ∧ DecAt rs j b := by
  have hlt : ∀ q, rs.getD j .any = q → q ≠ .any → j < rs.length := by
    intro q hq hne
    rcases Nat.lt_or_ge j rs.length with h | h
    · exact h
    · rw [getD_out h] at hq; exact absurd hq.symm hne
  have ext : ∀ p, rs.getD j .any = .b p → p = b → DecOK rs ((j, b) :: δ) ∧ j < rs.length ∧ DecAt rs j b := by
    intro p hp hb
    have h1 := hlt _ hp (by simp)
    have h2 : DecAt rs j b := fun ρ v hd => by rw [hp] at hd; simp only [Den] at hd; rw [hd, hb]
    refine ⟨fun k c hk => ?_, h1, h2⟩
    simp only [dget] at hk
    split at hk
    · rename_i e; subst e; cases hk; exact ⟨h1, h2⟩
    · exact hδ k c hk
  unfold decD at h
  split at h
  · rename_i b' hb; cases h; exact ⟨hδ, (hδ j _ hb).1, (hδ j _ hb).2⟩
  · split at h
    · rename_i e; cases h; exact ⟨hδ, hlt _ e (by simp), fun ρ v hd => by rw [e] at hd; exact hd⟩
    · rename_i p e
      split at h
      · cases h; exact ext p e hv.1
      · cases h; exact ext p e hv.1
      · cases h
    · cases h

theorem clip_ids (n : Nat) (x : AV) : ∀ id ∈ (clip n x).ids, id < n := by
  unfold clip
  split
  · rename_i h
    intro id hid
    have := List.all_eq_true.1 h id hid
    simpa using this
  · simp [AV.ids]

theorem evD_facts {wr : Bool} {tb : FuncId → Option Fun} {all : List Oper} {bs : List Nat} {fr0 : List AV} {n0 : Nat} :
    ∀ (l : List Oper) (k : Nat) (rs : List AV) (M : List Blk) (births : List Nat) (δ : List (Nat × Bool)) (π : List Bool) (rsn : List AV) (Mn : List Blk) (bn : List Nat) (δn : List (Nat × Bool)) (πn : List Bool) (vs : List Prop),
      evD Γ wr tb all bs fr0 n0 l k rs M births δ π = some (rsn, Mn, bn, δn, πn, vs) → allP vs → rs.length = k → n0 ≤ M.length → births.length = M.length - n0 → DecOK rs δ →
      (∀ m, m < births.length → births.getD m big < k) → k + l.length ≤ big →
      (∀ id vs, n0 ≤ id → M[id]? = some (.r vs) → ∀ x ∈ vs, ∀ i ∈ x.ids, i < M.length) →
      (∃ r1, rsn = rs ++ r1 ∧ r1.length = l.length) ∧ (∃ r2, Mn = M ++ r2) ∧ (∃ r3, bn = births ++ r3 ∧ ∀ m, m < r3.length → k ≤ r3.getD m big ∧ r3.getD m big < k + l.length) ∧ bn.length = Mn.length - n0 ∧ DecOK rsn δn ∧
      ∀ m o, l[m]? = some o → OpFact Γ wr tb all bs fr0 n0 rsn Mn bn (k + m) o := by
  intro l
  induction l with
  | nil =>
    intro k rs M births δ π rsn Mn bn δn πn vs h hv hk hn hb hδ hbk _ hcl
    cases h
    exact ⟨⟨[], by simp⟩, ⟨[], by simp⟩, ⟨[], by simp⟩, hb, hδ, by simp⟩
  | cons o rest ih =>
    intro k rs M births δ π rsn Mn bn δn πn vs h hv hk hn hb hδ hbk hbig hcl
    simp only [evD, fS_eq] at h
    -- the guard
    have guard : ∀ (b : Bool) (δ1 : List (Nat × Bool)) (π1 : List Bool) (v1 : List Prop),
        (match o.guard with
          | .none => some (true, δ, π, [])
          | some (j, want) => if Nat.testBit (bs.getD k 0) j = true ∧ ((all[j]?).bind (·.dst)).isSome = true then guardD rs δ j want π else .none) = some (b, δ1, π1, v1) → allP v1 →
        DecOK rs δ1 ∧ ∀ r1, (match o.guard with
          | .none => b = true
          | some (j, s) => (Nat.testBit (bs.getD k 0) j = true ∧ ((all[j]?).bind (·.dst)).isSome = true) ∧ ((∃ c, DecAt (rs ++ r1) j c ∧ b = (c == s)) ∨ (b = false ∧ (rs ++ r1).getD j .any = .un))) := by
      intro b δ1 π1 v1 hg hv1
      split at hg
      · cases hg; exact ⟨hδ, fun _ => rfl⟩
      · rename_i j want _
        split at hg
        · rename_i ht
          unfold guardD at hg
          split at hg
          · rename_i hun
            cases hg
            have hjl : j < rs.length := by
              rcases Nat.lt_or_ge j rs.length with h | h
              · exact h
              · rw [getD_out h] at hun; cases hun
            exact ⟨hδ, fun r1 => ⟨ht, .inr ⟨rfl, by rw [getD_app hjl]; exact hun⟩⟩⟩
          split at hg
          · rename_i c δ2 π2 v2 hd
            cases hg
            obtain ⟨q1, q2, q3⟩ := decD_sound hδ hd hv1
            exact ⟨q1, fun r1 => ⟨ht, .inl ⟨c, q3.app q2, rfl⟩⟩⟩
          · cases hg
        · cases hg
    split at h
    · rename_i δ1 π1 v1 hg
      split at h
      · rename_i δ2 π2 v2 hp
        rw [fM_eq] at h
        split at h
        · rename_i r news v3 hq
          simp only [fAV_eq, fM_eq, fP_eq] at h
          split at h
          · rename_i hids
            split at h
            · rename_i rs' M' births' δ' π' v' hrest
              cases h
              rw [allP_app, allP_app, allP_app] at hv
              obtain ⟨⟨⟨hv1, hv2⟩, hv3⟩, hv4⟩ := hv
              obtain ⟨hδ1, hgd⟩ := guard true δ1 π1 v1 hg hv1
              have hδ2 : DecOK rs δ2 := by
                split at hp
                · split at hp
                  · split at hp
                    · rename_i hd
                      cases hp
                      exact (decD_sound hδ1 hd hv2).1
                    · cases hp
                  · cases hp; exact hδ1
                · cases hp; exact hδ1
              simp only [Bool.and_eq_true, List.all_eq_true] at hids
              obtain ⟨hid1, hid2⟩ := hids
              have hbl : (births ++ news.map fun _ => k).length = (M ++ news).length - n0 := by simp only [List.length_append, List.length_map]; omega
              have hlast : ∀ m, m < (births ++ news.map fun _ => k).length → (births ++ news.map fun _ => k).getD m big < k + 1 := by
                intro m hm
                by_cases hmb : m < births.length
                · rw [getD_app hmb]; have := hbk m hmb; omega
                · have hmn : m - births.length < news.length := by simp only [List.length_append, List.length_map] at hm; omega
                  rw [List.getD_eq_getElem?_getD, List.getElem?_append_right (by omega), List.getElem?_map, List.getElem?_eq_getElem hmn]
                  simp
              have hidlt : ∀ id, idOk n0 (births ++ news.map fun _ => k) (bs.getD k 0) k id = true → id < (M ++ news).length := by
                intro id hid
                unfold idOk at hid; simp only [fBig_eq] at hid
                simp only [Bool.or_eq_true, Bool.and_eq_true, decide_eq_true_eq, hbl] at hid
                rcases hid with h2 | ⟨h2, -⟩
                · simp only [List.length_append]; omega
                · omega
              have hcl' : ∀ id vs, n0 ≤ id → (M ++ news)[id]? = some (.r vs) → ∀ x ∈ vs, ∀ i ∈ x.ids, i < (M ++ news).length := by
                intro id vs hid hg2 x hx i hi
                by_cases hlt : id < M.length
                · rw [List.getElem?_append_left hlt] at hg2
                  have := hcl id vs hid hg2 x hx i hi
                  simp only [List.length_append]; omega
                · rw [List.getElem?_append_right (by omega)] at hg2
                  have hm := List.mem_of_getElem? hg2
                  have := hid2 _ hm
                  simp only [List.all_eq_true] at this
                  exact hidlt i (this x hx i hi)
              obtain ⟨⟨r1, e1, l1⟩, ⟨r2, e2⟩, ⟨r3, e3, l3⟩, hbn, hδn, hfacts⟩ := ih (k + 1) (rs ++ [r]) (M ++ news) (births ++ news.map fun _ => k) δ2 π2 _ _ _ _ _ _ hrest hv4 (by simp [hk]) (by simp only [List.length_append]; omega) hbl
                (fun j b hj => ⟨by have := (hδ2 j b hj).1; simp only [List.length_append, List.length_cons, List.length_nil]; omega, (hδ2 j b hj).2.app (hδ2 j b hj).1⟩) hlast (by simp only [List.length_cons] at hbig; omega) hcl'
              have hr : rsn.getD k .any = r := by rw [e1, ← hk]; exact getD_end
              have hbget : ∀ m, m < births.length → bn.getD m big = births.getD m big := fun m hm => by rw [e3, List.append_assoc, getD_app hm]
              have hbnew : ∀ m, births.length ≤ m → m < births.length + news.length → bn.getD m big = k := by
                intro m h1 h2
                rw [e3, getD_app (by simp only [List.length_append, List.length_map]; omega), List.getD_eq_getElem?_getD, List.getElem?_append_right h1, List.getElem?_map, List.getElem?_eq_getElem (by omega)]
                rfl
              have hbpost : ∀ m, births.length + news.length ≤ m → bn.getD m big ≠ k := by
                intro m hm
                by_cases hml : m < bn.length
                · have e4 : bn.getD m big = r3.getD (m - (births.length + news.length)) big := by
                    rw [e3, List.getD_eq_getElem?_getD, List.getD_eq_getElem?_getD, List.getElem?_append_right (by simp only [List.length_append, List.length_map]; omega)]
                    simp only [List.length_append, List.length_map]
                  have : m - (births.length + news.length) < r3.length := by rw [e3] at hml; simp only [List.length_append, List.length_map] at hml; omega
                  rw [e4]
                  have := (l3 _ this).1
                  omega
                · rw [getD_out (by omega)]
                  simp only [List.length_cons] at hbig; omega
              have hidup : ∀ id, idOk n0 (births ++ news.map fun _ => k) (bs.getD k 0) k id = true → idOk n0 bn (bs.getD k 0) k id = true := by
                intro id hid
                unfold idOk at hid ⊢; simp only [fBig_eq] at hid ⊢
                simp only [Bool.or_eq_true, Bool.and_eq_true, decide_eq_true_eq] at hid ⊢
                rcases hid with h2 | ⟨h2, h3⟩
                · exact .inl h2
                · rw [e3, getD_app h2]
                  exact .inr ⟨by rw [List.length_append]; omega, h3⟩
              refine ⟨⟨[r] ++ r1, by rw [e1, List.append_assoc], by simp [l1]⟩, ⟨news ++ r2, by rw [e2, List.append_assoc]⟩, ⟨(news.map fun _ => k) ++ r3, by rw [e3, List.append_assoc], ?_⟩, hbn, hδn, ?_⟩
              · intro m hm
                by_cases hmn : m < news.length
                · have : ((news.map fun _ => k) ++ r3).getD m big = k := by
                    rw [getD_app (by simpa using hmn), List.getD_eq_getElem?_getD, List.getElem?_map, List.getElem?_eq_getElem hmn]; rfl
                  rw [this]; simp only [List.length_cons]; omega
                · have e4 : ((news.map fun _ => k) ++ r3).getD m big = r3.getD (m - news.length) big := by
                    rw [List.getD_eq_getElem?_getD, List.getD_eq_getElem?_getD, List.getElem?_append_right (by simp only [List.length_map]; omega), List.length_map]
                  simp only [List.length_append, List.length_map] at hm
                  have := l3 (m - news.length) (by omega)
                  rw [e4]; simp only [List.length_cons]; omega
              · intro m o' hm
                cases m with
                | succ m =>
                  rw [show k + (m + 1) = k + 1 + m from by omega]
                  exact hfacts m o' (by simpa using hm)
                | zero =>
                  simp only [List.getElem?_cons_zero, Option.some.injEq] at hm
                  subst hm
                  rw [Nat.add_zero]
                  refine ⟨⟨true, ?_, (fun h => by cases h), fun _ => ⟨M.length, news, _, _, v3, hn, ?_, maskF_len .., ?_, ?_, ?_, by rw [hr]; exact hq, hv3, ?_, ?_, ?_, ?_, ?_, ?_⟩⟩⟩
                  · have := hgd ([r] ++ r1)
                    rw [← List.append_assoc, ← e1] at this
                    exact this
                  · rw [e2]; simp only [List.length_append]; omega
                  · intro id hid
                    rw [maskF_get, Nat.zero_add]
                    have : Mn[id]? = M[id]? := by rw [e2, List.append_assoc, List.getElem?_append_left hid]
                    rw [this]
                    cases hMi : M[id]? with
                    | none => rfl
                    | some b =>
                      simp only [Option.map_some]
                      by_cases h0 : id < n0
                      · simp only [h0, if_true]
                      · simp only [h0, if_false, hbget (id - n0) (by omega)]; (first | rfl | (rw [tbit_eq]; rfl))
                  · intro m hm
                    rw [e2, List.getElem?_append_left (by simp only [List.length_append]; omega), List.getElem?_append_right (by omega), show M.length + m - M.length = m from by omega]
                  · intro m
                    constructor
                    · intro hm
                      by_cases h1 : m < births.length
                      · rw [hbget m h1] at hm; have := hbk m h1; omega
                      · by_cases h2 : m < births.length + news.length
                        · omega
                        · exact absurd hm (hbpost m (by omega))
                    · rintro ⟨h1, h2⟩
                      exact hbnew m (by omega) (by omega)
                  · intro x
                    cases x with
                    | tmp t => exact clip_ids _ _
                    | const c => simp only [evE, evA, ids_const]; simp
                    | func f => simp [evE, evA, AV.ids]
                    | global g => simp [evE, evA, AV.ids]
                  · intro x hx
                    cases x with
                    | tmp t => exact absurd rfl (hx t)
                    | _ => rfl
                  · intro t
                    simp only [evE, clip]
                    split
                    · unfold lookD
                      split
                      · rename_i e; exact .inr (.inl ⟨rfl, .inl e⟩)
                      · rename_i j e
                        split
                        · rename_i ht
                          split
                          · rename_i b hb'
                            obtain ⟨q1, q2⟩ := hδ2 j b hb'
                            exact .inr (.inr ⟨j, e, ht, .inr ⟨b, by rw [e1, List.append_assoc]; exact q2.app q1, rfl⟩⟩)
                          · by_cases hjl : j < rs.length
                            · exact .inr (.inr ⟨j, e, ht, .inl (by rw [e1, List.append_assoc, getD_app hjl])⟩)
                            · exact .inl (getD_out (by omega))
                        · split
                          · rename_i ht; exact .inr (.inl ⟨rfl, .inr ⟨j, e, ht⟩⟩)
                          · exact .inl rfl
                    · exact .inl rfl
                  · intro id hid
                    rw [hr] at hid
                    exact ⟨hidup id (hid1 id hid), by have := hidlt id (hid1 id hid); simpa using this⟩
                  · intro m vs hm hg2 x hx id hid
                    have hmm : news[m]? = some (.r vs) := by
                      rw [← hg2, e2, List.getElem?_append_left (by simp only [List.length_append]; omega), List.getElem?_append_right (by omega), show M.length + m - M.length = m from by omega]
                    have := hid2 _ (List.mem_of_getElem? hmm)
                    simp only [List.all_eq_true] at this
                    exact ⟨hidup id (this x hx id hid), by have := hidlt id (this x hx id hid); simpa using this⟩
                  · intro id vs hid h0 hg2
                    have : Mn[id]? = M[id]? := by rw [e2, List.append_assoc, List.getElem?_append_left hid]
                    rw [this] at hg2
                    exact hcl id vs h0 hg2
            · cases h
          · cases h
        · cases h
      · cases h
    · rename_i δ1 π1 v1 hg
      split at h
      · rename_i rs' M' births' δ' π' v' hrest
        cases h
        rw [allP_app] at hv
        obtain ⟨hv1, hv4⟩ := hv
        obtain ⟨hδ1, hgd⟩ := guard false δ1 π1 v1 hg hv1
        obtain ⟨⟨r1, e1, l1⟩, ⟨r2, e2⟩, ⟨r3, e3, l3⟩, hbn, hδn, hfacts⟩ := ih (k + 1) (rs ++ [.un]) M births δ1 π1 _ _ _ _ _ _ hrest hv4 (by simp [hk]) hn hb
          (fun j b hj => ⟨by have := (hδ1 j b hj).1; simp only [List.length_append, List.length_cons, List.length_nil]; omega, (hδ1 j b hj).2.app (hδ1 j b hj).1⟩) (fun m hm => by have := hbk m hm; omega) (by simp only [List.length_cons] at hbig; omega) hcl
        refine ⟨⟨[.un] ++ r1, by rw [e1, List.append_assoc], by simp [l1]⟩, ⟨r2, e2⟩, ⟨r3, e3, fun m hm => by have := l3 m hm; simp only [List.length_cons]; omega⟩, hbn, hδn, ?_⟩
        intro m o' hm
        cases m with
        | succ m =>
          rw [show k + (m + 1) = k + 1 + m from by omega]
          exact hfacts m o' (by simpa using hm)
        | zero =>
          simp only [List.getElem?_cons_zero, Option.some.injEq] at hm
          subst hm
          rw [Nat.add_zero]
          refine ⟨⟨false, ?_, fun _ => ⟨by rw [e1, ← hk]; exact getD_end, fun m hm => ?_⟩, fun h => by cases h⟩⟩
          · have := hgd ([.un] ++ r1)
            rw [← List.append_assoc, ← e1] at this
            exact this
          · by_cases h1 : m < births.length
            · rw [e3, getD_app h1] at hm; have := hbk m h1; omega
            · by_cases h2 : m < bn.length
              · have e4 : bn.getD m big = r3.getD (m - births.length) big := by
                  rw [e3, List.getD_eq_getElem?_getD, List.getD_eq_getElem?_getD, List.getElem?_append_right (by omega)]
                rw [e3, List.length_append] at h2
                have := (l3 (m - births.length) (by omega)).1
                omega
              · rw [getD_out (by omega)] at hm
                simp only [List.length_cons] at hbig; omega
      · cases h
    · cases h

end Go.Eng
